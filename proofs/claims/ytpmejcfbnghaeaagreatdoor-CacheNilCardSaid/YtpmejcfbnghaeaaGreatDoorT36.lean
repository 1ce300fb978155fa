/- The constants of the sum. -/
import Derived.Test.YtpmejcfbnghaeaaGreatDoorT35
namespace Go.Abs
set_option maxRecDepth 100000
def leastT : List (List D × D) := leastT0 ++ leastT1 ++ leastT2 ++ leastT3 ++ leastT4 ++ leastT5 ++ leastT6 ++ leastT7
theorem leastT_ok : ∀ e ∈ leastT, ACalls ctxR 251 (e.1.map .p) [] fun r _ => r.toD = some e.2 := by
  intro e he
  simp only [leastT, List.mem_append] at he
  rcases he with ((((((h | h) | h) | h) | h) | h) | h) | h
  · exact runsOf_ok ctxOkR L0_ok leastT0_ok e h
  · exact runsOf_ok ctxOkR L0_ok leastT1_ok e h
  · exact runsOf_ok ctxOkR L0_ok leastT2_ok e h
  · exact runsOf_ok ctxOkR L0_ok leastT3_ok e h
  · exact runsOf_ok ctxOkR L0_ok leastT4_ok e h
  · exact runsOf_ok ctxOkR L0_ok leastT5_ok e h
  · exact runsOf_ok ctxOkR L0_ok leastT6_ok e h
  · exact runsOf_ok ctxOkR L0_ok leastT7_ok e h
noncomputable def L1 : XCall := atL 251 (dataL (tbl leastT)) L0
theorem L1_ok : LibOk ctxR L1 := atL_ok L0_ok (dataL_ok (tbl_ok leastT_ok))
def keysD : D := .agg [.lit (.int .u32 1116352408), .lit (.int .u32 1899447441), .lit (.int .u32 3049323471), .lit (.int .u32 3921009573), .lit (.int .u32 961987163), .lit (.int .u32 1508970993), .lit (.int .u32 2453635748), .lit (.int .u32 2870763221), .lit (.int .u32 3624381080), .lit (.int .u32 310598401), .lit (.int .u32 607225278), .lit (.int .u32 1426881987), .lit (.int .u32 1925078388), .lit (.int .u32 2162078206), .lit (.int .u32 2614888103), .lit (.int .u32 3248222580), .lit (.int .u32 3835390401), .lit (.int .u32 4022224774), .lit (.int .u32 264347078), .lit (.int .u32 604807628), .lit (.int .u32 770255983), .lit (.int .u32 1249150122), .lit (.int .u32 1555081692), .lit (.int .u32 1996064986), .lit (.int .u32 2554220882), .lit (.int .u32 2821834349), .lit (.int .u32 2952996808), .lit (.int .u32 3210313671), .lit (.int .u32 3336571891), .lit (.int .u32 3584528711), .lit (.int .u32 113926993), .lit (.int .u32 338241895), .lit (.int .u32 666307205), .lit (.int .u32 773529912), .lit (.int .u32 1294757372), .lit (.int .u32 1396182291), .lit (.int .u32 1695183700), .lit (.int .u32 1986661051), .lit (.int .u32 2177026350), .lit (.int .u32 2456956037), .lit (.int .u32 2730485921), .lit (.int .u32 2820302411), .lit (.int .u32 3259730800), .lit (.int .u32 3345764771), .lit (.int .u32 3516065817), .lit (.int .u32 3600352804), .lit (.int .u32 4094571909), .lit (.int .u32 275423344), .lit (.int .u32 430227734), .lit (.int .u32 506948616), .lit (.int .u32 659060556), .lit (.int .u32 883997877), .lit (.int .u32 958139571), .lit (.int .u32 1322822218), .lit (.int .u32 1537002063), .lit (.int .u32 1747873779), .lit (.int .u32 1955562222), .lit (.int .u32 2024104815), .lit (.int .u32 2227730452), .lit (.int .u32 2361852424), .lit (.int .u32 2428436474), .lit (.int .u32 2756734187), .lit (.int .u32 3204031479), .lit (.int .u32 3329325298)]
theorem keys_run : runOf ctxR L1 4000 222 [] keysD = true := by kernel_rfl
def firstD : D := .agg [.lit (.int .u32 1779033703), .lit (.int .u32 3144134277), .lit (.int .u32 1013904242), .lit (.int .u32 2773480762), .lit (.int .u32 1359893119), .lit (.int .u32 2600822924), .lit (.int .u32 528734635), .lit (.int .u32 1541459225)]
theorem first_run : runOf ctxR L1 4000 221 [] firstD = true := by kernel_rfl
noncomputable def L2 : XCall := atL 222 (dataL (tbl [([], keysD)])) (atL 221 (dataL (tbl [([], firstD)])) L0)
theorem one_ok {f : Nat} {ds : List D} {d : D} (h : ACalls ctxR f (ds.map .p) [] fun r _ => r.toD = some d) : ∀ e ∈ [(ds, d)], ACalls ctxR f (e.1.map .p) [] fun r _ => r.toD = some e.2 := by
  intro e he
  rcases List.mem_singleton.1 he with rfl
  exact h
theorem L2_ok : LibOk ctxR L2 := atL_ok (atL_ok L0_ok (dataL_ok (tbl_ok (one_ok (runOf_ok ctxOkR L1_ok first_run))))) (dataL_ok (tbl_ok (one_ok (runOf_ok ctxOkR L1_ok keys_run))))
end Go.Abs
