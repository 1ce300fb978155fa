/- The library of calls, for runs on values that are known. -/
import Derived.Test.YtpmejcfbnghaeaaGreatDoorT26
import Derived.Test.YtpmejcfbnghaeaaGreatDoorT34
import Derived.Test.YtpmejcfbnghaeaaGreatDoorT31
namespace Go.Abs
set_option linter.unusedVariables false
abbrev HL := List V → AHeap → Option (V × AHeap)
noncomputable def atL (n : Nat) (g : HL) (rest : XCall) : XCall := fun f args H => @Bool.rec (fun _ => Option (V × AHeap)) (rest f args H) (g args H) (Nat.beq f n)
theorem atL_ok {C : Ctx} {n : Nat} {g : HL} {rest : XCall} (hr : LibOk C rest) (hg : ∀ args H r H', g args H = some (r, H') → ACalls C n args H (fun v K => v = r ∧ K = H')) : LibOk C (atL n g rest) := by
  intro f args H r H' h
  unfold atL at h
  cases hb : Nat.beq f n
  · rw [hb] at h; exact hr _ _ _ _ _ h
  · rw [hb] at h
    have : f = n := by rw [← Nat.beq_eq]; exact hb
    subst this
    exact hg _ _ _ _ h
theorem nl_ok (C : Ctx) : LibOk C noLib := fun f args H r H' h => by cases h
/-- A function of data. -/
def dataL (F : List D → Option D) : HL := fun args H => match toDs args with
  | some ds => match F ds with
    | some d => some (.p d, H)
    | none => none
  | none => match frzA H args with
    | some (ds, _) => match F ds with
      | some d => match noRef d with
        | true => some (.p d, H)
        | false => none
      | none => none
    | none => none
theorem dataL_ok {C : Ctx} {f : Nat} {F : List D → Option D} (hF : ∀ ds d, F ds = some d → ACalls C f (ds.map .p) [] fun r _ => r.toD = some d) (args : List V) (H : AHeap) (r : V) (H' : AHeap) (h : dataL F args H = some (r, H')) : ACalls C f args H (fun v K => v = r ∧ K = H') := by
  unfold dataL at h
  split at h
  · rename_i ds hds
    split at h
    · rename_i d hd
      injection h with h; injection h with h1 h2; subst h1; subst h2
      exact acall_sound (.inl ⟨ds, hds, (hF _ _ hd).mono fun r _ hr => ⟨d, hr, rfl, rfl⟩⟩)
    · cases h
  · split at h
    · rename_i ds K hds
      split at h
      · rename_i d hd
        split at h
        · rename_i hn
          injection h with h; injection h with h1 h2; subst h1; subst h2
          exact acall_sound (.inr (.inl ⟨ds, K, hds, (hF _ _ hd).mono fun r _ hr => ⟨d, hr, hn, rfl, rfl⟩⟩))
        · cases h
      · cases h
    · cases h
/-- What is known of single calls. -/
def tbl : List (List D × D) → List D → Option D
  | [], _ => none
  | (k, d) :: r, ds => match dsB k ds with
    | true => some d
    | false => tbl r ds
theorem tbl_ok {C : Ctx} {f : Nat} : ∀ {T : List (List D × D)}, (∀ e ∈ T, ACalls C f (e.1.map .p) [] fun r _ => r.toD = some e.2) → ∀ ds d, tbl T ds = some d → ACalls C f (ds.map .p) [] fun r _ => r.toD = some d
  | [], _, _, _, h => by cases h
  | (k, e) :: r, hT, ds, d, h => by
    simp only [tbl] at h
    split at h
    · rename_i hb
      injection h with h; subst h
      rw [← dsB_spec hb]
      exact hT _ (List.mem_cons_self ..)
    · exact tbl_ok (fun x hx => hT x (List.mem_cons_of_mem _ hx)) ds d h
/-- Runs on data that end in data. -/
noncomputable def runOf (C : Ctx) (L : XCall) (n f : Nat) (ds : List D) (d : D) : Bool := match ycall C L n f (ds.map .p) [] with
  | some (r, _) => match r.toD with
    | some d' => dB d' d
    | none => false
  | none => false
theorem runOf_ok {C : Ctx} (hC : CtxOk C) {L : XCall} (hL : LibOk C L) {n f : Nat} {ds : List D} {d : D} (h : runOf C L n f ds d = true) : ACalls C f (ds.map .p) [] fun r _ => r.toD = some d := by
  unfold runOf at h
  split at h
  · rename_i r K hr
    split at h
    · rename_i d' hd
      have := dB_spec h
      subst this
      exact (ycall_sound hC hL hr).mono fun v _ hv => by rw [hv.1]; exact hd
    · cases h
  · cases h
noncomputable def runsOf (C : Ctx) (L : XCall) (n f : Nat) (T : List (List D × D)) : Bool := T.all fun e => runOf C L n f e.1 e.2
theorem runsOf_ok {C : Ctx} (hC : CtxOk C) {L : XCall} (hL : LibOk C L) {n f : Nat} {T : List (List D × D)} (h : runsOf C L n f T = true) : ∀ e ∈ T, ACalls C f (e.1.map .p) [] fun r _ => r.toD = some e.2 :=
  fun e he => runOf_ok hC hL (List.all_eq_true.1 h e he)
noncomputable def L0 : XCall := (atL 175 (usedL) (atL 129 (cloneL) (atL 101 (compareL) (atL 278 (sortedL) (atL 136 (dataL joinF) (atL 250 (dataL repeatF) (atL 294 (dataL mul64F) (atL 223 (dataL mixF) (atL 61 (dataL cloneF) (atL 32 (dataL cloneF) (atL 167 (dataL cloneF) (atL 105 (dataL cloneF) (atL 104 (dataL cloneF) (atL 103 (dataL cloneF) (atL 102 (dataL cloneF) noLib)))))))))))))))
theorem L0_ok : LibOk ctxR L0 := atL_ok (atL_ok (atL_ok (atL_ok (atL_ok (atL_ok (atL_ok (atL_ok (atL_ok (atL_ok (atL_ok (atL_ok (atL_ok (atL_ok (atL_ok (nl_ok _) (dataL_ok clone102)) (dataL_ok clone103)) (dataL_ok clone104)) (dataL_ok clone105)) (dataL_ok clone167)) (dataL_ok clone32)) (dataL_ok clone61)) (dataL_ok mixF_ok)) (dataL_ok mul64F_ok)) (dataL_ok repeatF_ok)) (dataL_ok joinF_ok)) (fun _ _ _ _ h => sorted_ok h)) (fun _ _ _ _ h => compare_ok h)) (fun _ _ _ _ h => clone_ok h)) (fun _ _ _ _ h => used_ok h)
end Go.Abs
/- The constants of the sum: single calls. -/
namespace Go.Abs
set_option maxRecDepth 100000
def leastT0 : List (List D × D) := [([.lit (.int .u64 2), .lit (.bool true)], .lit (.int .u32 1116352408)), ([.lit (.int .u64 3), .lit (.bool true)], .lit (.int .u32 1899447441)), ([.lit (.int .u64 5), .lit (.bool true)], .lit (.int .u32 3049323471)), ([.lit (.int .u64 7), .lit (.bool true)], .lit (.int .u32 3921009573)), ([.lit (.int .u64 11), .lit (.bool true)], .lit (.int .u32 961987163)), ([.lit (.int .u64 13), .lit (.bool true)], .lit (.int .u32 1508970993)), ([.lit (.int .u64 17), .lit (.bool true)], .lit (.int .u32 2453635748)), ([.lit (.int .u64 19), .lit (.bool true)], .lit (.int .u32 2870763221))]
theorem leastT0_ok : runsOf ctxR L0 4000 251 leastT0 = true := by kernel_rfl
def leastT1 : List (List D × D) := [([.lit (.int .u64 23), .lit (.bool true)], .lit (.int .u32 3624381080)), ([.lit (.int .u64 29), .lit (.bool true)], .lit (.int .u32 310598401)), ([.lit (.int .u64 31), .lit (.bool true)], .lit (.int .u32 607225278)), ([.lit (.int .u64 37), .lit (.bool true)], .lit (.int .u32 1426881987)), ([.lit (.int .u64 41), .lit (.bool true)], .lit (.int .u32 1925078388)), ([.lit (.int .u64 43), .lit (.bool true)], .lit (.int .u32 2162078206)), ([.lit (.int .u64 47), .lit (.bool true)], .lit (.int .u32 2614888103)), ([.lit (.int .u64 53), .lit (.bool true)], .lit (.int .u32 3248222580))]
theorem leastT1_ok : runsOf ctxR L0 4000 251 leastT1 = true := by kernel_rfl
def leastT2 : List (List D × D) := [([.lit (.int .u64 59), .lit (.bool true)], .lit (.int .u32 3835390401)), ([.lit (.int .u64 61), .lit (.bool true)], .lit (.int .u32 4022224774)), ([.lit (.int .u64 67), .lit (.bool true)], .lit (.int .u32 264347078)), ([.lit (.int .u64 71), .lit (.bool true)], .lit (.int .u32 604807628)), ([.lit (.int .u64 73), .lit (.bool true)], .lit (.int .u32 770255983)), ([.lit (.int .u64 79), .lit (.bool true)], .lit (.int .u32 1249150122)), ([.lit (.int .u64 83), .lit (.bool true)], .lit (.int .u32 1555081692)), ([.lit (.int .u64 89), .lit (.bool true)], .lit (.int .u32 1996064986))]
theorem leastT2_ok : runsOf ctxR L0 4000 251 leastT2 = true := by kernel_rfl
def leastT3 : List (List D × D) := [([.lit (.int .u64 97), .lit (.bool true)], .lit (.int .u32 2554220882)), ([.lit (.int .u64 101), .lit (.bool true)], .lit (.int .u32 2821834349)), ([.lit (.int .u64 103), .lit (.bool true)], .lit (.int .u32 2952996808)), ([.lit (.int .u64 107), .lit (.bool true)], .lit (.int .u32 3210313671)), ([.lit (.int .u64 109), .lit (.bool true)], .lit (.int .u32 3336571891)), ([.lit (.int .u64 113), .lit (.bool true)], .lit (.int .u32 3584528711)), ([.lit (.int .u64 127), .lit (.bool true)], .lit (.int .u32 113926993)), ([.lit (.int .u64 131), .lit (.bool true)], .lit (.int .u32 338241895))]
theorem leastT3_ok : runsOf ctxR L0 4000 251 leastT3 = true := by kernel_rfl
def leastT4 : List (List D × D) := [([.lit (.int .u64 137), .lit (.bool true)], .lit (.int .u32 666307205)), ([.lit (.int .u64 139), .lit (.bool true)], .lit (.int .u32 773529912)), ([.lit (.int .u64 149), .lit (.bool true)], .lit (.int .u32 1294757372)), ([.lit (.int .u64 151), .lit (.bool true)], .lit (.int .u32 1396182291)), ([.lit (.int .u64 157), .lit (.bool true)], .lit (.int .u32 1695183700)), ([.lit (.int .u64 163), .lit (.bool true)], .lit (.int .u32 1986661051)), ([.lit (.int .u64 167), .lit (.bool true)], .lit (.int .u32 2177026350)), ([.lit (.int .u64 173), .lit (.bool true)], .lit (.int .u32 2456956037))]
theorem leastT4_ok : runsOf ctxR L0 4000 251 leastT4 = true := by kernel_rfl
def leastT5 : List (List D × D) := [([.lit (.int .u64 179), .lit (.bool true)], .lit (.int .u32 2730485921)), ([.lit (.int .u64 181), .lit (.bool true)], .lit (.int .u32 2820302411)), ([.lit (.int .u64 191), .lit (.bool true)], .lit (.int .u32 3259730800)), ([.lit (.int .u64 193), .lit (.bool true)], .lit (.int .u32 3345764771)), ([.lit (.int .u64 197), .lit (.bool true)], .lit (.int .u32 3516065817)), ([.lit (.int .u64 199), .lit (.bool true)], .lit (.int .u32 3600352804)), ([.lit (.int .u64 211), .lit (.bool true)], .lit (.int .u32 4094571909)), ([.lit (.int .u64 223), .lit (.bool true)], .lit (.int .u32 275423344))]
theorem leastT5_ok : runsOf ctxR L0 4000 251 leastT5 = true := by kernel_rfl
def leastT6 : List (List D × D) := [([.lit (.int .u64 227), .lit (.bool true)], .lit (.int .u32 430227734)), ([.lit (.int .u64 229), .lit (.bool true)], .lit (.int .u32 506948616)), ([.lit (.int .u64 233), .lit (.bool true)], .lit (.int .u32 659060556)), ([.lit (.int .u64 239), .lit (.bool true)], .lit (.int .u32 883997877)), ([.lit (.int .u64 241), .lit (.bool true)], .lit (.int .u32 958139571)), ([.lit (.int .u64 251), .lit (.bool true)], .lit (.int .u32 1322822218)), ([.lit (.int .u64 257), .lit (.bool true)], .lit (.int .u32 1537002063)), ([.lit (.int .u64 263), .lit (.bool true)], .lit (.int .u32 1747873779))]
theorem leastT6_ok : runsOf ctxR L0 4000 251 leastT6 = true := by kernel_rfl
def leastT7 : List (List D × D) := [([.lit (.int .u64 269), .lit (.bool true)], .lit (.int .u32 1955562222)), ([.lit (.int .u64 271), .lit (.bool true)], .lit (.int .u32 2024104815)), ([.lit (.int .u64 277), .lit (.bool true)], .lit (.int .u32 2227730452)), ([.lit (.int .u64 281), .lit (.bool true)], .lit (.int .u32 2361852424)), ([.lit (.int .u64 283), .lit (.bool true)], .lit (.int .u32 2428436474)), ([.lit (.int .u64 293), .lit (.bool true)], .lit (.int .u32 2756734187)), ([.lit (.int .u64 307), .lit (.bool true)], .lit (.int .u32 3204031479)), ([.lit (.int .u64 311), .lit (.bool true)], .lit (.int .u32 3329325298))]
theorem leastT7_ok : runsOf ctxR L0 4000 251 leastT7 = true := by kernel_rfl
end Go.Abs
