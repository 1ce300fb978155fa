/- The row: from a closed run that ends in true. -/
import Derived.Test.YtpmejcfbnghaeaaGreatDoorT21
import Derived.Test.YtpmejcfbnghaeaaGreatDoorT20
import Derived.Test.YtpmejcfbnghaeaaGreatDoorT41
import Derived.Test.YtpmejcfbnghaeaaGreatDoorRows
import Derived.Test.YtpmejcfbnghaeaaGreatDoorTie
import Derived.Test.YtpmejcfbnghaeaaGreatDoorCards
import Derived.ProofKit
import Derived.OpenShut
import Derived.LaidMore
import Derived.Lay
import Derived.SevenTiedAt
import Derived.Stop.Joined
namespace Go.Abs
theorem scalar_ints {w : World} {Fz : Cells} (k : IntKind) : ∀ (l : List Int), RepDs w Fz (l.map fun n => .lit (.int k n)) (l.map fun n => .int k n)
  | [] => .nil
  | _ :: r => .cons (.lit rfl) (scalar_ints k r)
/-- A closed run that ends in true, at a world whose table is as it is laid. -/
theorem ret_true {f : Nat} (h : ACalls ctxR f [] [] fun r _ => r.toD = some (.lit (.bool true))) {W : World} {ns : List Int} (hn : glob1 = ns.map fun n => .lit (.int .u64 n)) (hc : ∀ i n, ns[i]? = some n → W.cell? ⟨1, i, none⟩ = some (.int .u64 n)) (h0 : 1 < W.heap.size) :
    Calls Go.Proofs.Tryz.prog f #[] W fun e W' => e = .returned (.bool true) ∧ W.keptBut W' fun _ => False := by
  have ok : St.ok { w := W, Fz := fun j _ => j = 1, ι := fun _ _ => 0, O := fun _ _ _ => False, H := [] } :=
    ⟨fun b o hb => by simp at hb, fun _ _ _ _ h => h, fun _ _ _ _ _ h => h.elim, fun _ _ _ h => h.elim, fun _ _ _ h => h.elim, fun j _ hj => by
      have hj' : j = 1 := hj
      subst hj'; exact h0⟩
  have hG : GOk ctxR { w := W, Fz := fun j _ => j = 1, ι := fun _ _ => 0, O := fun _ _ _ => False, H := [] } := by
    intro g cs hg
    have hg' : globAt g = some cs := hg
    unfold globAt at hg'
    split at hg'
    · injection hg' with hg'; subst hg'
      refine RepD.rp (vs := ns.map fun n => .int .u64 n) ?_ ?_ ?_
      · rw [hn]; intro d hd
        obtain ⟨n, _, rfl⟩ := List.mem_map.1 hd
        rfl
      · intro i v hv
        rw [List.getElem?_map] at hv
        cases hi : ns[i]? with
        | none => rw [hi] at hv; cases hv
        | some n =>
          rw [hi] at hv; injection hv with hv; subst hv
          exact ⟨rfl, by rw [Nat.zero_add]; exact hc i n hi⟩
      · rw [hn]; exact scalar_ints _ _
    · cases hg'
  refine (h _ [] rfl ok hG .nil).mono fun e W' ⟨v, r, τ, h1, h2, h3, h4, h5, h6⟩ => ?_
  have hv := h4.toD h3
  cases hv
  subst h2
  refine ⟨h1, h6.os, h6.output, fun i hi => ?_⟩
  rw [h6.block i hi fun o ho => by obtain ⟨b, hb⟩ := ho; exact hb]
  cases hx : W.heap[i]? with
  | none => simp
  | some o => cases o <;> simp
end Go.Abs
namespace Go.Proofs.YtpmejcfbnghaeaaGreatDoor
open Go.ChangeShapes Go.WideShapes Go.ChangeAt Go.RowKit
theorem own : ownKnob Tryz.prog.godebug = none := by kernel_rfl
def powZ : List Int := [1, 10, 100, 1000, 10000, 100000, 1000000, 10000000, 100000000, 1000000000, 10000000000, 100000000000, 1000000000000, 10000000000000, 100000000000000, 1000000000000000, 10000000000000000, 100000000000000000, 1000000000000000000, 10000000000000000000]
theorem prop_cell {W : World} (h : laidMetH Tryz.prog Rows.cacheNilRow.laid W) (r : Nat) (hr : r < 20) : W.cell? ⟨1, r, none⟩ = some (.int .u64 (powZ.getD r 0)) := by
  rw [MakeChecks.laidMetH_plain _ _ _ (by kernel_rfl)] at h
  obtain ⟨ps, ⟨_, _, _, _, _, _, _, _, _, _, ⟨_, _, _, _, _, _, _, _, _, _, ⟨g, t, cs, fuel, p, q, hg, ht, hv, hd, _, _⟩, _⟩, _⟩, _, _⟩ := h
  obtain rfl := Option.some.inj ((show Tryz.prog.globalNamed "internal/strconv.uint64pow10" = some 1 by kernel_rfl).symm.trans hg)
  obtain rfl := Option.some.inj ((show (Tryz.prog.globals[1]?).map (·.type) = some 348 by kernel_rfl).symm.trans ht)
  obtain ⟨xs, m, _, ex, _, hl, hel⟩ := DataW.trod_array (show Tryz.prog.underlying 348 = some (.array 20 27) by kernel_rfl) hd
  have c5 : Tryz.prog.cellsOf 27 = 1 := by kernel_rfl
  have hE := hel r hr
  rw [c5, Nat.mul_one, List.getElem?_eq_getElem (by omega)] at hE
  obtain ⟨z, e1, e2, _⟩ := DataW.trod_int (show Tryz.prog.underlying 27 = some (.int .u64) by kernel_rfl) hE
  have hlen : powZ.length = 20 := by kernel_rfl
  have e3 : (xs.map (·.1)) = powZ.map fun n => .lit (.int .u64 n) := (DataW.agg.inj (Prod.mk.inj ex).1).symm
  have e4 : (xs.map (·.1))[r]? = (powZ.map fun n => (DataW.lit (.int .u64 n) : DataW Unit))[r]? := by rw [e3]
  rw [List.getElem?_map, List.getElem?_map, List.getElem?_eq_getElem (by omega : r < xs.length), List.getElem?_eq_getElem (by omega : r < powZ.length), e2] at e4
  have hz : z = powZ.getD r 0 := by
    simp only [Option.map_some, Option.some.injEq, DataW.lit.injEq, Lit.int.injEq, true_and] at e4
    rw [e4, List.getD, List.getElem?_eq_getElem (by omega : r < powZ.length)]; rfl
  rw [World.var?_cell hg hv r, ← hz]
  have : cs.toList[r]? = some (.int .u64 z) := by
    have h0 : ((cs.toList.drop r).take 1)[0]? = some (.int .u64 z) := by rw [e1]; rfl
    simpa using h0
  simpa using this
theorem pow_glob : Go.Abs.glob1 = powZ.map fun n => .lit (.int .u64 n) := rfl
set_option maxRecDepth 100000 in
theorem lifted (hrun : Go.Abs.ACalls Go.Abs.ctxR 3 [] [] fun r _ => r.toD = some (.lit (.bool true))) (os : Os) (started : os.Started) (H : Type) (enc : TypeId × Value → H) :
    ReturnsInHanded {} Tryz.checked os 3 .any (fun w args => (Rows.cacheNilSpec.pre enc Tryz.prog Tryz.f3 Rows.cacheNilRow.domain false w args ∧ laidMetH Tryz.prog Rows.cacheNilRow.laid w) ∧ sizedMet enc Tryz.prog Tryz.f3 (OpenSpec.ofChange Rows.cacheNilSpec) false w args)
      (Rows.cacheNilSpec.post enc Tryz.prog Tryz.f3 false true false false) := by
  refine returnsInHanded_of_change_and (C := Tryz.checked) (X := fun w _ => laidMetH Tryz.prog Rows.cacheNilRow.laid w) (fun _ _ _ hh h => h.of_heap hh) own started (by kernel_rfl) Tryz.func3
    (ChangeSpec.witness_shaped (enc := enc) (C := Tryz.checked) (os := os) (X := fun w _ => laidMetH Tryz.prog Rows.cacheNilRow.laid w) false (World.laidAll Tryz.prog os Rows.cacheNilRow.laid) #[] 8 (World.laidAll_os _ _ _)
      (World.shaped_of_ZipB (by kernel_rfl) (by kernel_rfl)) (by kernel_rfl) (by kernel_rfl) (by kernel_rfl)
      (by rw [MakeChecks.laidMetH_plain _ _ _ (by kernel_rfl)]; exact laidMet_laidAll _ (by kernel_rfl) (by kernel_rfl))) ?_
  intro W base args ds gs before hval0 hW hc _ hL _
  have hW' := hW
  obtain ⟨p, q, hA0, hV, rfl, _, _⟩ := hW
  have hA : DataW.TrodAll enc Tryz.prog W 0 (fun _ => true) true Tryz.f3.params.toList args.toList ds p := hA0
  rw [Tryz.params3] at hA
  obtain ⟨ha, rfl, rfl⟩ := trodAll_nil hA
  obtain rfl : args = #[] := Array.ext' ha
  obtain ⟨rfl, rfl⟩ := trodVars_none hV
  have h0 : 1 < W.heap.size := by
    have := prop_cell hL 0 (by decide)
    rcases Nat.lt_or_ge 1 W.heap.size with h | h
    · exact h
    · simp [World.cell?, Array.getElem?_eq_none h] at this
  refine (Go.Abs.ret_true hrun pow_glob (fun i n hi => ?_) h0).mono fun e W' ⟨he, hw⟩ => ?_
  · have hi' : i < 20 := by
      have := (List.getElem?_eq_some_iff.1 hi).1
      have hlen : powZ.length = 20 := by kernel_rfl
      omega
    have := prop_cell hL i hi'
    rw [this, List.getD, hi]; rfl
  subst he
  exact ⟨_, rfl, [], [], [], [], [], [], hW', trodAll_mk1 (shut_bool Tryz.underlying4 true), rfl, rfl, World.keptBut_mono (fun _ h => h.elim) hw, fun h => by cases h⟩
theorem holds_of (hrun : Go.Abs.ACalls Go.Abs.ctxR 3 [] [] fun r _ => r.toD = some (.lit (.bool true))) : Rows.CacheNilSaid :=
  OpenClaim.holds_of_wide 3 Tryz.f3 rfl rfl rfl rfl rfl rfl rfl ⟨rfl, rfl, rfl, rfl, rfl⟩ rfl rfl rfl rfl rfl (by kernel_rfl) Tryz.func3 jfacts
    (of_decide_eq_true (by kernel_rfl)) (by unfold Func.isWrapper; first | (rw [if_pos (by decide +kernel)]; kernel_rfl) | (rw [if_neg (by decide +kernel)]; exact ⟨rfl, rfl⟩))
    (fun os started H enc _ => lifted hrun os started H enc)
theorem card_of (hrun : Go.Abs.ACalls Go.Abs.ctxR 3 [] [] fun r _ => r.toD = some (.lit (.bool true))) : Rows.CacheNilCardSaid :=
  Claim7.holds_tied_plain_at .later [] [.data, .data, .data, .data, .sentinel, .sentinel, .pinned] true (true, "1021518dcea9b6a92bbc197eaece9fcaeb13375466400e42bc66f4b6fcd6e6e7") true (holds_of hrun) (fun _ h => by cases h) wf3 (fun _ h => by cases h) cacheNil_row_tie rfl ⟨rfl, rfl⟩ (by kernel_rfl) rfl
    (fun f fn hf hfn => by
      obtain rfl : f = 3 := Option.some.inj ((show Tryz.prog.funcNamed "outrider/outriderlaw17.CacheNil" = some 3 by kernel_rfl).symm.trans hf) |>.symm
      obtain rfl : fn = Tryz.f3 := (Option.some.inj (Tryz.func3.symm.trans hfn)).symm
      exact ⟨by kernel_rfl, fun j t ht => by
        rw [Tryz.params3] at ht
        simp at ht⟩)
    goes3
end Go.Proofs.YtpmejcfbnghaeaaGreatDoor
