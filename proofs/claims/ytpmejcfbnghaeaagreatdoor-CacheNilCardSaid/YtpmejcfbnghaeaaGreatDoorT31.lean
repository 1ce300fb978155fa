/- strings.Join, strings.Repeat, bits.Mul64 as functions of data. -/
import Derived.Test.YtpmejcfbnghaeaaGreatDoorT27
import Derived.Test.YtpmejcfbnghaeaaGreatDoorT30
import Derived.Sort.KeysCollected
import Derived.Test.YtpmejcfbnghaeaaGreatDoorT28
import Derived.Maps.Range
namespace Go.Abs
open Go.RowKit
set_option linter.unusedVariables false
set_option maxRecDepth 100000
def strsOf : List D → Option (List ByteArray)
  | [] => some []
  | .lit (.string s) :: r => match strsOf r with
    | some l => some (s :: l)
    | none => none
  | _ :: _ => none
theorem strsOf_map : ∀ {ds : List D} {l : List ByteArray}, strsOf ds = some l → ds = l.map fun s => D.lit (.string s)
  | [], l, h => by injection h with h; subst h; rfl
  | d :: r, l, h => by
    cases d with
    | lit v =>
      cases v with
      | string s =>
        simp only [strsOf] at h
        cases hr : strsOf r with
        | none => rw [hr] at h; cases h
        | some l' =>
          rw [hr] at h
          injection h with h; subst h
          rw [strsOf_map hr]; rfl
      | _ => cases h
    | _ => cases h
theorem reps_strs {w : World} {Fz : Cells} : ∀ {l : List ByteArray} {vs : List Value}, RepDs w Fz (l.map fun s => D.lit (.string s)) vs → vs = l.map Value.string
  | [], _, .nil => rfl
  | s :: l, _, .cons (.lit _) t => by rw [List.map_cons, reps_strs t]
def joinF : List D → Option D
  | [.sl xs _, .lit (.string sep)] => match strsOf xs with
    | some l => match decide (l.length ≤ 140737488355328) && decide ((Lib.join (l.map (·.data.toList)) sep.data.toList).length ≤ 140737488355328) with
      | true => some (.lit (.string ⟨(Lib.join (l.map (·.data.toList)) sep.data.toList).toArray⟩))
      | false => none
    | none => none
  | _ => none
theorem joinF_ok (ds : List D) (d : D) (h : joinF ds = some d) : ACalls ctxR 136 (ds.map .p) [] fun r _ => r.toD = some d := by
  unfold joinF at h
  split at h
  · rename_i xs full sep
    split at h
    · rename_i l hl
      split at h
      · rename_i hb
        injection h with h; subst h
        rw [Bool.and_eq_true] at hb
        have hb1 : l.length ≤ 140737488355328 := by simpa using hb.1
        have hb2 : (Lib.join (l.map (·.data.toList)) sep.data.toList).length ≤ 140737488355328 := by simpa using hb.2
        have hm := strsOf_map hl
        refine (ACalls_of_below (d := .lit (.string ⟨(Lib.join (l.map (·.data.toList)) sep.data.toList).toArray⟩)) fun σ vals hH ok hG hr => ?_).mono fun r _ h => by rw [h.1]; rfl
        cases hr with
        | cons hp ht =>
        cases ht with
        | cons hq ht =>
        cases ht
        cases hq with
        | p hq =>
        cases hq with
        | lit _ =>
        have hflat : xs.flatMap D.cells = xs := by
          rw [hm]
          clear hm hl hb1 hb2 hb hp
          induction l with
          | nil => rfl
          | cons s r ih => simp only [List.map_cons, List.flatMap_cons, ih]; rfl
        cases hp with
        | p hp =>
        cases hp with
        | @sl _ _ b off c s vs hc hf hs hl' hr' hd =>
          rw [hflat, hm] at hd
          have hvs := reps_strs hd
          subst hvs
          have hlen : xs.length = l.length := by rw [hm, List.length_map]
          rw [hlen] at hc ⊢
          cases hl0 : l with
          | nil =>
            subst hl0
            refine (Go.Proofs.Tryz.strings_Join_none _ c sep σ.w).mono fun e w' ⟨he, hw⟩ => ⟨_, he, by rw [hw]; exact Below.refl _ _, ?_⟩
            exact .lit rfl
          | cons x r =>
            rw [← hl0]
            have hbk : b < σ.w.heap.size := ok.ltf _ _ (hr' 0 (.string x) (by rw [hl0]; rfl)).1
            refine (Go.Proofs.Tryz.strings_Join b off c l sep σ.w (fun j x hj => (hr' j (.string x) (by rw [List.getElem?_map, hj]; rfl)).2) hbk hb1 hc hb2).mono fun e w' ⟨he, hw⟩ => ⟨_, he, hw, .lit rfl⟩
        | sl0 hf =>
          have : l = [] := by
            cases l with
            | nil => rfl
            | cons => cases hm
          subst this
          refine (Go.Proofs.Tryz.strings_Join_none _ _ sep σ.w).mono fun e w' ⟨he, hw⟩ => ⟨_, he, by rw [hw]; exact Below.refl _ _, ?_⟩
          exact .lit rfl
      · cases h
    · cases h
  · cases h
def repeatF : List D → Option D
  | [.lit (.string s), .lit (.int .i64 (.ofNat c))] => match decide (c ≤ 9223372036854775807) && decide (s.size * c ≤ 140737488355328) with
    | true => some (.lit (.string ⟨(Lib.repeatL s.data.toList c).toArray⟩))
    | false => none
  | _ => none
theorem repeatF_ok (ds : List D) (d : D) (h : repeatF ds = some d) : ACalls ctxR 250 (ds.map .p) [] fun r _ => r.toD = some d := by
  unfold repeatF at h
  split at h
  · rename_i s c
    split at h
    · rename_i hb
      injection h with h; subst h
      rw [Bool.and_eq_true] at hb
      have hb1 : c ≤ 9223372036854775807 := by simpa using hb.1
      have hb2 : s.size * c ≤ 140737488355328 := by simpa using hb.2
      refine (ACalls_of_below (d := .lit (.string ⟨(Lib.repeatL s.data.toList c).toArray⟩)) fun σ vals hH ok hG hr => ?_).mono fun r _ h => by rw [h.1]; rfl
      cases hr with
      | cons hp ht =>
      cases ht with
      | cons hq ht =>
      cases ht
      cases hq with
      | p hq =>
      cases hq with
      | lit _ =>
      cases hp with
      | p hp =>
      cases hp with
      | lit _ =>
      exact (Go.Proofs.Tryz.strings_Repeat s c σ.w hb1 hb2).mono fun e w' ⟨he, hw⟩ => ⟨_, he, hw, .lit rfl⟩
    · cases h
  · cases h
def mul64F : List D → Option D
  | [.lit (.int .u64 (.ofNat x)), .lit (.int .u64 (.ofNat y))] => match Nat.blt x 18446744073709551616 && Nat.blt y 18446744073709551616 with
    | true => some (.tup [.lit (.int .u64 (.ofNat (Nat.div (Nat.mul x y) 18446744073709551616))), .lit (.int .u64 (.ofNat (Nat.mod (Nat.mul x y) 18446744073709551616)))])
    | false => none
  | _ => none
theorem mul64F_ok (ds : List D) (d : D) (h : mul64F ds = some d) : ACalls ctxR 294 (ds.map .p) [] fun r _ => r.toD = some d := by
  unfold mul64F at h
  split at h
  · rename_i x y
    split at h
    · rename_i hb
      injection h with h; subst h
      rw [Bool.and_eq_true] at hb
      have hb1 : x < 18446744073709551616 := by simpa [Nat.blt_eq] using hb.1
      have hb2 : y < 18446744073709551616 := by simpa [Nat.blt_eq] using hb.2
      refine (ACalls_of_below (d := _) fun σ vals hH ok hG hr => ?_).mono fun r _ h => by rw [h.1]; rfl
      cases hr with
      | cons hp ht =>
      cases ht with
      | cons hq ht =>
      cases ht
      cases hq with
      | p hq =>
      cases hq with
      | lit _ =>
      cases hp with
      | p hp =>
      cases hp with
      | lit _ =>
      exact (Go.Proofs.Tryz.bits_Mul64 x y hb1 hb2 σ.w).mono fun e w' ⟨he, hw⟩ => ⟨_, he, by rw [hw]; exact Below.refl _ _, .tup (.cons (.lit rfl) (.cons (.lit rfl) .nil))⟩
    · cases h
  · cases h
end Go.Abs
/- Texts in order. -/
namespace Go.Abs
set_option linter.unusedVariables false
/-- Comes a text ahead of another one? -/
def ltL : List UInt8 → List UInt8 → Bool
  | _, [] => false
  | [], _ :: _ => true
  | a :: r, b :: s => match Nat.blt a.toNat b.toNat with
    | true => true
    | false => match Nat.beq a.toNat b.toNat with
      | true => ltL r s
      | false => false
theorem ltL_iff : ∀ (x y : List UInt8), ltL x y = true ↔ x < y
  | x, [] => by cases x <;> simp [ltL]
  | [], b :: s => by simp [ltL]
  | a :: r, b :: s => by
    rw [List.cons_lt_cons_iff, ← ltL_iff r s]
    simp only [ltL]
    cases hb : Nat.blt a.toNat b.toNat with
    | true =>
      have : a.toNat < b.toNat := by simpa [Nat.blt_eq] using hb
      simp only [true_iff]
      exact .inl this
    | false =>
      have h1 : ¬ a.toNat < b.toNat := by intro h; rw [← Nat.blt_eq] at h; rw [h] at hb; cases hb
      have h2 : ¬ a < b := h1
      cases he : Nat.beq a.toNat b.toNat with
      | true =>
        have : a = b := UInt8.toNat_inj.1 (by rw [← Nat.beq_eq]; exact he)
        subst this
        simp
      | false =>
        have : a ≠ b := by rintro rfl; simp at he
        simp [h2, this]
def insL (x : List UInt8) : List (List UInt8) → List (List UInt8)
  | [] => [x]
  | y :: r => match ltL y x with
    | true => y :: insL x r
    | false => x :: y :: r
def sortL : List (List UInt8) → List (List UInt8)
  | [] => []
  | x :: r => insL x (sortL r)
theorem insL_perm (x : List UInt8) : ∀ l, (insL x l).Perm (x :: l)
  | [] => .refl _
  | y :: r => by
    unfold insL
    split
    · exact ((insL_perm x r).cons y).trans (.swap ..)
    · exact .refl _
theorem sortL_perm : ∀ l, (sortL l).Perm l
  | [] => .refl _
  | x :: r => (insL_perm x _).trans ((sortL_perm r).cons x)
theorem insL_sorted (x : List UInt8) : ∀ l, l.Pairwise (fun a b => a ≤ b) → (insL x l).Pairwise (fun a b => a ≤ b)
  | [], _ => by simp [insL]
  | y :: r, h => by
    unfold insL
    rw [List.pairwise_cons] at h
    split
    · rename_i hlt
      rw [List.pairwise_cons]
      refine ⟨fun z hz => ?_, insL_sorted x r h.2⟩
      rcases List.mem_cons.1 ((insL_perm x r).mem_iff.1 hz) with rfl | hz
      · exact List.le_of_lt ((ltL_iff _ _).1 hlt)
      · exact h.1 z hz
    · rename_i hlt
      have hxy : x ≤ y := by
        rw [← List.not_lt]
        intro h'; rw [(ltL_iff y x).2 h'] at hlt; cases hlt
      rw [List.pairwise_cons]
      refine ⟨fun z hz => ?_, List.pairwise_cons.2 h⟩
      rcases List.mem_cons.1 hz with rfl | hz
      · exact hxy
      · exact List.le_trans hxy (h.1 z hz)
theorem sortL_sorted : ∀ l, (sortL l).Pairwise (fun a b => a ≤ b)
  | [] => .nil
  | x :: r => insL_sorted x _ (sortL_sorted r)
theorem sortL_eq {l l' : List (List UInt8)} (h : l.Perm l') : l.mergeSort (fun x y => decide (x ≤ y)) = sortL l' := by
  have tr : ∀ a b c : List UInt8, decide (a ≤ b) = true → decide (b ≤ c) = true → decide (a ≤ c) = true := fun a b c h1 h2 => by simp only [decide_eq_true_eq] at *; exact List.le_trans h1 h2
  have tot : ∀ a b : List UInt8, (decide (a ≤ b) || decide (b ≤ a)) = true := fun a b => by simp only [Bool.or_eq_true, decide_eq_true_eq]; exact List.le_total a b
  refine List.Perm.eq_of_pairwise (le := fun a b => decide (a ≤ b) = true) (fun a b _ _ h1 h2 => ?_) (List.pairwise_mergeSort tr tot l) ((sortL_sorted l').imp fun h => by simpa using h) (((List.mergeSort_perm l _).trans h).trans (sortL_perm l').symm)
  simp only [decide_eq_true_eq] at h1 h2
  exact List.le_antisymm h1 h2
end Go.Abs
/- slices.Sorted(maps.Keys(m)) at the disk's maps. -/
namespace Go.Abs
open Go.RowKit
open Go.Proofs (encStr)
open Go.WideMaps (keyOf_string_mk)
open Go.WideElems (Fit rd rg)
set_option linter.unusedVariables false
set_option maxRecDepth 100000
/-- Texts among values, all of them short. -/
def keyStrs : List V → Option (List (List UInt8))
  | [] => some []
  | .p (.lit (.string s)) :: r => match Nat.ble s.size 1000 with
    | true => match keyStrs r with
      | some l => some (s.data.toList :: l)
      | none => none
    | false => none
  | _ :: _ => none
theorem keyStrs_rep {σ : St} : ∀ {vs : List V} {xs : List Value} {l : List (List UInt8)}, keyStrs vs = some l → RepVs σ vs xs → xs = l.map encStr ∧ ∀ s ∈ l, s.length ≤ 1000
  | [], xs, l, h, hr => by
    injection h with h; subst h; cases hr; exact ⟨rfl, fun s hs => by cases hs⟩
  | v :: r, xs, l, h, hr => by
    cases v with
    | p d =>
      cases d with
      | lit w =>
        cases w with
        | string s =>
          simp only [keyStrs] at h
          split at h
          · rename_i hb
            split at h
            · rename_i l' hl
              injection h with h; subst h
              cases hr with
              | cons hd ht =>
              cases hd with
              | p hd =>
              cases hd with
              | lit _ =>
              obtain ⟨e1, e2⟩ := keyStrs_rep hl ht
              refine ⟨by rw [e1, List.map_cons], fun z hz => ?_⟩
              rcases List.mem_cons.1 hz with rfl | hz
              · have : s.size ≤ 1000 := by simpa [Nat.ble_eq] using hb
                rw [Array.length_toList]; exact this
              · exact e2 z hz
            · cases h
          · cases h
        | _ => cases h
      | _ => cases h
    | _ => cases h
def anyR (v : Value) : Option (DataW Unit × List MemPlace) := some (.lit (.bool true), [])
theorem owns_any {P : Program} {w : World} {b k : Nat} {es : Array MapEntry} {clock : Nat} {l : List MapEntry} {ks : List (List UInt8)} (hk : P.underlying k = some .string) (hb : w.heap[b]? = some (.map es clock)) (hst : MapKept.Stamped es clock)
    (hp : l.Perm es.toList) (hks : l.map MapEntry.key = ks.map encStr) (hle : ∀ s ∈ ks, s.length ≤ 1000) (hn : ks.length ≤ 1000000) :
    ∃ D0 : DataW Unit, w.ownsMap P k anyR b es.size D0 ∧ Maps.size D0 = ks.length ∧ (strKeys D0).Perm ks := by
  have hlen : l.length = ks.length := by have := congrArg List.length hks; simpa using this
  have hsz : es.size = ks.length := by rw [← hlen, hp.length_eq]; simp
  have hkey : ∀ x ∈ es.toList, ∃ s ∈ ks, x.key = encStr s := by
    intro x hx
    have : x.key ∈ l.map MapEntry.key := List.mem_map.2 ⟨x, hp.mem_iff.2 hx, rfl⟩
    rw [hks, List.mem_map] at this
    obtain ⟨s, hs, e⟩ := this
    exact ⟨s, hs, e.symm⟩
  have hrd : ∀ x ∈ es.toList, ∃ s ∈ ks, x.key = encStr s ∧ rd P k anyR x = some (.string s, .lit (.bool true)) := by
    intro x hx
    obtain ⟨s, hs, e⟩ := hkey x hx
    have hl : s.length ≤ 1000 := hle s hs
    refine ⟨s, hs, e, ?_⟩
    have h1 : keyOf P k x.key = some (.string s) := by
      rw [e]
      have := keyOf_string_mk (P := P) (k := k) hk (s := ⟨s.toArray⟩) (by show s.toArray.size ≤ maxLen; unfold maxLen; simp; omega)
      simpa [encStr] using this
    unfold rd
    rw [h1]; rfl
  have F : Fit P k anyR es clock := ⟨by unfold maxLen; omega, hst, fun x hx => by obtain ⟨s, _, _, h⟩ := hrd x hx; exact ⟨_, h⟩⟩
  refine ⟨.map ((es.toList.map (rg P k anyR)).foldr DataW.insert []), ⟨es, clock, hb, F, Nat.le_refl _, rfl⟩, ?_, ?_⟩
  · show (List.foldr DataW.insert [] (es.toList.map (rg P k anyR))).length = _
    rw [(Go.WideShapes.sorted_perm _).length_eq, List.length_map]; simpa using hsz
  · show ((List.foldr DataW.insert [] (es.toList.map (rg P k anyR))).map fun p => Go.strOf p.1).Perm ks
    refine ((Go.WideShapes.sorted_perm _).map _).trans ?_
    rw [List.map_map]
    have e1 : ∀ (L : List MapEntry) (ss : List (List UInt8)), (∀ x ∈ L, x ∈ es.toList) → L.map MapEntry.key = ss.map encStr → L.map ((fun p : Lit × DataW Unit => Go.strOf p.1) ∘ rg P k anyR) = ss := by
      intro L
      induction L with
      | nil => intro ss _ h; cases ss with
        | nil => rfl
        | cons => cases h
      | cons x r ih =>
        intro ss hm h
        cases ss with
        | nil => cases h
        | cons s ss =>
          rw [List.map_cons, List.map_cons] at h
          injection h with h1 h2
          obtain ⟨s', _, e, hr⟩ := hrd x (hm x (List.mem_cons_self ..))
          have : s' = s := encStr_inj (e.symm.trans h1)
          subst this
          rw [List.map_cons, ih ss (fun y hy => hm y (List.mem_cons_of_mem _ hy)) h2]
          congr 1
          show Go.strOf (rg P k anyR x).1 = s'
          rw [Go.WideElems.rg_of hr]
          rfl
    have := hp.symm.map ((fun p : Lit × DataW Unit => Go.strOf p.1) ∘ rg P k anyR)
    rw [e1 l ks (fun x hx => hp.mem_iff.1 hx) hks] at this
    exact this
theorem sorted_calls (w : World) (n b : Nat) (es : Array MapEntry) (clock : Nat) (l : List MapEntry) (ks : List (List UInt8)) (hn : w.cell? ⟨n, 0, none⟩ = some (.map (some b))) (hb : w.heap[b]? = some (.map es clock)) (hst : MapKept.Stamped es clock)
    (hp : l.Perm es.toList) (hks : l.map MapEntry.key = ks.map encStr) (hle : ∀ s ∈ ks, s.length ≤ 1000) (hm : ks.length ≤ 1000000) :
    Calls Go.Proofs.Tryz.prog 278 #[.func (.func 299) #[] #[.pointer (some ⟨n, 0, none⟩)]] w fun e w' => ∃ v, e = .returned v ∧ w'.ownsRow w.heap.size 9 1 v ks.length ((sortL ks).map encStr) ∧ Below w.heap.size w w' := by
  obtain ⟨D0, h1, h2, h3⟩ := owns_any (P := Go.Proofs.Tryz.prog) (k := 9) Go.Proofs.Tryz.underlying9 hb hst hp hks hle hm
  have hnl : n < w.heap.size := by
    rcases Nat.lt_or_ge n w.heap.size with h | h
    · exact h
    · simp [World.cell?, Array.getElem?_eq_none h] at hn
  have hseq : SeqGives Fence.wide 2 Go.Proofs.Tryz.prog 299 #[.pointer (some ⟨n, 0, none⟩)] encStr (fun ss => ss.Perm (strKeys D0)) (Maps.size D0) w :=
    Go.Proofs.AnyZ.keys_gives (ρ := Go.Proofs.Tryz.keys279_ren) { Go.Proofs.Tryz.keys279 with } Fence.wide _ trivial rfl (by omega) n b _ D0 _ hnl hn h1
  have hmax : Maps.size D0 ≤ maxLen := by rw [h2]; unfold maxLen; omega
  have hcall := Go.Proofs.AnyZ.sorted_in Go.Proofs.Tryz.sorted278 Fence.wide 5 trivial trivial trivial trivial rfl (by omega) (Go.Proofs.Tryz.sorts278 _) (Go.Proofs.enters_of Go.Proofs.Tryz.func298 (by kernel_rfl) rfl) 299 #[.pointer (some ⟨n, 0, none⟩)] trivial (Go.Proofs.enters_of Go.Proofs.Tryz.func299 (by kernel_rfl) rfl) _ _ hmax (by rw [h2]; omega) _ hseq
  refine (callsIn_wide.1 hcall).mono fun e w' ⟨v, ss, he, hS, hrow, hnil, hbl⟩ => ?_
  have hperm : ss.Perm ks := hS.trans h3
  rw [sortL_eq hperm] at hrow
  rw [hperm.length_eq] at hrow
  exact ⟨v, he, hrow, hbl⟩
def strD (l : List UInt8) : D := .lit (.string ⟨⟨l⟩⟩)
/-- Blocks more, some of which change no more. -/
theorem St.ok.belowF {σ : St} (ok : σ.ok) {w' : World} (h : Below σ.w.heap.size σ.w w') (G : Nat → Prop) (hG : ∀ j, G j → σ.w.heap.size ≤ j ∧ j < w'.heap.size) :
    let τ : St := { w := w', Fz := fun j o => σ.Fz j o ∨ G j, ι := σ.ι, O := σ.O, H := σ.H }
    τ.ok ∧ Ext σ τ := by
  intro τ
  have hlt : ∀ {j : Nat} {o : Obj}, σ.w.heap[j]? = some o → j < σ.w.heap.size := fun h => (Array.getElem?_eq_some_iff.1 h).1
  have hcell : ∀ j o, j < σ.w.heap.size → w'.cell? ⟨j, o, none⟩ = σ.w.cell? ⟨j, o, none⟩ := fun j o hj => by simp only [World.cell?]; rw [h.block j hj]
  have e : Ext σ τ := ⟨h.size, h.os, h.tape, h.output, fun j o hj _ => hcell j o hj, fun j hj _ => h.block j hj, fun j c T fr hh => ⟨c, fr, by show w'.heap[j]? = _; rw [h.block j (hlt hh)]; exact hh, rfl⟩, fun _ _ h => .inl h,
    fun j o hf hj => by
      rcases hf with hf | hf
      · exact .inl hf
      · exact absurd (hG j hf).1 (by omega), fun _ _ h _ => h, fun b m hm => ⟨m, hm, Nat.le_refl _, fun _ _ => rfl⟩⟩
  refine ⟨⟨fun b o hb => (ok.objs b o hb).keep (e.mon ok) (fun _ _ => Iff.rfl) (St.vb_some hb) (fun j p hp => h.block j (ok.lt b j p hp)), ok.out, ok.disj, fun b j o ho hf => ?_, fun b j o hh => Nat.lt_of_lt_of_le (ok.lt b j o hh) h.size, fun j o hh => ?_⟩, e⟩
  · rcases hf with hf | hf
    · exact ok.fz b j o ho hf
    · exact absurd (hG j hf).1 (by have := ok.lt b j o ho; omega)
  · rcases hh with hh | hh
    · exact Nat.lt_of_lt_of_le (ok.ltf j o hh) h.size
    · exact (hG j hh).2
theorem strD_leaf (l : List (List UInt8)) : (l.map strD).flatMap D.cells = l.map strD := by
  induction l with
  | nil => rfl
  | cons x r ih => rw [List.map_cons, List.flatMap_cons, ih]; rfl
theorem strD_rep {w : World} {Fz : Cells} (l : List (List UInt8)) : RepDs w Fz (l.map strD) (l.map encStr) := by
  induction l with
  | nil => exact .nil
  | cons x r ih => exact .cons (.lit rfl) ih
def sortedL : List V → AHeap → Option (V × AHeap)
  | [.fn g [.ptr n ver 0]], H => match Nat.beq g 299, cellV H n ver 0 with
    | true, some (.mp b) => match H[b]? with
      | some (.map ks _) => match keyStrs ks with
        | some l => match Nat.ble l.length 1000000 with
          | true => some (.p (.sl ((sortL l).map strD) false), H)
          | false => none
        | none => none
      | _ => none
    | _, _ => none
  | _, _ => none
theorem sorted_ok {args : List V} {H : AHeap} {r : V} {H' : AHeap} (h : sortedL args H = some (r, H')) : ACalls ctxR 278 args H (fun v K => v = r ∧ K = H') := by
  unfold sortedL at h
  split at h
  · rename_i g n ver
    split at h
    · rename_i b hg hc
      split at h
      · rename_i ks vs hm
        split at h
        · rename_i l hl
          split at h
          · rename_i hb
            injection h with h; injection h with h1 h2; subst h1; subst h2
            have hg' : g = 299 := by rw [← Nat.beq_eq]; exact hg
            subst hg'
            intro σ vals hH ok hG hr
            subst hH
            cases hr with
            | cons hp ht =>
            cases ht
            cases hp with
            | fn hcap =>
            cases hcap with
            | cons hc1 ht1 =>
            cases ht1
            cases hc1 with
            | ptr hid =>
            obtain ⟨x, hx, hrx⟩ := cellV_at ok hc
            cases hrx with
            | mp hidm =>
            obtain ⟨es, clock, L, e1, e2, e3, e4, e5, -⟩ := ok.objs b _ hm
            obtain ⟨f1, f2⟩ := keyStrs_rep hl e4
            have hlen : l.length ≤ 1000000 := by simpa [Nat.ble_eq] using hb
            refine (sorted_calls σ.w (σ.ι n ver) (σ.ι b 0) es clock L l hx e1 e2.stamped e3 f1 f2 hlen).mono fun e w' ⟨v, he, hrow, hbl⟩ => ?_
            have hsl : (sortL l).length = l.length := (sortL_perm l).length_eq
            obtain ⟨hx1, ⟨rfl, hz⟩ | ⟨g, cap, cur, rfl, hbase, hgb, r1, r2, r3, r4⟩⟩ := hrow
            · have : l = [] := List.eq_nil_of_length_eq_zero hz
              subst this
              obtain ⟨p1, p2⟩ := ok.belowS hbl
              exact ⟨_, _, { σ with w := w' }, he, rfl, ⟨rfl, rfl⟩, .p (.sl0 (fun h => by cases h)), p1, p2⟩
            · obtain ⟨p1, p2⟩ := ok.belowF hbl (fun j => j = g) (fun j hj => by subst hj; exact ⟨hbase, heap_lt hgb⟩)
              refine ⟨_, _, { w := w', Fz := fun j o => σ.Fz j o ∨ j = g, ι := σ.ι, O := σ.O, H := σ.H }, he, rfl, ⟨rfl, rfl⟩, ?_, p1, p2⟩
              have hrep : RepD w' (fun j o => σ.Fz j o ∨ j = g) (.sl ((sortL l).map strD) false) (.slice (some ⟨g, 0, none⟩) ((sortL l).map strD).length cap) := by
                refine .sl (s := 1) (vs := (sortL l).map encStr) (by rw [List.length_map, hsl]; exact r1) (fun h => by cases h) (fun x hx => ?_) (fun d hd => ?_) (fun i v hi => ⟨.inr rfl, ?_⟩) (by rw [strD_leaf]; exact strD_rep _)
                · obtain ⟨y, _, rfl⟩ := List.mem_map.1 hx; rfl
                · rw [strD_leaf] at hd
                  obtain ⟨y, _, rfl⟩ := List.mem_map.1 hd; rfl
                · rw [Nat.zero_add, cell_of hgb, ← Array.getElem?_toList]
                  rw [← r4] at hi
                  have hlt := (List.getElem?_eq_some_iff.1 hi).1
                  simp only [List.length_take] at hlt
                  rw [List.getElem?_take_of_lt (by omega)] at hi
                  exact hi
              rw [List.length_map, hsl] at hrep
              exact .p hrep
          · cases h
        · cases h
      · cases h
    · cases h
  · cases h
end Go.Abs
