/- Soundness of single operations: cells copied, cleared; maps. -/
import Derived.Test.YtpmejcfbnghaeaaGreatDoorT09
import Derived.Test.YtpmejcfbnghaeaaGreatDoorT02
namespace Go.Abs
set_option linter.unusedVariables false
set_option linter.unusedSimpArgs false
section
variable {C : Ctx} {σ : St}
theorem storeAt_inv {H H' : AHeap} {l : List V} {b ver off : Nat} (h : (storeAt H l (.ptr b ver off)).out H') : ∃ lz cs, objCells H[b]? ver = some (lz, cs) ∧ off + l.length ≤ cs.length ∧ H' = H.set b (.cells lz ver (setSlice cs off l)) := by
  unfold storeAt at h
  simp only at h
  split at h
  · rename_i lz cs ho
    obtain ⟨hc, h⟩ := out_chk h
    simp only [decide_eq_true_eq] at hc
    exact ⟨lz, cs, ho, hc, out_ret h⟩
  · exact (out_fail h).elim
theorem rowOfV_rep {v : V} {x : Value} {b ver off n : Nat} (h : RepV σ v x) (hr : rowOfV v = some (b, ver, off, n)) : (n = 0 ∧ ∃ a c, x = .slice a 0 c) ∨ ∃ c, x = .slice (some ⟨σ.ι b ver, off, none⟩) n c := by
  unfold rowOfV at hr
  split at hr
  · injection hr with hr; injection hr with q1 hr; injection hr with q2 hr; injection hr with q3 q4; subst q1; subst q2; subst q3; subst q4
    cases h with
    | own hid hc hf => exact .inr ⟨_, rfl⟩
    | own0 hid hf => exact .inl ⟨rfl, _, _, rfl⟩
  · injection hr with hr; injection hr with q1 hr; injection hr with q2 hr; injection hr with q3 q4; subst q1; subst q2; subst q3; subst q4
    cases h with
    | row hid hc hf => exact .inr ⟨_, rfl⟩
    | row0 hid hf => exact .inl ⟨rfl, _, _, rfl⟩
  · cases hr
theorem run_load_cases {P : Program} {w : World} (a : Addr) : (∃ v, (load a).run P w = .ok v w) ∨ ∃ h, (load a).run P w = .halt h w := by
  unfold load
  simp only [Sem.run]
  split
  · exact .inl ⟨_, rfl⟩
  · split
    · exact .inl ⟨_, rfl⟩
    · exact .inr ⟨_, rfl⟩
theorem loadCellsFrom_take {P : Program} {w : World} (a : Addr) : ∀ (n i : Nat) (acc arr : Array Value), (loadCellsFrom a i n acc).run P w = .ok arr w →
    ∃ r : List Value, arr.toList = acc.toList ++ r ∧ r.length = n ∧ ∀ k, k ≤ n → (loadCellsFrom a i k acc).run P w = .ok ⟨acc.toList ++ r.take k⟩ w
  | 0, i, acc, arr, h => by
    simp only [loadCellsFrom, Sem.run_pure, Result.ok.injEq, and_true] at h
    subst h
    refine ⟨[], by simp, rfl, fun k hk => ?_⟩
    have : k = 0 := by omega
    subst this
    simp [loadCellsFrom]
  | n + 1, i, acc, arr, h => by
    simp only [loadCellsFrom, Sem.run_bind] at h
    rcases run_load_cases (P := P) (w := w) (a.add i) with ⟨v, hv⟩ | ⟨e, hv⟩
    · rw [hv] at h
      simp only [Result.andThen_ok] at h
      obtain ⟨r, h1, h2, h3⟩ := loadCellsFrom_take a n (i + 1) (acc.push v) arr h
      refine ⟨v :: r, by rw [h1]; simp, by simp [h2], fun k hk => ?_⟩
      cases k with
      | zero => simp [loadCellsFrom]
      | succ k =>
        simp only [loadCellsFrom, Sem.run_bind, hv, Result.andThen_ok]
        rw [h3 k (by omega)]
        simp
    · rw [hv] at h
      cases h
theorem firstCells_take {P : Program} {w : World} {size m k : Nat} {xv : Value} {vs : List Value} (h : (Builtin.firstCells size m xv).run P w = .ok ⟨vs⟩ w) (hl : (Builtin.lenOf xv).run P w = .ok m w) (hv : vs.length = m * size) (hk : k ≤ m) :
    (Builtin.firstCells size k xv).run P w = .ok ⟨vs.take (k * size)⟩ w := by
  cases xv with
  | slice a n c =>
    cases a with
    | none =>
      simp only [Builtin.firstCells, Sem.run_pure, Result.ok.injEq, and_true] at h ⊢
      have : vs = [] := by have := congrArg Array.toList h; simpa using this.symm
      subst this
      simp
    | some a =>
      simp only [Builtin.firstCells, loadCells] at h ⊢
      obtain ⟨r, h1, h2, h3⟩ := loadCellsFrom_take a _ _ _ _ h
      simp at h1
      subst h1
      simpa using h3 (k * size) (Nat.mul_le_mul_right _ hk)
  | string s =>
    simp only [Builtin.lenOf, Sem.run_pure, Result.ok.injEq, and_true] at hl
    subst hl
    simp only [Builtin.firstCells, Sem.run_pure, Result.ok.injEq, and_true] at h ⊢
    have hvs : vs = ((s.extract 0 s.size).data.map fun b => Value.int .u8 b.toNat).toList := by have := congrArg Array.toList h; simpa using this.symm
    have hs1 : size = 1 ∨ s.size = 0 := by
      have h1 : vs.length = s.size := by rw [hvs]; simp
      rcases Nat.eq_zero_or_pos s.size with h0 | h0
      · exact .inr h0
      · left
        rw [h1] at hv
        exact (Nat.eq_of_mul_eq_mul_left h0 (by omega)).symm
    rw [hvs]
    apply Array.ext'
    rcases hs1 with h1 | h0
    · subst h1; simp [ByteArray.data_extract, List.map_take]
    · have hk0 : k = 0 := by omega
      subst hk0
      simp
  | _ => simp [Builtin.lenOf] at hl
theorem copyOp_sound (hT : TyOk C) (ok : σ.ok) {t u ty : Nat} {d x v : V} {dv xv : Value} {H' : AHeap} (hd : RepV σ d dv) (hx : RepV σ x xv) (h : (copyOp C σ.H t u d x).out (v, H')) :
    Made C.P σ (Builtin.copy_ #[t, u] ty #[dv, xv]) v H' := by
  unfold copyOp at h
  split at h
  case h_2 => exact (out_fail h).elim
  rename_i ti hok hti
  obtain ⟨hu, ht⟩ := elemId_und hT hti
  split at h
  case h_2 => exact (out_fail h).elim
  rename_i n ys hsrc
  obtain ⟨vs, a1, a2, a3, a4, a5, a6⟩ := srcCells_run (P := C.P) ok hx hsrc
  have nothing : ∀ {a : Option Addr} {m c : Nat}, dv = .slice a m c → min n m = 0 → Made C.P σ (Builtin.copy_ #[t, u] ty #[dv, xv]) (.p (.lit (.int .i64 (0 : Nat)))) σ.H := by
    intro a m c hdv hm
    subst hdv
    refine ⟨.int .i64 (0 : Nat), σ, ?_, rfl, ok, .refl σ, rep_lit rfl⟩
    have hf := firstCells_take a2 a1 a6 (Nat.zero_le n)
    have hm' : n.min m = 0 := hm
    simp only [Builtin.copy_, List.getElem?_toArray, List.getElem?_cons_zero, List.getElem?_cons_succ, Sem.run_bind, run_underlying hu, Result.andThen_ok, a1, ht.run_size, hm', hf, Nat.zero_mul, List.take_zero]
    cases a <;> simp [storeCells, goInt]
  split at h
  · rename_i b ver off m hrow
    split at h
    · rename_i hm
      have := out_ret h; injection this with h1 h2; subst h1; subst h2
      rcases rowOfV_rep hd hrow with ⟨_, a, c, hdv⟩ | ⟨c, hdv⟩
      · exact nothing hdv (by omega)
      · exact nothing hdv hm
    · rename_i k hm
      obtain ⟨H2, h1, h2⟩ := out_bind h
      have := out_ret h2; injection this with e1 e2; subst e1; subst e2
      obtain ⟨lz, cs, ho, hle, rfl⟩ := storeAt_inv h1
      have hkn : k + 1 ≤ n := by omega
      have hkm : k + 1 ≤ m := by omega
      rcases rowOfV_rep hd hrow with ⟨h0, _⟩ | ⟨c, rfl⟩
      · omega
      · have hf := firstCells_take a2 a1 a6 hkn
        obtain ⟨r1, r2, r3⟩ := ok.store (P := C.P) ho hle (fun y hy => a5 y (List.mem_of_mem_take hy)) (a4.take _)
        refine ⟨.int .i64 (k + 1 : Nat), _, ?_, rfl, r2, r3, rep_lit rfl⟩
        have hm' : n.min m = k + 1 := hm
        simp only [Builtin.copy_, List.getElem?_toArray, List.getElem?_cons_zero, List.getElem?_cons_succ, Sem.run_bind, run_underlying hu, Result.andThen_ok, a1, ht.run_size, hm', hf]
        rw [r1]
        simp [goInt]
  · split at h
    · have := out_ret h; injection this with h1 h2; subst h1; subst h2
      cases hd with
      | p hd => cases hd with
        | sl hc hf hs hl hr hds => exact nothing rfl (by simp)
        | sl0 hf => exact nothing rfl (by simp)
    · exact (out_fail h).elim
theorem zeroCells_eq (z : Array Value) (n : Nat) : (Builtin.zeroCells z n).toList = ((Array.range (n * z.size)).map (fun i => z[i % z.size]!)).toList := rfl
theorem clearOp_sound (hT : TyOk C) (ok : σ.ok) {t ty : Nat} {d v : V} {dv : Value} {H' : AHeap} (hd : RepV σ d dv) (h : (clearOp C σ.H t d).out (v, H')) :
    Made C.P σ (Builtin.clear_ #[t] ty #[dv]) v H' := by
  unfold clearOp at h
  split at h
  case h_2 => exact (out_fail h).elim
  rename_i ti hti
  obtain ⟨hu, ht⟩ := elemId_und hT hti
  have nothing : ∀ {a : Option Addr} {c : Nat}, dv = .slice a 0 c → Made C.P σ (Builtin.clear_ #[t] ty #[dv]) (.p (.tup [])) σ.H := by
    intro a c hdv
    subst hdv
    refine ⟨.tuple #[], σ, ?_, rfl, ok, .refl σ, .p (.tup .nil)⟩
    cases a <;> simp [Builtin.clear_, run_underlying hu]
  split at h
  · rename_i b ver off n hrow
    split at h
    · have := out_ret h; injection this with h1 h2; subst h1; subst h2
      rcases rowOfV_rep hd hrow with ⟨_, a, c, hdv⟩ | ⟨c, hdv⟩
      · exact nothing hdv
      · exact nothing hdv
    · rename_i n
      obtain ⟨H2, h1, h2⟩ := out_bind h
      have := out_ret h2; injection this with e1 e2; subst e1; subst e2
      obtain ⟨lz, cs, ho, hle, rfl⟩ := storeAt_inv h1
      rcases rowOfV_rep hd hrow with ⟨h0, _⟩ | ⟨c, rfl⟩
      · omega
      · have hz := zeroOf_cells ht
        have hzs : (zeroOf ti).cells.size = ti.zero.length := by rw [← Array.length_toList, hz]; simp
        have zr := zeros_rep (w := σ.w) (Fz := σ.Fz) hz ht.zok (n + 1)
        rw [← hzs] at zr
        obtain ⟨r1, r2, r3⟩ := ok.store (P := C.P) ho hle (leaf_map (zeros_leaf ht.zok _)) (zr.toV (σ := σ))
        refine ⟨.tuple #[], _, ?_, rfl, r2, r3, .p (.tup .nil)⟩
        simp only [Builtin.clear_, List.getElem?_toArray, List.getElem?_cons_zero, Sem.run_bind, run_underlying hu, Result.andThen_ok, ht.run_zero, zeroCells_eq]
        rw [r1]
        rfl
  · split at h
    · have := out_ret h; injection this with h1 h2; subst h1; subst h2
      cases hd with
      | p hd => cases hd with
        | sl hc hf hs hl hr hds => exact nothing rfl
        | sl0 hf => exact nothing rfl
    · exact (out_fail h).elim
theorem arrayAt_sound (hT : TyOk C) {t : Nat} {x v : V} {xv : Value} (hx : RepV σ x xv) (h : (arrayAt C t x).out v) : ∃ z, (Instr.arrayAt t xv).run C.P σ.w = .ok z σ.w ∧ RepV σ v z := by
  unfold arrayAt at h
  split at h
  case h_2 => exact (out_fail h).elim
  rename_i n ti hti
  obtain ⟨el, hu, ht⟩ := arrTI_und hT hti
  have run : ∀ {a : Option Addr} {m c : Nat}, n ≤ m → (Instr.arrayAt t (.slice a m c)).run C.P σ.w = .ok (.pointer a) σ.w := by
    intro a m c hm
    simp only [Instr.arrayAt, Sem.run_bind, run_underlying hu, Result.andThen_ok]
    rw [if_neg (by omega)]
    rfl
  split at h
  · obtain ⟨hc, h⟩ := out_chk h
    simp only [decide_eq_true_eq] at hc
    have := out_ret h; subst this
    cases hx with
    | own hid hcc hf => exact ⟨_, run hc.1, .ptr hid⟩
    | own0 hid hf => omega
  · obtain ⟨hc, h⟩ := out_chk h
    simp only [decide_eq_true_eq] at hc
    have := out_ret h; subst this
    cases hx with
    | row hid hcc hf => exact ⟨_, run hc.1, .ptr hid⟩
    | row0 hid hf => omega
  · obtain ⟨hc, h⟩ := out_chk h
    simp only [decide_eq_true_eq] at hc
    have := out_ret h; subst this
    cases hx with
    | vec hid hcc hs hl hr hds hb => exact ⟨_, run hc.1, .p (.rp hl hr hds)⟩
    | vec0 hid => simp at hc
  · obtain ⟨hc, h⟩ := out_chk h
    simp only [decide_eq_true_eq] at hc
    have := out_ret h; subst this
    cases hx with
    | p hx => cases hx with
      | sl hcc hf hs hl hr hds => exact ⟨_, run hc.1, .p (.rp hl hr hds)⟩
      | sl0 hf => simp at hc
  · exact (out_fail h).elim

/-! Maps -/
theorem bytes_beq (x y : ByteArray) : (x == y) = true ↔ x = y := by
  constructor
  · intro h
    have h' : (x.data == y.data) = true := h
    cases x; cases y
    simp at h'
    rw [h']
  · rintro rfl
    show (x.data == x.data) = true
    simp
theorem eraseIdx_map' {α β : Type} (f : α → β) : ∀ (l : List α) (i : Nat), (l.map f).eraseIdx i = (l.eraseIdx i).map f
  | [], i => by simp
  | a :: r, 0 => by simp
  | a :: r, i + 1 => by simp [eraseIdx_map' f r i]
/-- How two keys compare, in a world. -/
def KCmp (P : Program) (w : World) (kt : Nat) (a b : Value) (r : Bool) : Prop :=
  (r = true ↔ a = b) ∧ ((∃ d, P.underlying kt = some d ∧ Instr.sameNow d a b = some r) ∨ (∃ el x y, P.underlying kt = some (.pointer el) ∧ a = .pointer x ∧ b = .pointer y ∧ (Op.equal kt a b).run P w = .ok r w))
theorem run_sameAddr_far {P : Program} {w : World} {a b : Addr} {ca cb : Array Value} {ta tb : TypeId} {fa fb : Nat × Nat} (hne : a ≠ b) (ha : w.heap[a.block]? = some (.cells ca ta fa)) (hb : w.heap[b.block]? = some (.cells cb tb fb)) (ea : fa.1 = fa.2) (eb : fb.1 = fb.2) :
    (sameAddr a b).run P w = .ok false w := by
  obtain ⟨a1, a2⟩ := fa
  obtain ⟨b1, b2⟩ := fb
  simp only at ea eb
  subst ea; subst eb
  have fz1 : ∀ o s, w.frozen? ⟨a.block, o, s⟩ = false := fun o s => by simp [World.frozen?, ha]
  have fz2 : ∀ o s, w.frozen? ⟨b.block, o, s⟩ = false := fun o s => by simp [World.frozen?, hb]
  have fa0 : w.frozen? a = false := by cases a; exact fz1 _ _
  have fb0 : w.frozen? b = false := by cases b; exact fz2 _ _
  by_cases hbl : a.block = b.block
  · simp [sameAddr, hbl, hne]
  · simp [sameAddr, hbl, fa0, fb0, fz1, fz2, ha, hb, noView, viewAt, World.shape?, mayBeOne, stringish]
theorem liveP_spec (ok : σ.ok) {b ver : Nat} (h : liveP σ.H b ver = true) : ∃ lz cs c T fr, σ.H[b]? = some (.cells lz ver cs) ∧ σ.w.heap[σ.ι b ver]? = some (.cells c T fr) ∧ fr.1 = fr.2 ∧ ∀ j o, σ.O b j o ↔ j = σ.ι b ver := by
  unfold liveP at h
  split at h
  · rename_i T0 cs ho
    obtain ⟨hH, _⟩ := ok.cellsAt ho
    obtain ⟨c, T, fr, q1, q2, _, _, _, q6⟩ := ok.objs b _ hH
    exact ⟨_, _, c, T, fr, hH, q1, (q2.2.1 _ rfl).2.2, q6⟩
  · cases h
theorem keyEq_sound (hT : TyOk C) (ok : σ.ok) {kt : Nat} {a b : V} {av bv : Value} {r : Bool} (ha : RepV σ a av) (hb : RepV σ b bv) (h : keyEq C σ.H kt a b = some r) : KCmp C.P σ.w kt av bv r := by
  unfold keyEq at h
  split at h
  · rename_i k0 k x k' y hk
    obtain rfl := lit_int ha; obtain rfl := lit_int hb
    split at h
    · rename_i hkk
      simp only [decide_eq_true_eq] at hkk
      subst hkk
      injection h with h; subst h
      obtain ⟨d, hu, hd⟩ := und_kind hT (t := kt) (by rw [hk]; simp)
      rw [hk] at hd; have := desc_int hd; subst this
      exact ⟨by simp, .inl ⟨_, hu, by simp [Instr.sameNow]⟩⟩
    · cases h
  · rename_i x y hk
    obtain rfl := lit_str ha; obtain rfl := lit_str hb
    injection h with h; subst h
    obtain ⟨d, hu, hd⟩ := und_kind hT (t := kt) (by rw [hk]; simp)
    rw [hk] at hd; have := desc_str hd; subst this
    rw [beqS_eq]
    exact ⟨by rw [bytes_beq]; simp, .inl ⟨_, hu, by simp [Instr.sameNow]⟩⟩
  · rename_i x y hk
    obtain rfl := lit_bool ha; obtain rfl := lit_bool hb
    injection h with h; subst h
    obtain ⟨d, hu, hd⟩ := und_kind hT (t := kt) (by rw [hk]; simp)
    rw [hk] at hd; have := desc_bool hd; subst this
    exact ⟨by simp, .inl ⟨_, hu, by simp [Instr.sameNow]⟩⟩
  · rename_i el b1 v1 o1 b2 v2 o2 hk
    obtain ⟨d, hu, hd⟩ := und_kind hT (t := kt) (by rw [hk]; simp)
    rw [hk] at hd; have := desc_ptr hd; subst this
    split at h
    · rename_i i hi h1 h2
      split at h
      · cases h
      · rename_i hz
        injection h with h; subst h
        have ht := hT _ i hi
        have hz' : i.size ≠ 0 := by intro e; rw [e] at hz; simp at hz
        obtain ⟨lz1, cs1, c1, T1, f1, g1, g2, g3, g4⟩ := liveP_spec ok h1
        obtain ⟨lz2, cs2, c2, T2, f2, k1, k2, k3, k4⟩ := liveP_spec ok h2
        cases ha with
        | ptr hid1 => cases hb with
          | ptr hid2 =>
            have hsame : ∀ q : Bool, (sameAddr ⟨σ.ι b1 v1, o1, none⟩ ⟨σ.ι b2 v2, o2, none⟩).run C.P σ.w = .ok q σ.w →
                (Op.equal kt (.pointer (some ⟨σ.ι b1 v1, o1, none⟩)) (.pointer (some ⟨σ.ι b2 v2, o2, none⟩))).run C.P σ.w = .ok q σ.w := fun q hq => equal_run fun d => by
              simp only [Op.equalIn, Sem.run_bind, run_underlying hu, Result.andThen_ok, ht.run_size]
              rw [if_pos hz']
              exact hq
            have hval : (Value.pointer (some ⟨σ.ι b1 v1, o1, none⟩) = Value.pointer (some ⟨σ.ι b2 v2, o2, none⟩)) ↔ (σ.ι b1 v1 = σ.ι b2 v2 ∧ o1 = o2) := by simp
            have hne : b1 ≠ b2 → σ.ι b1 v1 ≠ σ.ι b2 v2 := by
              intro hb e
              exact ok.disj b1 b2 _ 0 hb ((g4 _ 0).2 rfl) (by rw [e]; exact (k4 _ 0).2 rfl)
            have hver : b1 = b2 → v1 = v2 := by
              intro hb
              subst hb
              rw [g1] at k1
              injection k1 with k1
              injection k1
            have hiff : (Nat.beq b1 b2 && Nat.beq o1 o2) = true ↔ (σ.ι b1 v1 = σ.ι b2 v2 ∧ o1 = o2) := by
              simp only [Bool.and_eq_true]
              constructor
              · rintro ⟨e1, e2⟩
                have e1 := Nat.eq_of_beq_eq_true e1
                have e2 := Nat.eq_of_beq_eq_true e2
                exact ⟨by rw [hver e1, e1], e2⟩
              · rintro ⟨e1, e2⟩
                refine ⟨?_, by rw [e2]; simp⟩
                by_cases hb : b1 = b2
                · rw [hb]; simp
                · exact absurd e1 (hne hb)
            refine ⟨by rw [hval]; exact hiff, .inr ⟨_, _, _, hu, rfl, rfl, hsame _ ?_⟩⟩
            cases hq : (Nat.beq b1 b2 && Nat.beq o1 o2) with
            | true =>
              obtain ⟨e1, e2⟩ := hiff.1 hq
              rw [e1, e2]
              exact run_sameAddr_same _ _
            | false =>
              refine run_sameAddr_far ?_ g2 k2 g3 k3
              intro e
              injection e with e1 e2
              have := hiff.2 ⟨e1, e2⟩
              rw [hq] at this; cases this
    · cases h
  · cases h
theorem KCmp.und {P : Program} {w : World} {kt : Nat} {a b c : Value} {r q : Bool} (h : KCmp P w kt a b r) (k : KCmp P w kt a c q) :
    (∃ d, P.underlying kt = some d ∧ Instr.sameNow d a b = some r ∧ Instr.sameNow d a c = some q) ∨ (∃ el x y z, P.underlying kt = some (.pointer el) ∧ a = .pointer x ∧ b = .pointer y ∧ c = .pointer z ∧ (Op.equal kt a b).run P w = .ok r w ∧ (Op.equal kt a c).run P w = .ok q w) := by
  rcases h.2 with ⟨d, h1, h2⟩ | ⟨el, x, y, h1, h2, h3, h4⟩
  · rcases k.2 with ⟨d', k1, k2⟩ | ⟨el, x, y, k1, k2, k3, k4⟩
    · rw [h1] at k1; injection k1 with k1; subst k1
      exact .inl ⟨d, h1, h2, k2⟩
    · rw [h1] at k1; injection k1 with k1; subst k1; subst k2
      cases b <;> simp [Instr.sameNow] at h2
  · rcases k.2 with ⟨d', k1, k2⟩ | ⟨el', x', y', k1, k2, k3, k4⟩
    · rw [h1] at k1; injection k1 with k1; subst k1; subst h2
      cases c <;> simp [Instr.sameNow] at k2
    · rw [h1] at k1; injection k1 with k1; injection k1 with k1; subst k1
      exact .inr ⟨_, _, _, _, h1, h2, h3, k3, h4, k4⟩
/-- Where the first entry of a key is. -/
def firstKey (q : Value → Bool) : List MapEntry → Nat → Option (Nat × Value)
  | [], _ => none
  | e :: r, i => match q e.key with
    | true => some (i, e.val)
    | false => firstKey q r (i + 1)
theorem findNow_run {d : TypeDesc} {kv : Value} {q : Value → Bool} : ∀ (es : List MapEntry) (i : Nat), (∀ e ∈ es, Instr.sameNow d kv e.key = some (q e.key)) → Instr.findNow d kv es i = some (firstKey q es i)
  | [], i, _ => rfl
  | e :: r, i, h => by
    simp only [Instr.findNow, firstKey, h e (by simp)]
    cases q e.key with
    | true => rfl
    | false => exact findNow_run r (i + 1) fun x hx => h x (by simp [hx])
theorem findAsking_run {P : Program} {w : World} {kt : Nat} {kv : Value} {q : Value → Bool} : ∀ (es : List MapEntry) (i : Nat), (∀ e ∈ es, (Op.equal kt kv e.key).run P w = .ok (q e.key) w) → (Instr.findAsking kt kv es i).run P w = .ok (firstKey q es i) w
  | [], i, _ => rfl
  | e :: r, i, h => by
    simp only [Instr.findAsking, firstKey, Sem.run_bind, h e (by simp), Result.andThen_ok]
    cases q e.key with
    | true => rfl
    | false => exact findAsking_run r (i + 1) fun x hx => h x (by simp [hx])
theorem findKey_run {P : Program} {w : World} {kt : Nat} {kv : Value} {q : Value → Bool} (hself : KCmp P w kt kv kv true) {es : List MapEntry} (h : ∀ e ∈ es, KCmp P w kt kv e.key (q e.key)) :
    (Instr.findKey kt kv es).run P w = .ok (firstKey q es 0) w := by
  rcases hself.2 with ⟨d, h1, h2⟩ | ⟨el, x, y, h1, h2, h3, h4⟩
  · have : ∀ e ∈ es, Instr.sameNow d kv e.key = some (q e.key) := by
      intro e he
      rcases hself.und (h e he) with ⟨d', k1, _, k2⟩ | ⟨el, x, y, z, k1, k2, _⟩
      · rw [h1] at k1; injection k1 with k1; subst k1; exact k2
      · rw [h1] at k1; injection k1 with k1; subst k1; subst k2; simp [Instr.sameNow] at h2
    simp only [Instr.findKey, Sem.run_bind, run_underlying h1, Result.andThen_ok, findNow_run es 0 this, Sem.run_pure]
  · subst h2
    have hk : ∀ e ∈ es, Instr.sameNow (.pointer el) (.pointer x) e.key = none ∧ (Op.equal kt (.pointer x) e.key).run P w = .ok (q e.key) w := by
      intro e he
      rcases hself.und (h e he) with ⟨d', k1, k3, k2⟩ | ⟨el', x', y', z', k1, k2, k3, k4, k5, k6⟩
      · rw [h1] at k1; injection k1 with k1; subst k1; simp [Instr.sameNow] at k3
      · rw [h1] at k1; injection k1 with k1; injection k1 with k1; subst k1; exact ⟨by rw [k4]; rfl, k6⟩
    cases es with
    | nil => simp [Instr.findKey, run_underlying h1, Instr.findNow, firstKey]
    | cons e r =>
      have hn : Instr.findNow (.pointer el) (.pointer x) (e :: r) 0 = none := by simp [Instr.findNow, (hk e (by simp)).1]
      simp only [Instr.findKey, Sem.run_bind, run_underlying h1, Result.andThen_ok, hn]
      exact findAsking_run _ 0 fun e he => (hk e he).2
theorem checkKey_run {P : Program} {w : World} {kt : Nat} {kv : Value} (hself : KCmp P w kt kv kv true) (b : Bool) (n : Nat) : (Instr.checkKey b (n + 1) kt kv).run P w = .ok () w := by
  rcases hself.2 with ⟨d, h1, h2⟩ | ⟨el, x, y, h1, h2, h3, h4⟩
  · simp only [Instr.checkKey, Sem.run_bind, run_underlying h1, Result.andThen_ok]
    cases d <;> cases kv <;> simp [Instr.sameNow] at h2 <;> rfl
  · simp only [Instr.checkKey, Sem.run_bind, run_underlying h1, Result.andThen_ok]
    rfl
/-- A search among the abstract keys, told of the entries. -/
theorem kfind_sound (hT : TyOk C) (ok : σ.ok) {kt : Nat} {k : V} {kv : Value} (hk : RepV σ k kv) : ∀ {ks : List V} {l : List MapEntry} {r : Option Nat}, RepVs σ ks (l.map MapEntry.key) → kfind C σ.H kt k ks = some r →
    (∀ e ∈ l, ∃ q, KCmp C.P σ.w kt kv e.key q) ∧ (match r with
      | none => ∀ e ∈ l, e.key ≠ kv
      | some i => ∃ e, l[i]? = some e ∧ e.key = kv)
  | [], l, r, hr, h => by
    injection h with h; subst h
    have : l = [] := by have := hr.length; simpa using this
    subst this
    exact ⟨by simp, by simp⟩
  | x :: ks, [], r, hr, h => by have := hr.length; simp at this
  | x :: ks, e :: l, r, hr, h => by
    rw [List.map_cons] at hr
    cases hr with
    | cons hx hr =>
    simp only [kfind] at h
    split at h
    · rename_i hq
      have c := keyEq_sound hT ok hk hx hq
      split at h
      · rename_i r' hr'
        injection h with h; subst h
        have ih := kfind_sound hT ok hk hr hr'
        refine ⟨fun y hy => ?_, e, rfl, (c.1.1 rfl).symm⟩
        rcases List.mem_cons.1 hy with rfl | hy
        · exact ⟨_, c⟩
        · exact ih.1 y hy
      · cases h
    · rename_i hq
      have c := keyEq_sound hT ok hk hx hq
      have hne : e.key ≠ kv := fun h0 => by have := c.1.2 h0.symm; cases this
      split at h
      · rename_i i hi
        injection h with h; subst h
        have ih := kfind_sound hT ok hk hr hi
        refine ⟨fun y hy => ?_, ?_⟩
        · rcases List.mem_cons.1 hy with rfl | hy
          · exact ⟨_, c⟩
          · exact ih.1 y hy
        · simpa using ih.2
      · rename_i hi
        injection h with h; subst h
        have ih := kfind_sound hT ok hk hr hi
        refine ⟨fun y hy => ?_, fun y hy => ?_⟩
        · rcases List.mem_cons.1 hy with rfl | hy
          · exact ⟨_, c⟩
          · exact ih.1 y hy
        · rcases List.mem_cons.1 hy with rfl | hy
          · exact hne
          · exact ih.2 y hy
      · cases h
    · cases h
open Classical in
/-- What a search in the map itself gives. -/
theorem kfindK_sound (hT : TyOk C) (ok : σ.ok) {kt : Nat} {k : V} {kv : Value} (hk : RepV σ k kv) {ks : List V} {l : List MapEntry} {es : Array MapEntry} {clock : Nat} {r : Option Nat} (hr : RepVs σ ks (l.map MapEntry.key))
    (hp : l.Perm es.toList) (ho : MapOk es.toList clock) (h : kfindK C σ.H kt k ks = some r) :
    KCmp C.P σ.w kt kv kv true ∧ (match r with
      | none => (Instr.findKey kt kv es.toList).run C.P σ.w = .ok none σ.w ∧ (∀ e ∈ es.toList, e.key ≠ kv) ∧ ∀ e ∈ l, e.key ≠ kv
      | some i => ∃ e j, l[i]? = some e ∧ e.key = kv ∧ es[j]? = some e ∧ (Instr.findKey kt kv es.toList).run C.P σ.w = .ok (some (j, e.val)) σ.w) := by
  unfold kfindK at h
  split at h
  case h_2 => cases h
  rename_i hok
  have hself : KCmp C.P σ.w kt kv kv true := by
    unfold okKey at hok
    split at hok
    · rename_i hq; exact keyEq_sound hT ok hk hk hq
    · cases hok
  refine ⟨hself, ?_⟩
  obtain ⟨c1, c2⟩ := kfind_sound hT ok hk hr h
  have hc : ∀ e ∈ es.toList, KCmp C.P σ.w kt kv e.key (decide (kv = e.key)) := by
    intro e he
    obtain ⟨q, hq⟩ := c1 e (hp.mem_iff.2 he)
    have : q = decide (kv = e.key) := by
      rw [Bool.eq_iff_iff, decide_eq_true_eq]; exact hq.1
    rw [← this]; exact hq
  have hrun := findKey_run (q := fun v => decide (kv = v)) hself hc
  have none_of : ∀ (l : List MapEntry) (i : Nat), (∀ e ∈ l, e.key ≠ kv) → firstKey (fun v => decide (kv = v)) l i = none := by
    intro l
    induction l with
    | nil => intro i _; rfl
    | cons e r ih =>
      intro i h
      have : ¬ kv = e.key := fun h0 => h e (by simp) h0.symm
      simp only [firstKey, this, decide_false]
      exact ih _ fun x hx => h x (by simp [hx])
  have some_of : ∀ (l : List MapEntry) (i : Nat) (e : MapEntry), l.Pairwise (fun a b => a.key ≠ b.key) → e ∈ l → e.key = kv → ∃ j, l[j]? = some e ∧ firstKey (fun v => decide (kv = v)) l i = some (i + j, e.val) := by
    intro l
    induction l with
    | nil => intro i e _ he; simp at he
    | cons x r ih =>
      intro i e hpw he hkv
      rw [List.pairwise_cons] at hpw
      rcases List.mem_cons.1 he with rfl | he
      · exact ⟨0, rfl, by simp [firstKey, hkv]⟩
      · have hne : ¬ kv = x.key := fun h0 => hpw.1 e he (by rw [hkv, h0])
        obtain ⟨j, h1, h2⟩ := ih (i + 1) e hpw.2 he hkv
        refine ⟨j + 1, by simpa using h1, ?_⟩
        simp only [firstKey, hne, decide_false]
        rw [h2]
        congr 2; omega
  cases r with
  | none =>
    simp only at c2 ⊢
    have hne : ∀ e ∈ es.toList, e.key ≠ kv := fun e he => c2 e (hp.mem_iff.2 he)
    exact ⟨by rw [hrun, none_of _ _ hne], hne, c2⟩
  | some i =>
    simp only at c2 ⊢
    obtain ⟨e, h1, h2⟩ := c2
    have he : e ∈ es.toList := hp.mem_iff.1 (List.mem_of_getElem? h1)
    obtain ⟨j, h3, h4⟩ := some_of es.toList 0 e ho.keys he h2
    exact ⟨e, j, h1, h2, by simpa using h3, by rw [hrun, h4]; simp⟩
theorem mapTI_und (hT : TyOk C) {t kt : Nat} {ei : TI} (h : mapTI C t = some (kt, ei)) : ∃ el, C.P.underlying t = some (.map kt el) ∧ TyAt C.P el ei := by
  unfold mapTI at h
  split at h
  · rename_i k e hk
    split at h
    · rename_i i hi
      injection h with h; injection h with h1 h2; subst h1; subst h2
      obtain ⟨d, hu, hd⟩ := und_kind hT (t := t) (by rw [hk]; simp)
      rw [hk] at hd; have := desc_map hd; subst this
      exact ⟨_, hu, hT _ _ hi⟩
    · cases h
  · cases h
theorem run_getObj_map {P : Program} {w : World} {r : Nat} {es : Array MapEntry} {ck : Nat} (hh : w.heap[r]? = some (.map es ck)) : (getObj r).run P w = .ok (.map es ck) w := by
  simp [getObj, Sem.run, hh]
/-- Where a map's entries are. -/
def MapSrc (w : World) (mv : Value) (es : Array MapEntry) : Prop := (mv = .map none ∧ es = #[]) ∨ ∃ r ck, mv = .map (some r) ∧ w.heap[r]? = some (.map es ck)
theorem mapAt_sound (ok : σ.ok) {m : V} {mv : Value} (hm : RepV σ m mv) {ks vs : List V} (h : mapAt σ.H m = some (ks, vs)) :
    ∃ (es : Array MapEntry) (l : List MapEntry) (clock : Nat), MapSrc σ.w mv es ∧ MapOk es.toList clock ∧ l.Perm es.toList ∧ RepVs σ ks (l.map MapEntry.key) ∧ RepVs σ vs (l.map MapEntry.val) := by
  unfold mapAt at h
  split at h
  · rename_i b
    split at h
    · rename_i ks' vs' ho
      injection h with h; injection h with h1 h2; subst h1; subst h2
      obtain ⟨es, ck, l, g1, g2, g3, g4, g5, g6⟩ := ok.objs b _ ho
      cases hm with
      | mp hid => exact ⟨es, l, ck, .inr ⟨_, _, rfl, g1⟩, g2, g3, g4, g5⟩
    · cases h
  · injection h with h; injection h with h1 h2; subst h1; subst h2
    cases hm with
    | p hm => cases hm with
      | lit _ => exact ⟨#[], [], 0, .inl ⟨rfl, rfl⟩, ⟨by simp, by simp, by simp⟩, .refl _, .nil, .nil⟩
  · injection h with h; injection h with h1 h2; subst h1; subst h2
    cases hm with
    | p hm => cases hm with
      | mp l hf hh ho hp ek ev hk hv => subst ek; subst ev; exact ⟨_, l, _, .inr ⟨_, _, rfl, hh⟩, ho, hp, hk.toV, hv.toV⟩
  · cases h
theorem pack2_rep {v : V} {x : Value} {b : Bool} (h : RepV σ v x) : RepV σ (pack2 v b) (.tuple #[x, .bool b]) := by
  unfold pack2
  split
  · rename_i d hd
    exact .p (.tup (.cons (h.toD hd) (.cons (.lit rfl) .nil)))
  · exact .tup (.cons h (.cons (.p (.lit rfl)) .nil))
theorem lookup_some {P : Program} {w : World} {t kt el j : Nat} {mv kv x : Value} {es : Array MapEntry} (cok : Bool) (hu : P.underlying t = some (.map kt el)) (hm : MapSrc w mv es) (hc : ∀ b, (Instr.checkKey b 10000 kt kv).run P w = .ok () w)
    (hf : (Instr.findKey kt kv es.toList).run P w = .ok (some (j, x)) w) : (Instr.lookup t mv kv cok).run P w = .ok (if cok then .tuple #[x, .bool true] else x) w := by
  rcases hm with ⟨rfl, rfl⟩ | ⟨r, ck, rfl, hh⟩
  · simp only [Instr.lookup, Sem.run_bind, run_underlying hu, Result.andThen_ok, pure_bind, hc, hf]
    rfl
  · simp only [Instr.lookup, Sem.run_bind, run_underlying hu, Result.andThen_ok, run_getObj_map hh, bind_assoc, pure_bind, hc, hf]
    rfl
theorem lookup_none {P : Program} {w : World} {t kt el : Nat} {mv kv z : Value} {es : Array MapEntry} (cok : Bool) (hu : P.underlying t = some (.map kt el)) (hm : MapSrc w mv es) (hc : ∀ b, (Instr.checkKey b 10000 kt kv).run P w = .ok () w)
    (hf : (Instr.findKey kt kv es.toList).run P w = .ok none w) (hz : (zeroValue el).run P w = .ok z w) : (Instr.lookup t mv kv cok).run P w = .ok (if cok then .tuple #[z, .bool false] else z) w := by
  rcases hm with ⟨rfl, rfl⟩ | ⟨r, ck, rfl, hh⟩
  · simp only [Instr.lookup, Sem.run_bind, run_underlying hu, Result.andThen_ok, pure_bind, hc, hf, bind_assoc, hz]
    rfl
  · simp only [Instr.lookup, Sem.run_bind, run_underlying hu, Result.andThen_ok, run_getObj_map hh, bind_assoc, pure_bind, hc, hf, hz]
    rfl
theorem zero_rep {P : Program} {t : Nat} {i : TI} (ht : TyAt P t i) {v : V} (h : packV i.agg (i.zero.map .p) = some v) : RepV σ v (zeroOf i) := by
  have hz := zeroOf_cells ht
  have hr : RepVs σ (i.zero.map .p) (i.zero.map zval) := (zvals_rep ht.zok).toV
  have := hr.packV (leaf_map fun d hd => (zval_rep (w := default) (Fz := fun _ _ => True) (ht.zok d hd)).2) h
  have e : packVal i.agg (i.zero.map zval) = zeroOf i := by
    unfold packVal zeroOf
    cases ha : i.agg with
    | true => simp
    | false =>
      have h1 := ht.one ha
      have h2 := ht.zs
      rw [h1] at h2
      match hz : i.zero, h2 with
      | [d], _ => simp
  rw [e] at this
  exact this
theorem lookupOp_sound (hT : TyOk C) (ok : σ.ok) {t : Nat} {m k v : V} {mv kv : Value} {cok : Bool} (hm : RepV σ m mv) (hk : RepV σ k kv) (h : (lookupOp C σ.H t m k cok).out v) :
    ∃ z, (Instr.lookup t mv kv cok).run C.P σ.w = .ok z σ.w ∧ RepV σ v z := by
  unfold lookupOp at h
  split at h
  case h_2 => exact (out_fail h).elim
  rename_i kt ei ks vs hti hma
  obtain ⟨el, hu, ht⟩ := mapTI_und hT hti
  obtain ⟨es, l, ck, q1, q2, q3, q4, q5⟩ := mapAt_sound ok hm hma
  split at h
  · rename_i i hf
    obtain ⟨c1, e, j, c2, c3, c4, c5⟩ := kfindK_sound hT ok hk q4 q3 q2 hf
    split at h
    · rename_i x hx
      have := out_ret h; subst this
      obtain ⟨y, y1, y2⟩ := q5.at hx
      have hy : y = e.val := by
        rw [List.getElem?_map, c2] at y1
        simpa using y1.symm
      subst hy
      refine ⟨if cok then .tuple #[e.val, .bool true] else e.val, ?_, ?_⟩
      · exact lookup_some cok hu q1 (fun b => checkKey_run c1 b _) c5
      · cases cok with
        | true => exact pack2_rep y2
        | false => exact y2
    · exact (out_fail h).elim
  · rename_i hf
    obtain ⟨c1, c2, _⟩ := kfindK_sound hT ok hk q4 q3 q2 hf
    split at h
    · rename_i x hx
      have := out_ret h; subst this
      have hz := zero_rep (σ := σ) ht hx
      refine ⟨if cok then .tuple #[zeroOf ei, .bool false] else zeroOf ei, ?_, ?_⟩
      · exact lookup_none cok hu q1 (fun b => checkKey_run c1 b _) c2 ht.run_zero
      · cases cok with
        | true => exact pack2_rep hz
        | false => exact hz
    · exact (out_fail h).elim
  · exact (out_fail h).elim
theorem mapLen_sound (ok : σ.ok) {t ty kt et : Nat} {m : V} {mv : Value} (hm : RepV σ m mv) (hu : C.P.underlying t = some (.map kt et)) {ks vs : List V} (h : mapAt σ.H m = some (ks, vs)) :
    (Builtin.len_ #[t] ty #[mv]).run C.P σ.w = .ok (.int .i64 ks.length) σ.w := by
  obtain ⟨es, l, ck, q1, q2, q3, q4, q5⟩ := mapAt_sound ok hm h
  have hl : ks.length = es.size := by
    have h1 := q4.length
    have h2 := q3.length_eq
    simp at h1 h2
    omega
  rw [hl]
  rcases q1 with ⟨rfl, rfl⟩ | ⟨r, ck', rfl, hh⟩
  · simp [Builtin.len_, run_underlying hu, goInt]
  · simp [Builtin.len_, run_underlying hu, run_getObj_map hh, goInt]
theorem makeMap_sound (ok : σ.ok) {P : Program} {t : Nat} : Made P σ (Instr.makeMap t none) (.mp σ.H.length) (σ.H ++ [.map [] []]) := by
  obtain ⟨h1, h2⟩ := ok.pushO (ob := .map #[] 0) (obj := .map [] []) rfl (fun m => ⟨#[], 0, [], by simp only [St.pushO, and_self, if_true]; exact heap_push_new _ _, ⟨by simp, by simp, by simp⟩, .refl _, .nil, .nil, fun j o => by simp [St.pushO]⟩)
  refine ⟨.map (some σ.w.heap.size), _, rfl, rfl, h1, h2, ?_⟩
  have := RepV.mp (σ := σ.pushO (.map #[] 0) (.map [] [])) (b := σ.H.length) ⟨0, by show ((σ.H ++ [AObj.map [] []])[σ.H.length]?).map AObj.ver = _; simp [AObj.ver], Nat.le_refl _⟩
  have e : (σ.pushO (.map #[] 0) (.map [] [])).ι σ.H.length 0 = σ.w.heap.size := by simp [St.pushO]
  rw [e] at this
  exact this
theorem run_setObj_map {P : Program} {w : World} {r : Nat} {es es' : Array MapEntry} {ck ck' : Nat} (hh : w.heap[r]? = some (.map es ck)) : (setObj r (.map es' ck')).run P w = .ok () { w with heap := w.heap.setIfInBounds r (.map es' ck') } := by
  simp [setObj, Sem.run, hh]
theorem sameBits_self {P : Program} {w : World} {kt : Nat} {kv : Value} (h : KCmp P w kt kv kv true) (n : Nat) : Instr.sameBits n kv kv = true := by
  rcases h.2 with ⟨d, h1, h2⟩ | ⟨el, x, y, h1, h2, h3, h4⟩
  · cases d <;> cases kv <;> simp [Instr.sameNow] at h2 <;> first | (simp only [Instr.sameBits]; exact h2) | simp [Instr.sameBits]
  · subst h2; simp [Instr.sameBits]
theorem keyStays_run {P : Program} {w : World} {kt : Nat} {kv : Value} (h : KCmp P w kt kv kv true) : (Instr.keyThatStays kv kv).run P w = .ok kv w := by
  simp [Instr.keyThatStays, sameBits_self h]
theorem perm_set {α : Type} {l es : List α} {i j : Nat} {e x : α} (hp : l.Perm es) (hi : l[i]? = some e) (hj : es[j]? = some e) : (l.set i x).Perm (es.set j x) := by
  obtain ⟨hi1, hi2⟩ := List.getElem?_eq_some_iff.1 hi
  obtain ⟨hj1, hj2⟩ := List.getElem?_eq_some_iff.1 hj
  have e1 : l = l.take i ++ e :: l.drop (i + 1) := by rw [← hi2, ← List.drop_eq_getElem_cons hi1, List.take_append_drop]
  have e2 : es = es.take j ++ e :: es.drop (j + 1) := by rw [← hj2, ← List.drop_eq_getElem_cons hj1, List.take_append_drop]
  have s1 : l.set i x = l.take i ++ x :: l.drop (i + 1) := by rw [List.set_eq_take_append_cons_drop, if_pos hi1]
  have s2 : es.set j x = es.take j ++ x :: es.drop (j + 1) := by rw [List.set_eq_take_append_cons_drop, if_pos hj1]
  rw [s1, s2]
  rw [e1, e2] at hp
  have := (List.perm_middle.symm.trans hp).trans List.perm_middle
  exact (List.perm_middle.trans ((List.Perm.cons_inv this).cons x)).trans List.perm_middle.symm
theorem perm_erase {α : Type} {l es : List α} {i j : Nat} {e : α} (hp : l.Perm es) (hi : l[i]? = some e) (hj : es[j]? = some e) : (l.eraseIdx i).Perm (es.eraseIdx j) := by
  obtain ⟨hi1, hi2⟩ := List.getElem?_eq_some_iff.1 hi
  obtain ⟨hj1, hj2⟩ := List.getElem?_eq_some_iff.1 hj
  have e1 : l = l.take i ++ e :: l.drop (i + 1) := by rw [← hi2, ← List.drop_eq_getElem_cons hi1, List.take_append_drop]
  have e2 : es = es.take j ++ e :: es.drop (j + 1) := by rw [← hj2, ← List.drop_eq_getElem_cons hj1, List.take_append_drop]
  rw [List.eraseIdx_eq_take_drop_succ, List.eraseIdx_eq_take_drop_succ]
  rw [e1, e2] at hp
  have := (List.perm_middle.symm.trans hp).trans List.perm_middle
  exact List.Perm.cons_inv this
theorem pw_set {α : Type} {R : α → α → Prop} (hs : ∀ a b, R a b → R b a) : ∀ {l : List α} {i : Nat} {e x : α}, l.Pairwise R → l[i]? = some e → (∀ y, R e y → R x y) → (l.set i x).Pairwise R
  | [], i, e, x, h, hi, _ => by simp at hi
  | a :: r, 0, e, x, h, hi, hx => by
    simp at hi; subst hi
    rw [List.pairwise_cons] at h
    rw [List.set_cons_zero, List.pairwise_cons]
    exact ⟨fun y hy => hx y (h.1 y hy), h.2⟩
  | a :: r, i + 1, e, x, h, hi, hx => by
    rw [List.pairwise_cons] at h
    simp at hi
    rw [List.set_cons_succ, List.pairwise_cons]
    refine ⟨fun y hy => ?_, pw_set hs h.2 hi hx⟩
    rcases List.mem_or_eq_of_mem_set hy with hy | rfl
    · exact h.1 y hy
    · exact hs _ _ (hx a (hs _ _ (h.1 e (List.mem_of_getElem? hi))))
theorem mapPut_sound (hT : TyOk C) (ok : σ.ok) {t : Nat} {m k v : V} {mv kv vv : Value} {H' : AHeap} (hm : RepV σ m mv) (hk : RepV σ k kv) (hv : RepV σ v vv) (h : (mapPut C σ.H t m k v).out H') :
    ∃ τ : St, (Instr.mapUpdate t mv kv vv).run C.P σ.w = .ok () τ.w ∧ τ.H = H' ∧ τ.ok ∧ Ext σ τ := by
  unfold mapPut at h
  split at h
  case h_2 => exact (out_fail h).elim
  rename_i kt ei b hti
  obtain ⟨el, hu, ht⟩ := mapTI_und hT hti
  split at h
  case h_2 => exact (out_fail h).elim
  rename_i ks vs ho
  obtain ⟨es, ck, l, g1, g2, g3, g4, g5, g6⟩ := ok.objs b _ ho
  cases hm with
  | mp hid =>
  split at h
  · rename_i i hf
    obtain ⟨c1, e, j, c2, c3, c4, c5⟩ := kfindK_sound hT ok hk g4 g3 g2 hf
    have := out_ret h; subst this
    have hjl : es.toList[j]? = some e := by simpa using c4
    have hji := (List.getElem?_eq_some_iff.1 hjl).1
    have hlm : (es.modify j fun e => { e with key := kv, val := vv }).toList = es.toList.set j { e with key := kv, val := vv } := by
      apply List.ext_getElem?
      intro q
      rw [← Array.getElem?_toList] at *
      simp only [Array.toList_modify, List.getElem?_modify, List.getElem?_set]
      by_cases hq : j = q
      · subst hq
        simp [hjl]
        simpa using hji
      · simp [hq]
    obtain ⟨r1, r2⟩ := ok.setMap (l := l.set i { e with key := kv, val := vv }) (es := es.modify j fun e => { e with key := kv, val := vv }) (clock := ck) (ks := ks.set i k) (vs := vs.set i v) ho
      (by
        rw [hlm]
        refine ⟨pw_set (fun a b h => h.symm) g2.keys hjl (fun y hy => by simpa [← c3] using hy), pw_set (fun a b h => h.symm) g2.births hjl (fun y hy => hy), fun y hy => ?_⟩
        rcases List.mem_or_eq_of_mem_set hy with hy | rfl
        · exact g2.clock y hy
        · exact g2.clock e (List.mem_of_getElem? hjl)) (by rw [hlm]; exact perm_set g3 c2 hjl)
      (by rw [List.map_set]; exact g4.set hk) (by rw [List.map_set]; exact g5.set hv)
    refine ⟨_, ?_, rfl, r1, r2⟩
    simp only [Instr.mapUpdate, Sem.run_bind, run_underlying hu, Result.andThen_ok, run_getObj_map g1, checkKey_run c1, c5, c4, Option.map_some, Option.getD_some, c3, keyStays_run c1, run_setObj_map g1]
    rfl
  · rename_i hf
    obtain ⟨c1, c2, c3, c4⟩ := kfindK_sound hT ok hk g4 g3 g2 hf
    have := out_ret h; subst this
    obtain ⟨r1, r2⟩ := ok.setMap (l := l ++ [{ key := kv, val := vv, born := ck }]) (es := es.push { key := kv, val := vv, born := ck }) (clock := ck + 1) (ks := ks ++ [k]) (vs := vs ++ [v]) ho
      (by
        rw [Array.toList_push]
        refine ⟨?_, ?_, fun y hy => ?_⟩
        · rw [List.pairwise_append]
          exact ⟨g2.keys, by simp, fun a ha b hb => by simp at hb; subst hb; exact c3 a ha⟩
        · rw [List.pairwise_append]
          exact ⟨g2.births, by simp, fun a ha b hb => by simp at hb; subst hb; exact Nat.ne_of_lt (g2.clock a ha)⟩
        · rcases List.mem_append.1 hy with hy | hy
          · exact Nat.lt_succ_of_lt (g2.clock y hy)
          · simp at hy; subst hy; exact Nat.lt_succ_self _) (by rw [Array.toList_push]; exact g3.append (.refl _))
      (by rw [List.map_append]; exact g4.append (.cons hk .nil)) (by rw [List.map_append]; exact g5.append (.cons hv .nil))
    refine ⟨_, ?_, rfl, r1, r2⟩
    simp only [Instr.mapUpdate, Sem.run_bind, run_underlying hu, Result.andThen_ok, run_getObj_map g1, checkKey_run c1, c2, run_setObj_map g1]
    rfl
  · exact (out_fail h).elim
theorem mapDrop_sound (hT : TyOk C) (ok : σ.ok) {t ty : Nat} {u : TypeId} {m k : V} {mv kv : Value} {H' : AHeap} (hm : RepV σ m mv) (hk : RepV σ k kv) (h : (mapDrop C σ.H t m k).out H') :
    ∃ τ : St, (Builtin.delete_ #[t, u] ty #[mv, kv]).run C.P σ.w = .ok (.tuple #[]) τ.w ∧ τ.H = H' ∧ τ.ok ∧ Ext σ τ := by
  unfold mapDrop at h
  split at h
  case h_2 => exact (out_fail h).elim
  rename_i kt ei b hti
  obtain ⟨el, hu, ht⟩ := mapTI_und hT hti
  split at h
  case h_2 => exact (out_fail h).elim
  rename_i ks vs ho
  obtain ⟨es, ck, l, g1, g2, g3, g4, g5, g6⟩ := ok.objs b _ ho
  cases hm with
  | mp hid =>
  split at h
  · rename_i i hf
    obtain ⟨c1, e, j, c2, c3, c4, c5⟩ := kfindK_sound hT ok hk g4 g3 g2 hf
    have := out_ret h; subst this
    have hjl : es.toList[j]? = some e := by simpa using c4
    have hlm : (es.eraseIdxIfInBounds j).toList = es.toList.eraseIdx j := by
      have hj := (Array.getElem?_eq_some_iff.1 c4).1
      simp [Array.eraseIdxIfInBounds, hj]
    have hsub : (es.toList.eraseIdx j).Sublist es.toList := List.eraseIdx_sublist _ _
    obtain ⟨r1, r2⟩ := ok.setMap (l := l.eraseIdx i) (es := es.eraseIdxIfInBounds j) (clock := ck) (ks := ks.eraseIdx i) (vs := vs.eraseIdx i) ho
      (by
        rw [hlm]
        exact ⟨g2.keys.sublist hsub, g2.births.sublist hsub, fun y hy => g2.clock y (hsub.subset hy)⟩) (by rw [hlm]; exact perm_erase g3 c2 hjl)
      (by rw [← eraseIdx_map']; exact g4.erase) (by rw [← eraseIdx_map']; exact g5.erase)
    refine ⟨_, ?_, rfl, r1, r2⟩
    simp only [Builtin.delete_, List.getElem?_toArray, List.getElem?_cons_zero, List.getElem?_cons_succ, Sem.run_bind, run_underlying hu, Result.andThen_ok, run_getObj_map g1, checkKey_run c1, c5, run_setObj_map g1, Sem.run_pure]
    rfl
  · rename_i hf
    obtain ⟨c1, c2, c3, c4⟩ := kfindK_sound hT ok hk g4 g3 g2 hf
    have := out_ret h; subst this
    obtain ⟨r1, r2⟩ := ok.setMap (l := l) (es := es) (clock := ck) (ks := ks) (vs := vs) ho g2 g3 g4 g5
    refine ⟨_, ?_, rfl, r1, r2⟩
    simp only [Builtin.delete_, List.getElem?_toArray, List.getElem?_cons_zero, List.getElem?_cons_succ, Sem.run_bind, run_underlying hu, Result.andThen_ok, run_getObj_map g1, checkKey_run c1, c2, run_setObj_map g1, Sem.run_pure]
    rfl
  · exact (out_fail h).elim
end
end Go.Abs
