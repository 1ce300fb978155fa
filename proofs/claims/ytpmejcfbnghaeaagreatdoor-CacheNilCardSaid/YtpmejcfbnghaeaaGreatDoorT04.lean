/- Soundness of single operations: comparisons, parts, slices. -/
import Derived.Test.YtpmejcfbnghaeaaGreatDoorT03
import Derived.Lib.Builder
namespace Go.Abs
set_option linter.unusedVariables false
set_option linter.unusedSimpArgs false
section
variable {C : Ctx} {σ : St}

theorem guard_quiet {P : Program} {w : World} {op : BinOp} {t : TypeId} {x y : Operand} {a b : Value}
    (h : ∀ cs ds, a = .agg cs → b = .agg ds → P.eqGuardType P.depth t = false) (h2 : a = .nilIface → b ≠ .nilIface) : (eqGuard op t x y a b).run P w = .ok () w := by
  unfold eqGuard
  cases op
  case eql => cases a <;> first | rfl | skip
              case nilIface => cases b <;> first | rfl | exact (h2 rfl rfl).elim
              case agg cs => cases b <;> first | rfl | (rename_i ds; simp [h cs ds rfl rfl])
  case neq => cases a <;> first | rfl | skip
              case nilIface => cases b <;> first | rfl | exact (h2 rfl rfl).elim
              case agg cs => cases b <;> first | rfl | (rename_i ds; simp [h cs ds rfl rfl])
  all_goals rfl
theorem bin_run {P : Program} {w : World} {op : BinOp} {t : TypeId} {x y : Operand} {a b z : Value} (hg : (eqGuard op t x y a b).run P w = .ok () w) (hb : (binOp op t a b).run P w = .ok z w) :
    ((do eqGuard op t x y a b; binOp op t a b : Sem Value)).run P w = .ok z w := by
  rw [Sem.run_bind, hg]; exact hb
theorem equal_run {P : Program} {w : World} {t : TypeId} {a b : Value} {r : Bool} (h : ∀ d, (Op.equalIn (d + 1) t a b).run P w = .ok r w) : (Op.equal t a b).run P w = .ok r w := h 9999
theorem equalIn_ptr_nil {P : Program} {w : World} {d : Nat} {t : TypeId} {q : TypeId} {x : Addr} (h : P.underlying t = some (.pointer q)) :
    (Op.equalIn (d + 1) t (.pointer (some x)) (.pointer none)).run P w = .ok false w := by
  simp [Op.equalIn, run_underlying h]
theorem equalIn_nil_nil {P : Program} {w : World} {d : Nat} {t : TypeId} {q : TypeId} (h : P.underlying t = some (.pointer q)) :
    (Op.equalIn (d + 1) t (.pointer none) (.pointer none)).run P w = .ok true w := by
  simp [Op.equalIn, run_underlying h]
theorem und_kind (hT : TyOk C) {t : Nat} (hk : (C.ty t).kind ≠ .bad) : ∃ d, C.P.underlying t = some d ∧ descKind d = (C.ty t).kind :=
  (hT t _ (by unfold tyOf; split <;> simp_all)).und
theorem bin_sound (hT : TyOk C) {t : Nat} {op : BinOp} {x y : Operand} {va vb v : V} {a b : Value} (ha : RepV σ va a) (hb : RepV σ vb b) (h : (bin C t op va vb).out v) :
    ∃ z, ((do eqGuard op t x y a b; binOp op t a b : Sem Value)).run C.P σ.w = .ok z σ.w ∧ RepV σ v z := by
  unfold bin at h
  split at h
  · obtain rfl := lit_int ha; obtain rfl := lit_int hb
    obtain ⟨z, h1, h2⟩ := shiftBin_sound (σ := σ) (P := C.P) (w := σ.w) (t := t) (.inl rfl) h
    exact ⟨z, bin_run (guard_quiet (by simp) (by simp)) h1, h2⟩
  · obtain rfl := lit_int ha; obtain rfl := lit_int hb
    obtain ⟨z, h1, h2⟩ := shiftBin_sound (σ := σ) (P := C.P) (w := σ.w) (t := t) (.inr rfl) h
    exact ⟨z, bin_run (guard_quiet (by simp) (by simp)) h1, h2⟩
  · obtain rfl := lit_int ha; obtain rfl := lit_int hb
    obtain ⟨hc, h'⟩ := out_chk h
    simp only [decide_eq_true_eq] at hc
    subst hc
    obtain ⟨z, h1, h2⟩ := intBin_sound' (σ := σ) (P := C.P) (w := σ.w) (t := t) h'
    exact ⟨z, bin_run (guard_quiet (by simp) (by simp)) h1, h2⟩
  · obtain rfl := lit_str ha; obtain rfl := lit_str hb
    obtain ⟨z, h1, h2⟩ := strBin_sound (σ := σ) (P := C.P) (w := σ.w) (t := t) h
    exact ⟨z, bin_run (guard_quiet (by simp) (by simp)) h1, h2⟩
  · obtain rfl := lit_float ha; obtain rfl := lit_float hb
    obtain ⟨hc, h'⟩ := out_chk h
    simp only [decide_eq_true_eq] at hc
    subst hc
    obtain ⟨z, h1, h2⟩ := floatBin_sound (σ := σ) (P := C.P) (w := σ.w) (t := t) h'
    exact ⟨z, bin_run (guard_quiet (by simp) (by simp)) h1, h2⟩
  · obtain rfl := lit_complex ha; obtain rfl := lit_complex hb
    obtain ⟨hc, h'⟩ := out_chk h
    simp only [decide_eq_true_eq] at hc
    subst hc
    obtain ⟨z, h1, h2⟩ := complexBin_sound (σ := σ) (P := C.P) (w := σ.w) (t := t) h'
    exact ⟨z, bin_run (guard_quiet (by simp) (by simp)) h1, h2⟩
  · obtain rfl := lit_bool ha; obtain rfl := lit_bool hb
    split at h
    · rename_i hk
      have := out_ret h; subst this
      obtain ⟨d, hu, hd⟩ := und_kind hT (t := t) (by rw [hk]; simp)
      rw [hk] at hd; have := desc_bool hd; subst this
      refine ⟨_, bin_run (guard_quiet (by simp) (by simp)) ?_, rep_lit rfl⟩
      simp only [binOp, Sem.run_bind, equal_run (fun d => equalIn_bool (d := d) hu), Result.andThen_ok, Sem.run_pure]
    · rename_i hk
      have := out_ret h; subst this
      obtain ⟨d, hu, hd⟩ := und_kind hT (t := t) (by rw [hk]; simp)
      rw [hk] at hd; have := desc_bool hd; subst this
      refine ⟨_, bin_run (guard_quiet (by simp) (by simp)) ?_, rep_lit rfl⟩
      simp only [binOp, Sem.run_bind, equal_run (fun d => equalIn_bool (d := d) hu), Result.andThen_ok, Sem.run_pure]
    · exact (out_fail h).elim
  · obtain rfl := lit_nilp hb
    cases ha with
    | ptr hid =>
      split at h
      · rename_i hk
        have := out_ret h; subst this
        obtain ⟨d, hu, hd⟩ := und_kind hT (t := t) (by rw [hk]; simp)
        rw [hk] at hd; have := desc_ptr hd; subst this
        refine ⟨_, bin_run (guard_quiet (by simp) (by simp)) ?_, rep_lit rfl⟩
        simp only [binOp, Sem.run_bind, equal_run (fun d => equalIn_ptr_nil (d := d) hu), Result.andThen_ok, Sem.run_pure]
      · rename_i hk
        have := out_ret h; subst this
        obtain ⟨d, hu, hd⟩ := und_kind hT (t := t) (by rw [hk]; simp)
        rw [hk] at hd; have := desc_ptr hd; subst this
        refine ⟨_, bin_run (guard_quiet (by simp) (by simp)) ?_, rep_lit rfl⟩
        simp only [binOp, Sem.run_bind, equal_run (fun d => equalIn_ptr_nil (d := d) hu), Result.andThen_ok, Sem.run_pure]; rfl
      · exact (out_fail h).elim
  · obtain rfl := lit_nilp ha; obtain rfl := lit_nilp hb
    split at h
    · rename_i hk
      have := out_ret h; subst this
      obtain ⟨d, hu, hd⟩ := und_kind hT (t := t) (by rw [hk]; simp)
      rw [hk] at hd; have := desc_ptr hd; subst this
      refine ⟨_, bin_run (guard_quiet (by simp) (by simp)) ?_, rep_lit rfl⟩
      simp only [binOp, Sem.run_bind, equal_run (fun d => equalIn_nil_nil (d := d) hu), Result.andThen_ok, Sem.run_pure]
    · rename_i hk
      have := out_ret h; subst this
      obtain ⟨d, hu, hd⟩ := und_kind hT (t := t) (by rw [hk]; simp)
      rw [hk] at hd; have := desc_ptr hd; subst this
      refine ⟨_, bin_run (guard_quiet (by simp) (by simp)) ?_, rep_lit rfl⟩
      simp only [binOp, Sem.run_bind, equal_run (fun d => equalIn_nil_nil (d := d) hu), Result.andThen_ok, Sem.run_pure]; rfl
    · exact (out_fail h).elim
  · rename_i b ver o b' ver' o'
    split at h
    · rename_i el hk hb3
      simp only [Bool.and_eq_true] at hb3
      have e1 := Nat.eq_of_beq_eq_true hb3.1.1
      have e2 := Nat.eq_of_beq_eq_true hb3.1.2
      have e3 := Nat.eq_of_beq_eq_true hb3.2
      subst e1; subst e2; subst e3
      split at h
      · rename_i i hi
        split at h
        · exact (out_fail h).elim
        · obtain ⟨d, hu, hd⟩ := und_kind hT (t := t) (by rw [hk]; simp)
          rw [hk] at hd; have := desc_ptr hd; subst this
          obtain ⟨inf, i1, _⟩ := (hT _ i hi).info
          cases ha with
          | ptr hid => cases hb with
            | ptr hid' =>
              have heq : (Op.equal t (.pointer (some ⟨σ.ι b ver, o, none⟩)) (.pointer (some ⟨σ.ι b ver, o, none⟩))).run C.P σ.w = .ok true σ.w := equal_run fun d => by
                simp [Op.equalIn, run_underlying hu, sizeOf, typeInfo, i1, run_sameAddr_same]
              unfold eqlV at h
              split at h
              · have := out_ret h; subst this
                refine ⟨_, bin_run (guard_quiet (by simp) (by simp)) ?_, rep_lit rfl⟩
                simp only [binOp, Sem.run_bind, heq, Result.andThen_ok, Sem.run_pure]
              · have := out_ret h; subst this
                refine ⟨_, bin_run (guard_quiet (by simp) (by simp)) ?_, rep_lit rfl⟩
                simp only [binOp, Sem.run_bind, heq, Result.andThen_ok, Sem.run_pure]
              · exact (out_fail h).elim
      · exact (out_fail h).elim
    · exact (out_fail h).elim
  · obtain rfl := lit_nilp hb
    cases ha with
    | p ha => cases ha with
      | rp hl hr hs =>
        split at h
        · rename_i el hk
          obtain ⟨d, hu, hd⟩ := und_kind hT (t := t) (by rw [hk]; simp)
          rw [hk] at hd; have := desc_ptr hd; subst this
          unfold eqlV at h
          split at h
          · have := out_ret h; subst this
            refine ⟨_, bin_run (guard_quiet (by simp) (by simp)) ?_, rep_lit rfl⟩
            simp only [binOp, Sem.run_bind, equal_run (fun d => equalIn_ptr_nil (d := d) hu), Result.andThen_ok, Sem.run_pure]
          · have := out_ret h; subst this
            refine ⟨_, bin_run (guard_quiet (by simp) (by simp)) ?_, rep_lit rfl⟩
            simp only [binOp, Sem.run_bind, equal_run (fun d => equalIn_ptr_nil (d := d) hu), Result.andThen_ok, Sem.run_pure]
          · exact (out_fail h).elim
        · exact (out_fail h).elim
  · cases ha with
    | p ha => cases ha with
      | agg hla ha => cases hb with
        | p hb => cases hb with
          | agg hlb hb =>
            split at h
            · rename_i i hi
              split at h
              · rename_i hag hcmp
                have hg := ((hT t i hi).cmp hcmp).2
                have key := fun {b : Bool} he => eqT_sound hT (w := σ.w) (Fz := σ.Fz) 100 10000 (by omega) t _ _ _ _ b i ha hb he hi
                rw [hag] at key
                simp only [packVal] at key
                split at h
                · unfold optBl at h
                  split at h
                  · rename_i b he
                    have := out_ret h; subst this
                    refine ⟨_, bin_run (guard_quiet (fun _ _ _ _ => hg) (by simp)) ?_, rep_lit rfl⟩
                    have hk : (Op.equal t _ _).run C.P σ.w = _ := key he
                    simp only [binOp, Sem.run_bind, hk, Result.andThen_ok, Sem.run_pure]
                  · exact (out_fail h).elim
                · unfold optBl at h
                  split at h
                  · rename_i b he
                    have := out_ret h; subst this
                    refine ⟨_, bin_run (guard_quiet (fun _ _ _ _ => hg) (by simp)) ?_, rep_lit rfl⟩
                    have hk : (Op.equal t _ _).run C.P σ.w = _ := key he
                    simp only [binOp, Sem.run_bind, hk, Result.andThen_ok, Sem.run_pure]
                  · exact (out_fail h).elim
                · exact (out_fail h).elim
              · exact (out_fail h).elim
            · exact (out_fail h).elim
  · exact (out_fail h).elim
end
end Go.Abs
/- Soundness of single operations: slices, indexes, fields, parts put together. -/
namespace Go.Abs
set_option linter.unusedVariables false
set_option linter.unusedSimpArgs false
section
variable {C : Ctx} {σ : St} {e : Env} {a : Act}

/-- A bound that is given or not. -/
def OI : Option Value → Option Int → Prop
  | none, none => True
  | some (.int _ n), some m => n = m
  | _, _ => False
theorem evInt_sound (hG : GOk C σ) (he : EnvOk σ e a) {o : Option Operand} {r : Option Int} (h : evInt C e o = some r) : OI (o.map a.eval) r := by
  cases o with
  | none => simp [evInt] at h; subst h; trivial
  | some x =>
    simp only [evInt] at h
    split at h
    · rename_i k n hx
      injection h with h; subst h
      have := ev_sound hG he x
      rw [hx] at this
      simp [lit_int this, OI]
    · cases h
theorem bound_run {P : Program} {w : World} {v : Value} {i : Int} {y : Nat} {code : BoundsCode} (hv : OI (some v) (some i)) (h0 : 0 ≤ i) (h1 : i ≤ y) : (Instr.sliceBound v y code).run P w = .ok i.toNat w := by
  cases v <;> simp [OI] at hv
  subst hv
  simp [Instr.sliceBound, asIntOf, h0, h1]
theorem bounds_sound {P : Program} {w : World} {isS : Bool} {len cap capR : Nat} {lo hi mx : Option Int} {lo' hi' mx' : Option Value} {k : Nat → Nat → Option Nat → SM V} {v : V}
    (hlc : len ≤ cap) (hcap : cap ≤ capR) (hlo : OI lo' lo) (hhi : OI hi' hi) (hmx : OI mx' mx) (h : (bounds len cap lo hi mx k).out v) :
    ∃ l h m mR, (Instr.sliceBounds isS len capR lo' hi' mx').run P w = .ok (l, h, mR) w ∧ (k l h m).out v ∧ l ≤ h ∧ h ≤ cap ∧ (hi = none → h = len) ∧
      (match m with | none => mR = capR | some m' => mR = m' ∧ h ≤ m' ∧ m' ≤ cap) := by
  unfold bounds at h
  cases mx with
  | none =>
    cases mx' with
    | some _ => simp [OI] at hmx
    | none =>
      cases hi with
      | none =>
        cases hi' with
        | some _ => simp [OI] at hhi
        | none =>
          cases lo with
          | none =>
            cases lo' with
            | some _ => simp [OI] at hlo
            | none => exact ⟨0, len, none, capR, by simp [Instr.sliceBounds], h, by omega, hlc, fun _ => rfl, rfl⟩
          | some l =>
            cases lo' with
            | none => simp [OI] at hlo
            | some lv =>
              obtain ⟨hc, h⟩ := out_chk h
              simp only [decide_eq_true_eq] at hc
              exact ⟨l.toNat, len, none, capR, by simp [Instr.sliceBounds, bound_run hlo hc.1 hc.2], h, by omega, hlc, fun _ => rfl, rfl⟩
      | some hh =>
        cases hi' with
        | none => simp [OI] at hhi
        | some hv =>
          cases lo with
          | none =>
            cases lo' with
            | some _ => simp [OI] at hlo
            | none =>
              obtain ⟨hc, h⟩ := out_chk h
              simp only [decide_eq_true_eq] at hc
              exact ⟨0, hh.toNat, none, capR, by simp [Instr.sliceBounds, bound_run (y := capR) hhi hc.1 (by omega)], h, by omega, by omega, by simp, rfl⟩
          | some l =>
            cases lo' with
            | none => simp [OI] at hlo
            | some lv =>
              obtain ⟨hc, h⟩ := out_chk h
              simp only [decide_eq_true_eq] at hc
              exact ⟨l.toNat, hh.toNat, none, capR, by simp [Instr.sliceBounds, bound_run (y := capR) hhi (by omega) (by omega), bound_run (y := hh.toNat) hlo hc.1 (by omega)], h, by omega, by omega, by simp, rfl⟩
  | some m =>
    cases mx' with
    | none => simp [OI] at hmx
    | some mv =>
      cases hi with
      | none => exact (out_fail h).elim
      | some hh =>
        cases hi' with
        | none => simp [OI] at hhi
        | some hv =>
          cases lo with
          | none =>
            cases lo' with
            | some _ => simp [OI] at hlo
            | none =>
              obtain ⟨hc, h⟩ := out_chk h
              simp only [decide_eq_true_eq] at hc
              exact ⟨0, hh.toNat, some m.toNat, m.toNat, by simp [Instr.sliceBounds, bound_run (y := capR) hmx (by omega) (by omega), bound_run (y := m.toNat) hhi hc.1 (by omega)], h, by omega, by omega, by simp, rfl, by omega, by omega⟩
          | some l =>
            cases lo' with
            | none => simp [OI] at hlo
            | some lv =>
              obtain ⟨hc, h⟩ := out_chk h
              simp only [decide_eq_true_eq] at hc
              exact ⟨l.toNat, hh.toNat, some m.toNat, m.toNat, by simp [Instr.sliceBounds, bound_run (y := capR) hmx (by omega) (by omega), bound_run (y := m.toNat) hhi (by omega) (by omega), bound_run (y := hh.toNat) hlo hc.1 (by omega)], h, by omega, by omega, by simp, rfl, by omega, by omega⟩

theorem allSize_eq {s : Nat} : ∀ {xs : List D}, allSize s xs = true → ∀ x ∈ xs, x.cells.length = s
  | [], _, x, h => by simp at h
  | d :: r, h, x, hx => by
    unfold allSize at h
    cases hb : Nat.beq d.cells.length s with
    | false => simp [hb] at h
    | true =>
      simp only [hb] at h
      rcases List.mem_cons.1 hx with rfl | hx
      · exact Nat.eq_of_beq_eq_true hb
      · exact allSize_eq h x hx
theorem flat_length {s : Nat} : ∀ {xs : List D}, (∀ x ∈ xs, x.cells.length = s) → (xs.flatMap D.cells).length = xs.length * s
  | [], _ => by simp
  | d :: r, h => by
    rw [List.flatMap_cons, List.length_append, flat_length (fun x hx => h x (by simp [hx])), h d (by simp)]
    simp [Nat.succ_mul]; omega
theorem flat_drop {s : Nat} : ∀ {xs : List D}, (∀ x ∈ xs, x.cells.length = s) → ∀ n, (xs.drop n).flatMap D.cells = (xs.flatMap D.cells).drop (n * s)
  | [], _, n => by simp
  | d :: r, h, 0 => by simp
  | d :: r, h, n + 1 => by
    rw [List.drop_succ_cons, flat_drop (fun x hx => h x (by simp [hx])), List.flatMap_cons, List.drop_append]
    have hd := h d (by simp)
    have e0 : d.cells.drop ((n + 1) * s) = [] := List.drop_of_length_le (by rw [hd, Nat.succ_mul]; omega)
    have e1 : (n + 1) * s - d.cells.length = n * s := by rw [hd, Nat.succ_mul]; omega
    rw [e0, e1, List.nil_append]
theorem flat_take {s : Nat} : ∀ {xs : List D}, (∀ x ∈ xs, x.cells.length = s) → ∀ n, (xs.take n).flatMap D.cells = (xs.flatMap D.cells).take (n * s)
  | [], _, n => by simp
  | d :: r, h, 0 => by simp
  | d :: r, h, n + 1 => by
    rw [List.take_succ_cons, List.flatMap_cons, flat_take (fun x hx => h x (by simp [hx])), List.flatMap_cons, List.take_append]
    have hd := h d (by simp)
    have e0 : d.cells.take ((n + 1) * s) = d.cells := List.take_of_length_le (by rw [hd, Nat.succ_mul]; omega)
    have e1 : (n + 1) * s - d.cells.length = n * s := by rw [hd, Nat.succ_mul]; omega
    rw [e0, e1]
theorem CellsAt.drop {w : World} {Fz : Cells} {b off : Nat} {vs : List Value} (h : CellsAt w Fz b off vs) (n : Nat) : CellsAt w Fz b (off + n) (vs.drop n) := by
  intro i v hi
  rw [List.getElem?_drop] at hi
  have := h _ _ hi
  rwa [← Nat.add_assoc] at this
theorem CellsAt.take {w : World} {Fz : Cells} {b off : Nat} {vs : List Value} (h : CellsAt w Fz b off vs) (n : Nat) : CellsAt w Fz b off (vs.take n) := by
  intro i v hi
  rw [List.getElem?_take] at hi
  split at hi
  · exact h i v hi
  · cases hi

/-- A part of a slice of data. -/
theorem cut_sl {w : World} {Fz : Cells} {xs : List D} {b off s l h mR : Nat} {vs : List Value} {full : Bool} (hs : ∀ x ∈ xs, x.cells.length = s) (hl : ∀ d ∈ xs.flatMap D.cells, d.leaf = true)
    (hr : CellsAt w Fz b off vs) (hd : RepDs w Fz (xs.flatMap D.cells) vs) (hlh : l ≤ h) (hhx : h ≤ xs.length) (hm : h ≤ mR) (hf : full = true → mR = h) :
    RepD w Fz (.sl ((xs.take h).drop l) full) (.slice (if mR = l then some ⟨b, off, none⟩ else (some (⟨b, off, none⟩ : Addr)).map (·.add (l * s))) (h - l) (mR - l)) := by
  by_cases he : h = l
  · subst he
    have e0 : (xs.take h).drop h = [] := by rw [List.drop_eq_nil_iff]; simp; omega
    rw [e0, Nat.sub_self]
    exact .sl0 (fun hfu => by have := hf hfu; omega)
  · rw [if_neg (by omega), Option.map_some, add_at]
    have hlen : ((xs.take h).drop l).length = h - l := by simp; omega
    have hs' : ∀ x ∈ (xs.take h).drop l, x.cells.length = s := fun x hx => hs x (List.mem_of_mem_take (List.mem_of_mem_drop hx))
    have hst : ∀ x ∈ xs.take h, x.cells.length = s := fun x hx => hs x (List.mem_of_mem_take hx)
    have hfl : ((xs.take h).drop l).flatMap D.cells = ((xs.flatMap D.cells).take (h * s)).drop (l * s) := by rw [flat_drop hst, flat_take hs]
    have := RepD.sl (w := w) (Fz := Fz) (xs := (xs.take h).drop l) (full := full) (c := mR - l) (by omega) (fun hfu => by rw [hlen]; have := hf hfu; omega) hs' (fun d hd => by
      rw [hfl] at hd; exact hl d (List.mem_of_mem_take (List.mem_of_mem_drop hd))) ((hr.take (h * s)).drop (l * s)) (by rw [hfl]; exact (hd.take (h * s)).drop (l * s))
    rw [hlen] at this
    exact this
theorem elemTI_und (hT : TyOk C) {t : Nat} {ti : TI} (h : elemTI C t = some ti) : ∃ el, C.P.underlying t = some (.slice el) ∧ TyAt C.P el ti := by
  unfold elemTI at h
  split at h
  · rename_i el hk
    obtain ⟨d, hu, hd⟩ := und_kind hT (t := t) (by rw [hk]; simp)
    rw [hk] at hd; have := desc_slice hd; subst this
    exact ⟨el, hu, hT _ _ h⟩
  · cases h
theorem arrTI_und (hT : TyOk C) {t n : Nat} {ti : TI} (h : arrTI C t = some (n, ti)) : ∃ el, C.P.underlying t = some (.array n el) ∧ TyAt C.P el ti := by
  unfold arrTI at h
  split at h
  · rename_i m el hk
    split at h
    · rename_i i hi
      injection h with h; injection h with h1 h2; subst h1; subst h2
      obtain ⟨d, hu, hd⟩ := und_kind hT (t := t) (by rw [hk]; simp)
      rw [hk] at hd; have := desc_array hd; subst this
      exact ⟨el, hu, hT _ _ hi⟩
    · cases h
  · cases h
theorem bounds_none {P : Program} {w : World} {isS : Bool} {len cap capR : Nat} {lo hi : Option Int} {lo' hi' : Option Value} {k : Nat → Nat → Option Nat → SM V} {v : V}
    (hlc : len ≤ cap) (hcap : cap ≤ capR) (hlo : OI lo' lo) (hhi : OI hi' hi) (h : (bounds len cap lo hi none k).out v) :
    ∃ l h, (Instr.sliceBounds isS len capR lo' hi' none).run P w = .ok (l, h, capR) w ∧ (k l h none).out v ∧ l ≤ h ∧ h ≤ cap := by
  have h' : (bounds len cap lo hi none fun l h m => match m with | none => k l h none | some _ => .fail).out v := by
    unfold bounds at h ⊢
    cases hi <;> cases lo <;> exact h
  obtain ⟨l, hh, m, mR, h1, h2, h3, h4, h5, h6⟩ := bounds_sound (P := P) (w := w) (isS := isS) (mx' := none) hlc hcap hlo hhi (by trivial) h'
  cases m with
  | none => simp only at h6; subst h6; exact ⟨l, hh, h1, h2, h3, h4⟩
  | some _ => exact (out_fail h2).elim
theorem slice_run {P : Program} {w : World} {t el : Nat} {ti : TI} (hu : P.underlying t = some (.slice el)) (ht : TyAt P el ti) {ad : Option Addr} {len cap l h mR : Nat} {lo hi mx : Option Value}
    (hb : (Instr.sliceBounds true len cap lo hi mx).run P w = .ok (l, h, mR) w) :
    (Instr.sliceAt t (.slice ad len cap) lo hi mx).run P w = .ok (.slice (if mR = l then ad else ad.map (·.add (l * ti.size))) (h - l) (mR - l)) w := by
  simp only [Instr.sliceAt, Sem.run_bind, run_underlying hu, Result.andThen_ok, Instr.slice, hb, ht.run_size, Sem.run_pure]
/-- A row's room. -/
theorem rowCap_le (ok : σ.ok) {b ver off len s c : Nat} (hb : ∃ cs T fr, σ.w.heap[σ.ι b ver]? = some (.cells cs T fr) ∧ off + c * s = cs.size) (hc : len ≤ c) :
    len ≤ rowCap σ.H b ver off len s ∧ rowCap σ.H b ver off len s ≤ c := by
  unfold rowCap
  split
  · rename_i lz cs ho
    split
    · rename_i hq
      simp only [Bool.and_eq_true] at hq
      have hs : 0 < s := by simpa using hq.1
      have hle := Nat.le_of_ble_eq_true hq.2
      obtain ⟨_, c0, T, fr, hh, hsz, _⟩ := ok.cellsAt ho
      obtain ⟨c1, T1, fr1, hh1, hsz1⟩ := hb
      rw [hh] at hh1; injection hh1 with hh1; injection hh1 with e1 _ _; subst e1
      refine ⟨?_, ?_⟩
      · rw [Nat.le_div_iff_mul_le hs]; omega
      · rw [Nat.div_le_iff_le_mul_add_pred hs]
        have : c * s = s * c := Nat.mul_comm _ _
        omega
    · exact ⟨Nat.le_refl _, hc⟩
  · exact ⟨Nat.le_refl _, hc⟩
theorem sliceOp_sound (hT : TyOk C) (ok : σ.ok) {t : Nat} {lo hi mx : Option Int} {lo' hi' mx' : Option Value} {x v : V} {xv : Value} (hx : RepV σ x xv)
    (hlo : OI lo' lo) (hhi : OI hi' hi) (hmx : OI mx' mx) (h : (sliceOp C σ.H t lo hi mx x).out v) :
    ∃ z, (Instr.sliceAt t xv lo' hi' mx').run C.P σ.w = .ok z σ.w ∧ RepV σ v z := by
  unfold sliceOp at h
  split at h
  · rename_i s
    obtain rfl := lit_str hx
    split at h
    · rename_i hk
      cases mx' with
      | some _ => simp [OI] at hmx
      | none =>
        obtain ⟨d, hu, hd⟩ := und_kind hT (t := t) (by rw [hk]; simp)
        rw [hk] at hd; have := desc_str hd; subst this
        obtain ⟨l, hh, m, mR, hrun, hk2, h1, h2, h3, h4⟩ := bounds_sound (P := C.P) (w := σ.w) (isS := false) (capR := s.size) (Nat.le_refl _) (Nat.le_refl _) hlo hhi hmx h
        have := out_ret hk2; subst this
        refine ⟨_, ?_, rep_lit rfl⟩
        simp [Instr.sliceAt, Instr.slice, run_underlying hu, hrun]
    · exact (out_fail h).elim
  · rename_i xs full
    split at h
    · rename_i ti hti
      obtain ⟨hall, h⟩ := out_chk h
      obtain ⟨el, hu, ht⟩ := elemTI_und hT hti
      have hsz := allSize_eq hall
      cases hx with
      | p hx =>
        cases hx with
        | sl hc hf hs hl hr hd =>
          rename_i b off c s vs
          obtain ⟨l, hh, m, mR, hrun, hk2, h1, h2, h3, h4⟩ := bounds_sound (P := C.P) (w := σ.w) (isS := true) (capR := c) (Nat.le_refl _) hc hlo hhi hmx h
          have := out_ret hk2; subst this
          have hmr : hh ≤ mR := by cases m with
            | none => simp only at h4; omega
            | some m' => simp only at h4; omega
          refine ⟨_, slice_run hu ht hrun, .p ?_⟩
          refine cut_sl (s := ti.size) hsz hl hr hd h1 h2 hmr ?_
          intro hfu
          cases m with
          | some m' => simp only at hfu h4; have := Nat.eq_of_beq_eq_true hfu; omega
          | none =>
            simp only at hfu h4
            cases hi with
            | none => simp only at hfu; rw [h4, h3 rfl]; exact hf hfu
            | some _ => simp at hfu
        | @sl0 a0 c _ hf =>
          obtain ⟨l, hh, m, mR, hrun, hk2, h1, h2, h3, h4⟩ := bounds_sound (P := C.P) (w := σ.w) (isS := true) (capR := c) (Nat.le_refl _) (by simp) hlo hhi hmx h
          have := out_ret hk2; subst this
          have hh0 : hh = 0 := by simpa using h2
          subst hh0
          have hl0 : l = 0 := by omega
          subst hl0
          refine ⟨_, slice_run hu ht hrun, .p ?_⟩
          simp only [List.take_zero, List.drop_zero, Nat.sub_self, Nat.sub_zero]
          refine .sl0 (fun hfu => ?_)
          cases m with
          | some m' => simp only at hfu h4; have := Nat.eq_of_beq_eq_true hfu; omega
          | none =>
            simp only at hfu h4
            cases hi with
            | none => simp only at hfu; rw [h4]; exact hf hfu
            | some _ => simp at hfu
    · exact (out_fail h).elim
  · rename_i b s xs
    split at h
    · rename_i ti hti
      obtain ⟨hall, h⟩ := out_chk h
      obtain ⟨el, hu, ht⟩ := elemTI_und hT hti
      have hsz := allSize_eq hall
      cases hx with
      | vec hid hc hs hl hr hd hb =>
        rename_i c vs
        obtain ⟨l, hh, m, mR, hrun, hk2, h1, h2, h3, h4⟩ := bounds_sound (P := C.P) (w := σ.w) (isS := true) (capR := c) (Nat.le_refl _) hc hlo hhi hmx h
        have := out_ret hk2; subst this
        have hmr : hh ≤ mR := by cases m with
          | none => simp only at h4; omega
          | some m' => simp only at h4; omega
        refine ⟨_, slice_run hu ht hrun, .p ?_⟩
        refine cut_sl (s := ti.size) hsz hl hr hd h1 h2 hmr ?_
        intro hfu
        cases m with
        | some m' => simp only at hfu h4; have := Nat.eq_of_beq_eq_true hfu; omega
        | none => simp at hfu
      | vec0 hid =>
        obtain ⟨l, hh, m, mR, hrun, hk2, h1, h2, h3, h4⟩ := bounds_sound (P := C.P) (w := σ.w) (isS := true) (capR := 0) (Nat.le_refl _) (by simp) hlo hhi hmx h
        have := out_ret hk2; subst this
        have hh0 : hh = 0 := by simpa using h2
        subst hh0
        have hl0 : l = 0 := by omega
        subst hl0
        refine ⟨_, slice_run hu ht hrun, .p ?_⟩
        simp only [List.take_zero, List.drop_zero, Nat.sub_self, Nat.sub_zero]
        refine .sl0 (fun hfu => ?_)
        cases m with
        | some m' => simp only [List.length_nil] at h4; omega
        | none => simp at hfu
    · exact (out_fail h).elim
  · rename_i b ver off len s full
    split at h
    · rename_i ti hti
      obtain ⟨el, hu, ht⟩ := elemTI_und hT hti
      cases hx with
      | own hid hc hf =>
        rename_i c
        obtain ⟨l, hh, m, mR, hrun, hk2, h1, h2, h3, h4⟩ := bounds_sound (P := C.P) (w := σ.w) (isS := true) (capR := c) (Nat.le_refl _) hc hlo hhi hmx h
        have := out_ret hk2; subst this
        have hmr : hh ≤ mR := by cases m with
          | none => simp only at h4; omega
          | some m' => simp only at h4; omega
        have hfull : fullOf m hh hi full = true → mR = hh := by
          intro e
          unfold fullOf at e
          cases m with
          | some m' => simp only at e h4; have := Nat.eq_of_beq_eq_true e; omega
          | none => cases hi with
            | none => simp only at e h4; have := hf e; have := h3 rfl; omega
            | some _ => simp at e
        refine ⟨_, slice_run hu ht hrun, ?_⟩
        by_cases he : hh = l
        · subst he; rw [Nat.sub_self]; exact .own0 hid (fun e => by have := hfull e; omega)
        · have := RepV.own (σ := σ) (b := b) (ver := ver) (off := off + l * ti.size) (len := hh - l) (s := ti.size) (c := mR - l) hid (by omega) (fun e => by have := hfull e; omega)
          rw [if_neg (by omega)]
          simpa [add_at] using this
      | own0 hid hf =>
        rename_i c a0
        obtain ⟨l, hh, m, mR, hrun, hk2, h1, h2, h3, h4⟩ := bounds_sound (P := C.P) (w := σ.w) (isS := true) (capR := c) (Nat.le_refl _) (by omega) hlo hhi hmx h
        have := out_ret hk2; subst this
        have hh0 : hh = 0 := by omega
        subst hh0
        have hl0 : l = 0 := by omega
        subst hl0
        refine ⟨_, slice_run hu ht hrun, .own0 hid fun e => ?_⟩
        unfold fullOf at e
        cases m with
        | some m' => simp only at e h4; have := Nat.eq_of_beq_eq_true e; omega
        | none => cases hi with
          | none => simp only at e h4; have := hf e; omega
          | some _ => simp at e
    · exact (out_fail h).elim
  · rename_i b ver off len s
    split at h
    · rename_i ti hti
      split at h
      · rename_i hs
        have hs := Nat.eq_of_beq_eq_true hs
        subst hs
        obtain ⟨el, hu, ht⟩ := elemTI_und hT hti
        cases hx with
        | row hid hc hb =>
          rename_i c
          obtain ⟨r1, r2⟩ := rowCap_le ok hb hc
          obtain ⟨l, hh, m, mR, hrun, hk2, h1, h2, h3, h4⟩ := bounds_sound (P := C.P) (w := σ.w) (isS := true) (capR := c) r1 r2 hlo hhi hmx h
          have := out_ret hk2; subst this
          refine ⟨_, slice_run hu ht hrun, ?_⟩
          obtain ⟨cs, T, fr, hh1, hh2⟩ := hb
          cases m with
          | none =>
            simp only at h4 ⊢
            subst h4
            by_cases he : mR = l
            · subst he
              have : hh = mR := by omega
              subst this
              simp only [if_true, Nat.sub_self]
              exact .row0 hid ⟨cs, T, fr, hh1, hh2.symm⟩
            · rw [if_neg he]
              have : RepV σ (.row b ver (off + l * ti.size) (hh - l) ti.size) (.slice (some ⟨σ.ι b ver, off + l * ti.size, none⟩) (hh - l) (mR - l)) := .row hid (by omega) ⟨cs, T, fr, hh1, by
                rw [← hh2, Nat.sub_mul]
                have : l * ti.size ≤ mR * ti.size := Nat.mul_le_mul_right _ (by omega)
                omega⟩
              simpa [add_at] using this
          | some m' =>
            obtain ⟨rfl, h5, h6⟩ := h4
            simp only
            by_cases he : hh = l
            · subst he; rw [Nat.sub_self]; exact .own0 hid (fun e => by have := Nat.eq_of_beq_eq_true e; omega)
            · have := RepV.own (σ := σ) (b := b) (ver := ver) (off := off + l * ti.size) (len := hh - l) (s := ti.size) (c := mR - l) (full := Nat.beq mR hh) hid (by omega) (fun e => by have := Nat.eq_of_beq_eq_true e; omega)
              rw [if_neg (by omega)]
              simpa [add_at] using this
        | row0 hid hb =>
          rename_i a0
          have hb' : ∃ cs T fr, σ.w.heap[σ.ι b ver]? = some (.cells cs T fr) ∧ off + 0 * ti.size = cs.size := by
            obtain ⟨cs, T, fr, q1, q2⟩ := hb
            exact ⟨cs, T, fr, q1, by omega⟩
          obtain ⟨r1, r2⟩ := rowCap_le (len := 0) ok hb' (Nat.le_refl _)
          obtain ⟨l, hh, m, mR, hrun, hk2, h1, h2, h3, h4⟩ := bounds_sound (P := C.P) (w := σ.w) (isS := true) (capR := 0) r1 r2 hlo hhi hmx h
          have := out_ret hk2; subst this
          have hh0 : hh = 0 := by omega
          subst hh0
          have hl0 : l = 0 := by omega
          subst hl0
          refine ⟨_, slice_run hu ht hrun, ?_⟩
          cases m with
          | none =>
            simp only at h4
            subst h4
            simp only [if_true, Nat.sub_self, Nat.zero_mul, Nat.add_zero]
            exact .row0 hid hb
          | some m' =>
            obtain ⟨rfl, h5, h6⟩ := h4
            simp only [Nat.sub_self]
            exact .own0 hid (fun e => by omega)
      · exact (out_fail h).elim
    · exact (out_fail h).elim
  · rename_i b ver off
    split at h
    · cases mx' with
      | some _ => simp [OI] at hmx
      | none =>
        split at h
        · rename_i n ti hti
          obtain ⟨el, hu, ht⟩ := arrTI_und hT hti
          cases hx with
          | ptr hid =>
            obtain ⟨l, hh, m, mR, hrun, hk2, h1, h2, h3, h4⟩ := bounds_sound (P := C.P) (w := σ.w) (isS := false) (capR := n) (Nat.le_refl _) (Nat.le_refl _) hlo hhi hmx h
            have := out_ret hk2; subst this
            have hmr : hh ≤ mR := by cases m with
              | none => simp only at h4; omega
              | some m' => simp only at h4; omega
            have hfull : Nat.beq hh n = true → mR = hh := by
              intro e
              have := Nat.eq_of_beq_eq_true e
              cases m with
              | none => simp only at h4; omega
              | some m' => simp only at h4; omega
            refine ⟨.slice (some (if mR = l then ⟨σ.ι b ver, off, none⟩ else (⟨σ.ι b ver, off, none⟩ : Addr).add (l * ti.size))) (hh - l) (mR - l), by simp only [Instr.sliceAt, Sem.run_bind, run_underlying hu, Result.andThen_ok, Instr.sureAddr, hrun, ht.run_size, Sem.run_pure], ?_⟩
            by_cases he : hh = l
            · subst he; rw [Nat.sub_self]; exact .own0 hid (fun e => by have := hfull e; omega)
            · have := RepV.own (σ := σ) (b := b) (ver := ver) (off := off + l * ti.size) (len := hh - l) (s := ti.size) (c := mR - l) (full := Nat.beq hh n) hid (by omega) (fun e => by have := hfull e; omega)
              rw [if_neg (by omega)]
              simpa [add_at] using this
        · exact (out_fail h).elim
    · exact (out_fail h).elim
  · exact (out_fail h).elim
end
end Go.Abs
