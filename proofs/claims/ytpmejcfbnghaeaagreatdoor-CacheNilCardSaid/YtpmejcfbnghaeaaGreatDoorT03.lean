/- Soundness of single operations: what only computes. -/
import Derived.Test.YtpmejcfbnghaeaaGreatDoorT02
import Derived.Laws.StructEq
import Derived.ChangeKeysEq
namespace Go.Abs
set_option linter.unusedVariables false
set_option linter.unusedSimpArgs false

/-- An operation's run, told by the abstract one. -/
def Res (P : Program) (σ : St) (m : Sem Next) (v : V) (H' : AHeap) : Prop :=
  ∃ n τ, m.run P σ.w = .ok n τ.w ∧ τ.H = H' ∧ τ.ok ∧ Ext σ τ ∧ ((∃ x, n = .value x ∧ RepV τ v x) ∨ (n = .skip ∧ v = .top))
def EnvOk (σ : St) (e : Env) (a : Act) : Prop := ∀ i, RepV σ (lk e i) (a.tmps.getD i undef)
theorem EnvOk.mon {σ τ : St} (m : Mon σ τ) {e : Env} {a : Act} (h : EnvOk σ e a) : EnvOk τ e a := fun i => (h i).mon m
theorem GOk.mon {C : Ctx} {σ τ : St} (m : Mon σ τ) (h : GOk C σ) : GOk C τ := fun g cs hg => m.repD (h g cs hg)
theorem EnvOk.put {σ : St} {e : Env} {a : Act} (h : EnvOk σ e a) {d : Nat} {v : V} {x : Value} (hd : d < a.tmps.size) (hv : RepV σ v x) : EnvOk σ ((d, v) :: e) (a.put (some d) x) := by
  intro i
  simp only [lk, Act.put]
  cases hb : Nat.beq d i with
  | true =>
    have : d = i := Nat.eq_of_beq_eq_true hb
    subst this
    simpa [Array.getD, hd] using hv
  | false =>
    have hne : d ≠ i := by rintro rfl; simp at hb
    have := h i
    simp only [Array.getD_eq_getD_getElem?, Array.getElem?_setIfInBounds, if_neg hne] at this ⊢
    exact this
theorem EnvOk.put_size (a : Act) (d : Option Nat) (x : Value) : (a.put d x).tmps.size = a.tmps.size := by cases d <;> simp [Act.put]

section
variable {C : Ctx} {σ : St} {e : Env} {a : Act}
theorem constL_sound {w : World} {Fz : Cells} {v : Value} {d : D} (h : constL v = some d) : RepD w Fz d v ∧ d.leaf = true := by
  unfold constL at h
  split at h
  case h_11 => cases h
  all_goals injection h with h; subst h
  all_goals first | exact ⟨.lit rfl, rfl⟩ | exact ⟨.sl0 (fun _ => rfl), rfl⟩
theorem constLs_sound {w : World} {Fz : Cells} : ∀ {l : List Value} {ds : List D}, constLs l = some ds → RepDs w Fz ds l ∧ ∀ d ∈ ds, d.leaf = true
  | [], ds, h => by injection h with h; subst h; exact ⟨.nil, by simp⟩
  | v :: r, ds, h => by
    simp only [constLs] at h
    split at h
    · rename_i d hd
      split at h
      · rename_i l hl
        injection h with h; subst h
        obtain ⟨h1, h2⟩ := constL_sound (w := w) (Fz := Fz) hd
        obtain ⟨h3, h4⟩ := constLs_sound (w := w) (Fz := Fz) hl
        refine ⟨.cons h1 h3, fun x hx => ?_⟩
        rcases List.mem_cons.1 hx with rfl | hx
        · exact h2
        · exact h4 x hx
      · cases h
    · cases h
theorem constD_sound (v : Value) : RepV σ (constD v) v := by
  unfold constD
  split
  case h_11 l =>
    split
    · rename_i ds hds
      obtain ⟨h1, h2⟩ := constLs_sound (w := σ.w) (Fz := σ.Fz) hds
      exact .p (.agg h2 h1)
    · exact .top
  all_goals first | exact .p (.lit rfl) | exact .p (.sl0 (fun _ => rfl)) | exact .top
theorem ev_sound (hG : GOk C σ) (he : EnvOk σ e a) (x : Operand) : RepV σ (ev C e x) (a.eval x) := by
  cases x with
  | tmp t => exact he t
  | const v => exact constD_sound v
  | global g =>
    simp only [ev, Act.eval]
    cases hg : C.glob g with
    | none => exact .top
    | some cs => exact .p (hG g cs hg)
  | func f => exact .p (.fn .nil)
theorem Res.same {P : Program} (ok : σ.ok) {m : Sem Next} {v : V} {x : Value} (h : m.run P σ.w = .ok (.value x) σ.w) (hv : RepV σ v x) : Res P σ m v σ.H :=
  ⟨_, σ, h, rfl, ok, Ext.refl σ, .inl ⟨x, rfl, hv⟩⟩
/-- A value's run as an operation's. -/
theorem Res.val {P : Program} (ok : σ.ok) {m : Sem Value} {v : V} {x : Value} (h : m.run P σ.w = .ok x σ.w) (hv : RepV σ v x) : Res P σ (do pure (.value (← m))) v σ.H :=
  Res.same ok (by rw [Sem.run_bind, h]; rfl) hv

theorem lit_int {σ : St} {k : IntKind} {n : Int} {x : Value} (h : RepV σ (.p (.lit (.int k n))) x) : x = .int k n := by
  cases h with | p h => cases h with | lit _ => rfl
theorem lit_str {σ : St} {s : ByteArray} {x : Value} (h : RepV σ (.p (.lit (.string s))) x) : x = .string s := by
  cases h with | p h => cases h with | lit _ => rfl
theorem lit_bool {σ : St} {s : Bool} {x : Value} (h : RepV σ (.p (.lit (.bool s))) x) : x = .bool s := by
  cases h with | p h => cases h with | lit _ => rfl
theorem lit_float {σ : St} {k : FloatKind} {n : Nat} {x : Value} (h : RepV σ (.p (.lit (.float k n))) x) : x = .float k n := by
  cases h with | p h => cases h with | lit _ => rfl
theorem lit_complex {σ : St} {k : FloatKind} {m n : Nat} {x : Value} (h : RepV σ (.p (.lit (.complex k m n))) x) : x = .complex k m n := by
  cases h with | p h => cases h with | lit _ => rfl
theorem lit_nilp {σ : St} {x : Value} (h : RepV σ (.p (.lit (.pointer none))) x) : x = .pointer none := by
  cases h with | p h => cases h with | lit _ => rfl
theorem rep_lit {σ : St} {v : Value} (h : Scalar v = true) : RepV σ (.p (.lit v)) v := .p (.lit h)

theorem out_ret {α : Type} {a b : α} (h : (SM.ret a).out b) : b = a := by simpa [SM.out, SM.run, eq_comm] using h
theorem out_fail {α : Type} {b : α} (h : (SM.fail : SM α).out b) : False := h
theorem out_chk {α : Type} {c : Bool} {m : SM α} {b : α} (h : (SM.chk c m).out b) : c = true ∧ m.out b := by simpa [SM.out, SM.run, chk_iff] using h
theorem out_optD {α : Type} {o : Option D} {f : D → SM α} {b : α} (h : (SM.optD o f).out b) : ∃ d, o = some d ∧ (f d).out b := by simpa [SM.out, SM.run, optK_iff] using h
theorem out_optB {α : Type} {o : Option UInt8} {f : UInt8 → SM α} {b : α} (h : (SM.optB o f).out b) : ∃ d, o = some d ∧ (f d).out b := by simpa [SM.out, SM.run, optK_iff] using h
theorem out_optL {α : Type} {o : Option (List UInt8)} {f : List UInt8 → SM α} {b : α} (h : (SM.optL o f).out b) : ∃ d, o = some d ∧ (f d).out b := by simpa [SM.out, SM.run, optK_iff] using h
theorem out_bind {α β : Type} {m : SM α} {f : α → SM β} {b : β} (h : (m.bind f).out b) : ∃ a, m.out a ∧ (f a).out b := by
  unfold SM.out at *
  induction m with
  | ret a => exact ⟨a, rfl, h⟩
  | fail => exact h.elim
  | chk c m ih => simp only [SM.bind, SM.run, chk_iff] at h ⊢; obtain ⟨a, x, y⟩ := ih h.2; exact ⟨a, ⟨h.1, x⟩, y⟩
  | optD o g ih => simp only [SM.bind, SM.run, optK_iff] at h ⊢; obtain ⟨d, e, x⟩ := h; obtain ⟨a, y, z⟩ := ih d x; exact ⟨a, ⟨d, e, y⟩, z⟩
  | optB o g ih => simp only [SM.bind, SM.run, optK_iff] at h ⊢; obtain ⟨d, e, x⟩ := h; obtain ⟨a, y, z⟩ := ih d x; exact ⟨a, ⟨d, e, y⟩, z⟩
  | optL o g ih => simp only [SM.bind, SM.run, optK_iff] at h ⊢; obtain ⟨d, e, x⟩ := h; obtain ⟨a, y, z⟩ := ih d x; exact ⟨a, ⟨d, e, y⟩, z⟩
theorem out_pair {H H' : AHeap} {m : SM V} {v : V} (h : (pair H m).out (v, H')) : H' = H ∧ m.out v := by
  obtain ⟨a, x, y⟩ := out_bind h
  have := out_ret y
  injection this with h1 h2
  subst h1
  exact ⟨h2, x⟩

/-! Integers, texts -/
theorem intBin_sound {P : Program} {w : World} {op : BinOp} {k : IntKind} {x y : Int} {v : V} (h : (intBin op k x y).out v) :
    ∃ z, (binOp op 0 (.int k x) (.int k y)).run P w = .ok z w ∧ RepV σ v z ∧ op ≠ .shl ∧ op ≠ .shr := by
  unfold intBin at h
  cases op <;> simp only [il, bl] at h
  all_goals first | exact (out_fail h).elim | skip
  case quo =>
    obtain ⟨hc, h⟩ := out_chk h
    have := out_ret h; subst this
    simp only [decide_eq_true_eq] at hc
    exact ⟨_, by simp [binOp, Op.intDiv, hc], rep_lit rfl, by simp, by simp⟩
  case rem =>
    obtain ⟨hc, h⟩ := out_chk h
    have := out_ret h; subst this
    simp only [decide_eq_true_eq] at hc
    exact ⟨_, by simp [binOp, Op.intDiv, hc], rep_lit rfl, by simp, by simp⟩
  all_goals
    have := out_ret h; subst this
    exact ⟨_, by simp [binOp, Op.intArith, Op.intCmp, Op.intBits], rep_lit rfl, by simp, by simp⟩
theorem intBin_sound' {P : Program} {w : World} {op : BinOp} {t : TypeId} {k : IntKind} {x y : Int} {v : V} (h : (intBin op k x y).out v) :
    ∃ z, (binOp op t (.int k x) (.int k y)).run P w = .ok z w ∧ RepV σ v z := by
  obtain ⟨z, h1, h2, h3, h4⟩ := intBin_sound (σ := σ) (P := P) (w := w) h
  refine ⟨z, ?_, h2⟩
  rw [← h1]
  cases op <;> simp_all [binOp]
theorem shiftBin_sound {P : Program} {w : World} {op : BinOp} {t : TypeId} {k yk : IntKind} {x y : Int} {v : V} (ho : op = .shl ∨ op = .shr) (h : (shiftBin op k x y).out v) :
    ∃ z, (binOp op t (.int k x) (.int yk y)).run P w = .ok z w ∧ RepV σ v z := by
  unfold shiftBin at h
  obtain ⟨hc, h⟩ := out_chk h
  simp only [decide_eq_true_eq] at hc
  rcases ho with rfl | rfl
  all_goals
    simp only [il] at h
    have := out_ret h; subst this
    exact ⟨_, by simp [binOp, Op.shift, Int.not_lt.2 hc], rep_lit rfl⟩
theorem floatBin_sound {P : Program} {w : World} {op : BinOp} {t : TypeId} {k : FloatKind} {x y : Nat} {v : V} (h : (floatBin op k x y).out v) :
    ∃ z, (binOp op t (.float k x) (.float k y)).run P w = .ok z w ∧ RepV σ v z := by
  unfold floatBin at h
  cases op <;> simp only [bl, optF] at h
  all_goals first | exact (out_fail h).elim | skip
  case add =>
    split at h
    · rename_i r hr
      have := out_ret h; subst this
      exact ⟨_, by simp [binOp, Op.floatArith, hr], rep_lit rfl⟩
    · exact (out_fail h).elim
  case sub =>
    split at h
    · rename_i r hr
      have := out_ret h; subst this
      exact ⟨_, by simp [binOp, Op.floatArith, hr], rep_lit rfl⟩
    · exact (out_fail h).elim
  case mul =>
    split at h
    · rename_i r hr
      have := out_ret h; subst this
      exact ⟨_, by simp [binOp, Op.floatArith, hr], rep_lit rfl⟩
    · exact (out_fail h).elim
  case quo =>
    split at h
    · rename_i r hr
      have := out_ret h; subst this
      exact ⟨_, by simp [binOp, Op.floatArith, hr], rep_lit rfl⟩
    · exact (out_fail h).elim
  all_goals
    have := out_ret h; subst this
    exact ⟨_, by simp [binOp, Op.floatCmp], rep_lit rfl⟩
theorem complexBin_sound {P : Program} {w : World} {op : BinOp} {t : TypeId} {k : FloatKind} {a b c d : Nat} {v : V} (h : (complexBin op k a b c d).out v) :
    ∃ z, (binOp op t (.complex k a b) (.complex k c d)).run P w = .ok z w ∧ RepV σ v z := by
  unfold complexBin at h
  cases op <;> simp only [bl, optC] at h
  all_goals first | exact (out_fail h).elim | skip
  case add =>
    split at h
    · rename_i r s hr hs
      have := out_ret h; subst this
      exact ⟨_, by simp [binOp, Op.complexOp, Op.Complex.arith, Op.floatArith, hr, hs], rep_lit rfl⟩
    · exact (out_fail h).elim
  case sub =>
    split at h
    · rename_i r s hr hs
      have := out_ret h; subst this
      exact ⟨_, by simp [binOp, Op.complexOp, Op.Complex.arith, Op.floatArith, hr, hs], rep_lit rfl⟩
    · exact (out_fail h).elim
  case eql =>
    have := out_ret h; subst this
    cases h1 : (k.format.order a c == some .eq) <;> exact ⟨_, by simp [binOp, Op.complexOp, Op.Complex.cmp, Op.floatCmp, h1, asBool], rep_lit rfl⟩
  case neq =>
    have := out_ret h; subst this
    cases h1 : (k.format.order a c == some .eq) <;> exact ⟨_, by simp [binOp, Op.complexOp, Op.Complex.cmp, Op.floatCmp, h1, asBool], rep_lit rfl⟩
theorem strBin_sound {P : Program} {w : World} {op : BinOp} {t : TypeId} {x y : ByteArray} {v : V} (h : (strBin op x y).out v) :
    ∃ z, (binOp op t (.string x) (.string y)).run P w = .ok z w ∧ RepV σ v z := by
  unfold strBin at h
  simp only [beqS_list, ← Go.ByteArray.toList_eq] at h
  cases op <;> simp only [bl] at h
  all_goals first | exact (out_fail h).elim | skip
  case add =>
    obtain ⟨hc, h⟩ := out_chk h
    have := out_ret h; subst this
    simp only [decide_eq_true_eq] at hc
    refine ⟨_, ?_, rep_lit rfl⟩
    simp only [binOp, Op.stringOp]
    rw [if_neg (by simp only [IntKind.max, IntKind.signed, IntKind.bits]; omega)]
    rfl
  all_goals
    have := out_ret h; subst this
    exact ⟨_, by simp [binOp, Op.stringOp], rep_lit rfl⟩

/-! Two of one type are the same -/
theorem equalIn_int {P : Program} {w : World} {d : Nat} {t : TypeId} {q k : IntKind} {x y : Int} (h : P.underlying t = some (.int q)) :
    (Op.equalIn (d + 1) t (.int k x) (.int k y)).run P w = .ok (x == y) w := by
  simp [Op.equalIn, run_underlying h]
theorem equalIn_str {P : Program} {w : World} {d : Nat} {t : TypeId} {x y : ByteArray} (h : P.underlying t = some .string) :
    (Op.equalIn (d + 1) t (.string x) (.string y)).run P w = .ok (x == y) w := by
  simp [Op.equalIn, run_underlying h]
theorem equalIn_bool {P : Program} {w : World} {d : Nat} {t : TypeId} {x y : Bool} (h : P.underlying t = some .bool) :
    (Op.equalIn (d + 1) t (.bool x) (.bool y)).run P w = .ok (x == y) w := by
  simp [Op.equalIn, run_underlying h]
theorem desc_int {d : TypeDesc} {k : IntKind} (h : descKind d = .int k) : d = .int k := by
  cases d <;> simp [descKind] at h
  case int => rw [h]
  case struct => split at h <;> cases h
theorem desc_str {d : TypeDesc} (h : descKind d = .str) : d = .string := by
  cases d <;> simp [descKind] at h
  case string => rfl
  case struct => split at h <;> cases h
theorem desc_bool {d : TypeDesc} (h : descKind d = .bool) : d = .bool := by
  cases d <;> simp [descKind] at h
  case bool => rfl
  case struct => split at h <;> cases h
theorem desc_flt {d : TypeDesc} {k : FloatKind} (h : descKind d = .flt k) : d = .float k := by
  cases d <;> simp [descKind] at h
  case float => rw [h]
  case struct => split at h <;> cases h
theorem desc_cpx {d : TypeDesc} {k : FloatKind} (h : descKind d = .cpx k) : d = .complex k := by
  cases d <;> simp [descKind] at h
  case complex => rw [h]
  case struct => split at h <;> cases h
theorem desc_map {d : TypeDesc} {k e : Nat} (h : descKind d = .map k e) : d = .map k e := by
  cases d <;> simp [descKind] at h
  case map => rw [h.1, h.2]
  case struct => split at h <;> cases h
theorem desc_slice {d : TypeDesc} {e : Nat} (h : descKind d = .slice e) : d = .slice e := by
  cases d <;> simp [descKind] at h
  case slice => rw [h]
  case struct => split at h <;> cases h
theorem desc_ptr {d : TypeDesc} {e : Nat} (h : descKind d = .ptr e) : d = .pointer e := by
  cases d <;> simp [descKind] at h
  case pointer => rw [h]
  case struct => split at h <;> cases h
theorem desc_array {d : TypeDesc} {n e : Nat} (h : descKind d = .array n e) : d = .array n e := by
  cases d <;> simp [descKind] at h
  case array => rw [h.1, h.2]
  case struct => split at h <;> cases h
theorem desc_struct {d : TypeDesc} {fs : List (Nat × Nat)} (h : descKind d = .struct fs) :
    ∃ l : Array Field, d = .struct l ∧ l.toList.map (fun f => (f.offset, f.type)) = fs ∧ ∀ f ∈ l.toList, f.name ≠ "_" := by
  cases d with
  | struct l =>
    simp only [descKind] at h
    cases hq : l.toList.any fun f => f.name == "_" with
    | true => simp [hq] at h
    | false =>
      simp only [hq] at h
      injection h with h
      refine ⟨l, rfl, h, fun f hf e => ?_⟩
      have := List.any_eq_false.1 hq f hf
      simp [e] at this
  | _ => simp [descKind] at h
/-- A part of cells that mean something. -/
theorem part_run {P : Program} {w : World} {t : Nat} {i : TI} (ht : TyAt P t i) {cs : List Value} {off : Nat} (hle : off + i.size ≤ cs.length) :
    (part t ⟨cs⟩ off).run P w = .ok (packVal i.agg ((cs.drop off).take i.size)) w := by
  unfold part packVal
  rw [Sem.run_bind, ht.run_agg]
  cases ha : i.agg with
  | true =>
    simp only [Result.andThen_ok, if_true]
    rw [Sem.run_bind, ht.run_size]
    simp [List.extract_eq_take_drop]
  | false =>
    have h1 := ht.one ha
    have hlt : off < cs.length := by omega
    simp [h1, hlt, List.getElem?_eq_getElem hlt, List.take_one, List.head?_drop]
end

theorem eqF_sound {C : Ctx} {w : World} {Fz : Cells} {n d : Nat} (ih : ∀ (t : Nat) (xs ys : List D) (vs us : List Value) (b : Bool) (i : TI), RepDs w Fz xs vs → RepDs w Fz ys us → eqT C n t xs ys = some b → tyOf C t = some i →
      (Op.equalIn d t (packVal i.agg vs) (packVal i.agg us)).run C.P w = .ok b w) (hT : TyOk C) :
    ∀ (l : List Field) (xs ys : List D) (vs us : List Value) (b : Bool), (∀ f ∈ l, f.name ≠ "_") → RepDs w Fz xs vs → RepDs w Fz ys us → eqFsR C (eqT C n) (l.map fun f => (f.offset, f.type)) xs ys = some b →
      (Op.eqFields d ⟨vs⟩ ⟨us⟩ l).run C.P w = .ok b w
  | [], xs, ys, vs, us, b, _, _, _, h => by simp [eqFsR] at h; subst h; simp [Op.eqFields]
  | f :: l, xs, ys, vs, us, b, hn, hx, hy, h => by
    simp only [List.map_cons, eqFsR] at h
    cases hi : tyOf C f.type with
    | none => simp [hi] at h
    | some i =>
      simp only [hi] at h
      cases h1 : Nat.ble (f.offset + i.size) xs.length with
      | false => simp [h1] at h
      | true =>
        cases h2 : Nat.ble (f.offset + i.size) ys.length with
        | false => simp [h1, h2] at h
        | true =>
          simp only [h1, h2] at h
          cases h3 : eqT C n f.type ((xs.drop f.offset).take i.size) ((ys.drop f.offset).take i.size) with
          | none => simp [h3] at h
          | some r =>
            simp only [h3] at h
            cases h4 : eqFsR C (eqT C n) (l.map fun f => (f.offset, f.type)) xs ys with
            | none => simp [h4] at h
            | some s =>
              simp only [h4, Option.some.injEq] at h
              subst h
              have ht := hT _ _ hi
              have pa := part_run (w := w) ht (cs := vs) (off := f.offset) (by rw [hx.length]; exact Nat.le_of_ble_eq_true h1)
              have pb := part_run (w := w) ht (cs := us) (off := f.offset) (by rw [hy.length]; exact Nat.le_of_ble_eq_true h2)
              have he := ih f.type _ _ _ _ r i ((hx.drop f.offset).take i.size) ((hy.drop f.offset).take i.size) h3 hi
              have hr := eqF_sound ih hT l xs ys vs us s (fun g hg => hn g (by simp [hg])) hx hy h4
              have hn' := hn f (by simp)
              rw [Op.eqFields, if_pos hn']
              simp only [Sem.run_bind, pa, pb, he, Result.andThen_ok]
              cases r
              · simp
              · simpa using hr
theorem eqE_sound {C : Ctx} {w : World} {Fz : Cells} {n d : Nat} (ih : ∀ (t : Nat) (xs ys : List D) (vs us : List Value) (b : Bool) (i : TI), RepDs w Fz xs vs → RepDs w Fz ys us → eqT C n t xs ys = some b → tyOf C t = some i →
      (Op.equalIn d t (packVal i.agg vs) (packVal i.agg us)).run C.P w = .ok b w) (hT : TyOk C) {el : Nat} {i : TI} (hi : tyOf C el = some i) :
    ∀ (len k : Nat) (xs ys : List D) (vs us : List Value) (b : Bool), RepDs w Fz xs vs → RepDs w Fz ys us → eqEsR (eqT C n) el i.size len k xs ys = some b →
      (Op.eqItems d el i.size ⟨vs⟩ ⟨us⟩ (List.range' k len)).run C.P w = .ok b w
  | 0, k, xs, ys, vs, us, b, _, _, h => by simp [eqEsR] at h; subst h; simp [Op.eqItems]
  | len + 1, k, xs, ys, vs, us, b, hx, hy, h => by
    simp only [eqEsR] at h
    cases h1 : Nat.ble (k * i.size + i.size) xs.length with
    | false => simp [h1] at h
    | true =>
      cases h2 : Nat.ble (k * i.size + i.size) ys.length with
      | false => simp [h1, h2] at h
      | true =>
        simp only [h1, h2] at h
        cases h3 : eqT C n el ((xs.drop (k * i.size)).take i.size) ((ys.drop (k * i.size)).take i.size) with
        | none => simp [h3] at h
        | some r =>
          simp only [h3] at h
          cases h4 : eqEsR (eqT C n) el i.size len (k + 1) xs ys with
          | none => simp [h4] at h
          | some s =>
            simp only [h4, Option.some.injEq] at h
            subst h
            have ht := hT _ _ hi
            have pa := part_run (w := w) ht (cs := vs) (off := k * i.size) (by rw [hx.length]; exact Nat.le_of_ble_eq_true h1)
            have pb := part_run (w := w) ht (cs := us) (off := k * i.size) (by rw [hy.length]; exact Nat.le_of_ble_eq_true h2)
            have he := ih el _ _ _ _ r i ((hx.drop (k * i.size)).take i.size) ((hy.drop (k * i.size)).take i.size) h3 hi
            have hr := eqE_sound ih hT hi len (k + 1) xs ys vs us s hx hy h4
            rw [List.range'_succ]
            simp only [Op.eqItems, Sem.run_bind, pa, pb, he, Result.andThen_ok]
            cases r
            · simp
            · simpa using hr
theorem repDs_one {w : World} {Fz : Cells} {v : Value} {vs : List Value} (h : RepDs w Fz [.lit v] vs) : vs = [v] := by
  cases h with | cons h t => cases h with | lit _ => cases t with | nil => rfl
theorem cellsOf_size {P : Program} {t : Nat} {i : TI} (h : TyAt P t i) : P.cellsOf t = i.size := by
  obtain ⟨inf, h1, h2, _⟩ := h.info
  simp [Program.cellsOf, h1, h2]
theorem eqInt_inv {xs ys : List D} {b : Bool} (h : (match xs, ys with
      | [.lit (.int k x)], [.lit (.int k' y)] => match decide (k = k') with
        | true => some (x == y)
        | false => none
      | _, _ => (none : Option Bool)) = some b) : ∃ k x y, xs = [.lit (.int k x)] ∧ ys = [.lit (.int k y)] ∧ b = (x == y) := by
  split at h
  · rename_i k x k' y
    by_cases hk : k = k'
    · subst hk; simp at h; exact ⟨k, x, y, rfl, rfl, h.symm⟩
    · simp [hk] at h
  · cases h
theorem eqStr_inv {xs ys : List D} {b : Bool} (h : (match xs, ys with
      | [.lit (.string x)], [.lit (.string y)] => some (beqS x y)
      | _, _ => (none : Option Bool)) = some b) : ∃ x y, xs = [.lit (.string x)] ∧ ys = [.lit (.string y)] ∧ b = (x == y) := by
  split at h
  · simp only [beqS_eq, Option.some.injEq] at h; exact ⟨_, _, rfl, rfl, h.symm⟩
  · cases h
theorem eqBool_inv {xs ys : List D} {b : Bool} (h : (match xs, ys with
      | [.lit (.bool x)], [.lit (.bool y)] => some (x == y)
      | _, _ => (none : Option Bool)) = some b) : ∃ x y, xs = [.lit (.bool x)] ∧ ys = [.lit (.bool y)] ∧ b = (x == y) := by
  split at h
  · simp at h; exact ⟨_, _, rfl, rfl, h.symm⟩
  · cases h
theorem eqFlt_inv {xs ys : List D} {b : Bool} (h : (match xs, ys with
      | [.lit (.float k x)], [.lit (.float k' y)] => match decide (k = k') with
        | true => some (Op.floatEq k x y)
        | false => none
      | _, _ => (none : Option Bool)) = some b) : ∃ k x y, xs = [.lit (.float k x)] ∧ ys = [.lit (.float k y)] ∧ b = Op.floatEq k x y := by
  split at h
  · rename_i k x k' y
    by_cases hk : k = k'
    · subst hk; simp at h; exact ⟨k, x, y, rfl, rfl, h.symm⟩
    · simp [hk] at h
  · cases h
theorem eqCpx_inv {xs ys : List D} {b : Bool} (h : (match xs, ys with
      | [.lit (.complex k x y)], [.lit (.complex k' z u)] => match decide (k = k') with
        | true => some (Op.floatEq k x z && Op.floatEq k y u)
        | false => none
      | _, _ => (none : Option Bool)) = some b) : ∃ k x y z u, xs = [.lit (.complex k x y)] ∧ ys = [.lit (.complex k z u)] ∧ b = (Op.floatEq k x z && Op.floatEq k y u) := by
  split at h
  · rename_i k x y k' z u
    by_cases hk : k = k'
    · subst hk; simp only [decide_true, Option.some.injEq] at h; exact ⟨k, x, y, z, u, rfl, rfl, h.symm⟩
    · simp [hk] at h
  · cases h
theorem eqT_sound {C : Ctx} (hT : TyOk C) {w : World} {Fz : Cells} : ∀ (n d : Nat), n ≤ d → ∀ (t : Nat) (xs ys : List D) (vs us : List Value) (b : Bool) (i : TI), RepDs w Fz xs vs → RepDs w Fz ys us → eqT C n t xs ys = some b → tyOf C t = some i →
      (Op.equalIn d t (packVal i.agg vs) (packVal i.agg us)).run C.P w = .ok b w := by
  intro n
  induction n with
  | zero => intro d _ t xs ys vs us b i _ _ h; simp [eqT] at h
  | succ n ih =>
    intro d hd t xs ys vs us b i hx hy h hi
    obtain ⟨d, rfl⟩ : ∃ m, d = m + 1 := ⟨d - 1, by omega⟩
    have ih' := ih d (by omega)
    have ht := hT t i hi
    have hti := tyOf_kind hi
    obtain ⟨ds, hu, hdk⟩ := ht.und
    unfold eqT at h
    rw [hti] at h
    cases hk : i.kind with
    | ifc => rw [hk] at h; cases h
    | uptr => rw [hk] at h; cases h
    | int k =>
      rw [hk] at h hdk
      have := desc_int hdk; subst this
      have hagg : i.agg = false := by simp [TI.agg, hk]
      obtain ⟨k1, x, y, rfl, rfl, rfl⟩ := eqInt_inv h
      rw [repDs_one hx, repDs_one hy, hagg]
      exact equalIn_int hu
    | str =>
      rw [hk] at h hdk
      have := desc_str hdk; subst this
      have hagg : i.agg = false := by simp [TI.agg, hk]
      obtain ⟨x, y, rfl, rfl, rfl⟩ := eqStr_inv h
      rw [repDs_one hx, repDs_one hy, hagg]
      exact equalIn_str hu
    | bool =>
      rw [hk] at h hdk
      have := desc_bool hdk; subst this
      have hagg : i.agg = false := by simp [TI.agg, hk]
      obtain ⟨x, y, rfl, rfl, rfl⟩ := eqBool_inv h
      rw [repDs_one hx, repDs_one hy, hagg]
      exact equalIn_bool hu
    | flt k =>
      rw [hk] at h hdk
      have := desc_flt hdk; subst this
      have hagg : i.agg = false := by simp [TI.agg, hk]
      obtain ⟨k1, x, y, rfl, rfl, rfl⟩ := eqFlt_inv h
      rw [repDs_one hx, repDs_one hy, hagg]
      show (Op.equalIn (d + 1) t (.float k1 x) (.float k1 y)).run C.P w = _
      simp [Op.equalIn, run_underlying hu]
    | cpx k =>
      rw [hk] at h hdk
      have := desc_cpx hdk; subst this
      have hagg : i.agg = false := by simp [TI.agg, hk]
      obtain ⟨k1, x, y, z, u, rfl, rfl, rfl⟩ := eqCpx_inv h
      rw [repDs_one hx, repDs_one hy, hagg]
      show (Op.equalIn (d + 1) t (.complex k1 x y) (.complex k1 z u)).run C.P w = _
      simp [Op.equalIn, run_underlying hu]
    | map _ _ => rw [hk] at h; simp at h
    | struct fs =>
      rw [hk] at h hdk
      obtain ⟨l, rfl, hl, hn⟩ := desc_struct hdk
      have hagg : i.agg = true := by simp [TI.agg, hk]
      simp only at h
      cases hc : i.cmp with
      | false => simp [hc] at h
      | true =>
        simp only [hc] at h
        have hst := (ht.cmp hc).1
        rw [hagg]
        have hf : C.P.fieldsOf t = l := by simp [Program.fieldsOf, hu]
        show (Op.equalIn (d + 1) t (.agg ⟨vs⟩) (.agg ⟨us⟩)).run C.P w = _
        rw [run_equalIn_struct (P := C.P) w d t ⟨vs⟩ ⟨us⟩ (by rw [hf]; exact hu) hst, hf]
        exact eqF_sound ih' hT l.toList xs ys vs us b hn hx hy (by rw [hl]; exact h)
    | array len el =>
      rw [hk] at h hdk
      have := desc_array hdk; subst this
      have hagg : i.agg = true := by simp [TI.agg, hk]
      simp only at h
      cases hc : i.cmp with
      | false => simp [hc] at h
      | true =>
        cases he : tyOf C el with
        | none => simp [hc, he] at h
        | some ei =>
          simp only [hc, he] at h
          rw [hagg]
          have hte := hT _ _ he
          obtain ⟨inf, hinf, _⟩ := hte.info
          show (Op.equalIn (d + 1) t (.agg ⟨vs⟩) (.agg ⟨us⟩)).run C.P w = _
          rw [run_equalIn_array (P := C.P) w d ⟨vs⟩ ⟨us⟩ hu hinf, cellsOf_size hte, List.range_eq_range']
          exact eqE_sound ih' hT he len 0 xs ys vs us b hx hy h
    | slice _ => rw [hk] at h; simp at h
    | ptr _ => rw [hk] at h; simp at h
    | other => rw [hk] at h; simp at h
    | bad => exact absurd hk ht.kok
end Go.Abs
