/- Regions that draw their order: an operation's reads; two that may swap. -/
import Derived.Test.YtpmejcfbnghaeaaGreatDoorT13
import Derived.Orders
namespace Go.Abs
set_option linter.unusedVariables false
set_option linter.unusedSimpArgs false

def EqE (e e' : Env) : Prop := ∀ i, lk e i = lk e' i
theorem EqE.refl (e : Env) : EqE e e := fun _ => rfl
theorem EqE.symm {e e' : Env} (h : EqE e e') : EqE e' e := fun i => (h i).symm
theorem EqE.trans {a b c : Env} (h : EqE a b) (k : EqE b c) : EqE a c := fun i => (h i).trans (k i)
def putE (dst : Option Nat) (v : V) (e : Env) : Env := match dst with
  | some d => (d, v) :: e
  | none => e
theorem EqE.put {e e' : Env} (h : EqE e e') (dst : Option Nat) (v : V) : EqE (putE dst v e) (putE dst v e') := by
  cases dst with
  | none => exact h
  | some d => intro i; simp only [putE, lk_cons]; rw [h i]
theorem ev_eqE {C : Ctx} {e e' : Env} (x : Operand) (h : ∀ t, x = .tmp t → lk e t = lk e' t) : ev C e x = ev C e' x := by
  cases x with
  | tmp t => exact h t rfl
  | _ => rfl
theorem evParts_congr {C : Ctx} {e e' : Env} : ∀ {l : List (Nat × Operand)}, (∀ x ∈ l.map (·.2), ev C e x = ev C e' x) → evParts C e l = evParts C e' l
  | [], _ => rfl
  | (i, x) :: r, h => by simp only [evParts]; rw [h x (by simp), evParts_congr (l := r) (fun y hy => h y (by simp at hy ⊢; exact .inr hy))]
theorem evInt_congr {C : Ctx} {e e' : Env} {o : Option Operand} (h : ∀ x, o = some x → ev C e x = ev C e' x) : evInt C e o = evInt C e' o := by
  cases o with
  | none => rfl
  | some x => simp only [evInt]; rw [h x rfl]
theorem fop_congr {C : Ctx} {e e' : Env} {H : AHeap} {op : Op} (h : ∀ x ∈ op.operands, ev C e x = ev C e' x) : fop C e H op = fop C e' H op := by
  unfold fop
  split
  case h_1 x => rw [h x (by simp [Op.operands])]
  case h_2 x => rw [h x (by simp [Op.operands])]
  case h_3 c a b => rw [h c (by simp [Op.operands]), h a (by simp [Op.operands]), h b (by simp [Op.operands])]
  case h_4 => rfl
  case h_5 t x => rw [h x (by simp [Op.operands])]
  case h_6 t ps => rw [evParts_congr (fun x hx => h x (by simpa [Op.operands] using hx))]
  case h_7 t n ps => rw [evParts_congr (fun x hx => h x (by simpa [Op.operands] using hx))]
  case h_8 t a => rw [h a (by simp [Op.operands])]
  case h_9 t a x => rw [h a (by simp [Op.operands]), h x (by simp [Op.operands])]
  case h_10 x => rw [h x (by simp [Op.operands])]
  case h_11 op t x y _ => rw [h x (by simp [Op.operands]), h y (by simp [Op.operands])]
  case h_12 op t x => rw [h x (by simp [Op.operands])]
  case h_13 s d x => rw [h x (by simp [Op.operands])]
  case h_14 f first captured =>
    have : captured.toList.map (ev C e) = captured.toList.map (ev C e') := List.map_congr_left fun x hx => h x (by simp [Op.operands]; exact .inr (by simpa using hx))
    rw [this]
    cases hf : first.toList with
    | nil => rfl
    | cons x r =>
      have hm : ∀ y ∈ x :: r, ev C e y = ev C e' y := fun y hy => h y (by
        rw [← hf] at hy
        simp [Op.operands]; exact .inl (by simpa using hy))
      simp only
      rw [hm x (by simp), List.map_congr_left fun y hy => hm y (by simp [hy])]
  case h_15 t l c => rw [h l (by simp [Op.operands]), h c (by simp [Op.operands])]
  case h_16 t x lo hi mx =>
    rw [h x (by simp [Op.operands]), evInt_congr (o := lo) (fun y hy => h y (by subst hy; simp [Op.operands])), evInt_congr (o := hi) (fun y hy => h y (by subst hy; simp [Op.operands])),
      evInt_congr (o := mx) (fun y hy => h y (by subst hy; simp [Op.operands]))]
  case h_17 t x k => rw [h x (by simp [Op.operands])]
  case h_18 t x k => rw [h x (by simp [Op.operands])]
  case h_19 t x i => rw [h x (by simp [Op.operands]), h i (by simp [Op.operands])]
  case h_20 t x i => rw [h x (by simp [Op.operands]), h i (by simp [Op.operands])]
  case h_21 x i => rw [h x (by simp [Op.operands])]
  case h_22 x t => rw [h x (by simp [Op.operands, Call.operands])]
  case h_23 t x => rw [h x (by simp [Op.operands])]
  case h_24 x t => rw [h x (by simp [Op.operands, Call.operands])]
  case h_25 _ x ts => rw [h x (by simp [Op.operands, Call.operands])]
  case h_26 x n t t2 => rw [h x (by simp [Op.operands, Call.operands]), h n (by simp [Op.operands, Call.operands])]
  case h_27 => rfl
  case h_28 t m k ok => rw [h m (by simp [Op.operands]), h k (by simp [Op.operands])]
  case h_29 t m k x => rw [h m (by simp [Op.operands]), h k (by simp [Op.operands]), h x (by simp [Op.operands])]
  case h_30 t m k x => rw [h m (by simp [Op.operands]), h k (by simp [Op.operands]), h x (by simp [Op.operands])]
  case h_31 m k t _ => rw [h m (by simp [Op.operands, Call.operands]), h k (by simp [Op.operands, Call.operands])]
  case h_32 d x t u => rw [h d (by simp [Op.operands, Call.operands]), h x (by simp [Op.operands, Call.operands])]
  case h_33 d t => rw [h d (by simp [Op.operands, Call.operands])]
  case h_34 _ x y ts => rw [h x (by simp [Op.operands, Call.operands]), h y (by simp [Op.operands, Call.operands])]
  case h_35 _ x ts => rw [h x (by simp [Op.operands, Call.operands])]
  case h_36 _ x ts => rw [h x (by simp [Op.operands, Call.operands])]
  case h_37 t x => rw [h x (by simp [Op.operands])]
  case h_38 x r ts =>
    rw [h x (by simp [Op.operands, Call.operands]), List.map_congr_left (l := r) fun y hy => h y (by simp [Op.operands, Call.operands, hy])]
  case h_39 x r ts =>
    rw [h x (by simp [Op.operands, Call.operands]), List.map_congr_left (l := r) fun y hy => h y (by simp [Op.operands, Call.operands, hy])]
  case h_40 s x t u => rw [h s (by simp [Op.operands, Call.operands]), h x (by simp [Op.operands, Call.operands])]
  case h_41 => rfl

theorem SM.bind_out {α β : Type} {m : SM α} {f : α → SM β} {b : β} : (m.bind f).out b ↔ ∃ a, m.out a ∧ (f a).out b := by
  unfold SM.out
  induction m with
  | ret a => simp [SM.bind, SM.run]
  | fail => simp [SM.bind, SM.run]
  | chk c m ih => simp only [SM.bind, SM.run, chk_iff, ih]; exact ⟨fun ⟨h, a, x, y⟩ => ⟨a, ⟨h, x⟩, y⟩, fun ⟨a, ⟨h, x⟩, y⟩ => ⟨h, a, x, y⟩⟩
  | optD o g ih => simp only [SM.bind, SM.run, optK_iff, ih]; exact ⟨fun ⟨d, h, a, x, y⟩ => ⟨a, ⟨d, h, x⟩, y⟩, fun ⟨a, ⟨d, h, x⟩, y⟩ => ⟨d, h, a, x, y⟩⟩
  | optB o g ih => simp only [SM.bind, SM.run, optK_iff, ih]; exact ⟨fun ⟨d, h, a, x, y⟩ => ⟨a, ⟨d, h, x⟩, y⟩, fun ⟨a, ⟨d, h, x⟩, y⟩ => ⟨d, h, a, x, y⟩⟩
  | optL o g ih => simp only [SM.bind, SM.run, optK_iff, ih]; exact ⟨fun ⟨d, h, a, x, y⟩ => ⟨a, ⟨d, h, x⟩, y⟩, fun ⟨a, ⟨d, h, x⟩, y⟩ => ⟨d, h, a, x, y⟩⟩
theorem SM.ret_out {α : Type} {a b : α} : (SM.ret a).out b ↔ b = a := by simp [SM.out, SM.run]; exact eq_comm
theorem pair_out {H : AHeap} {m : SM V} {v : V} {H' : AHeap} : (pair H m).out (v, H') ↔ m.out v ∧ H' = H := by
  unfold pair; rw [SM.bind_out]
  constructor
  · rintro ⟨a, h, k⟩; rw [SM.ret_out] at k; injection k with k1 k2; subst k1; exact ⟨h, k2⟩
  · rintro ⟨h, rfl⟩; exact ⟨v, h, SM.ret_out.2 rfl⟩
theorem fail_out {α : Type} {a : α} : ¬ (SM.fail : SM α).out a := fun h => h
theorem loadAt_nil {C : Ctx} {t : Nat} {a v : V} (h : loadAt C [] t a = some v) (H : AHeap) : loadAt C H t a = some v := by
  unfold loadAt at h ⊢
  split at h
  · split at h
    · simp [objCells] at h
    · exact h
    · cases h
  · cases h
theorem srcCells_nil {ti : TI} {x : V} {r : Nat × List V} (h : srcCells [] ti x = some r) (H : AHeap) : srcCells H ti x = some r := by
  unfold srcCells at h ⊢
  split at h
  · simp [srcOwn, objCells] at h
  · simp [srcOwn, objCells] at h
  · exact h
theorem appendRow_nil {C : Ctx} {t u : Nat} {s x v : V} (h : (appendRow C [] t u s x).out (v, [])) (H : AHeap) : (appendRow C H t u s x).out (v, H) := by
  unfold appendRow at h ⊢
  split at h
  · split at h
    · rename_i hs
      rw [srcCells_nil hs H]
      simp only
      split at h
      · rw [SM.ret_out] at h ⊢; injection h with h; rw [h]
      · exact h.elim
    · split at h
      · unfold SM.out at h
        simp only [SM.run, chk_iff] at h
        have := h.2.2; injection this with _ this; simp at this
      · split at h
        · rename_i ho; simp [objCells] at ho
        · exact h.elim
      · split at h
        · rename_i ho; simp [srcOwn, objCells] at ho
        · exact h.elim
      · exact h.elim
    · exact h.elim
  · exact h.elim
theorem bounds_more {len cap cap' : Nat} {lo hi mx : Option Int} {k : Nat → Nat → Option Nat → SM V} {v : V} (hc : cap ≤ cap') (h : (bounds len cap lo hi mx k).out v) : (bounds len cap' lo hi mx k).out v := by
  unfold bounds at h ⊢
  cases mx with
  | none =>
    cases hi with
    | none => exact h
    | some hh =>
      cases lo with
      | none =>
        unfold SM.out at h ⊢
        simp only [SM.run, chk_iff, decide_eq_true_eq] at h ⊢
        exact ⟨⟨h.1.1, by omega⟩, h.2⟩
      | some l =>
        unfold SM.out at h ⊢
        simp only [SM.run, chk_iff, decide_eq_true_eq] at h ⊢
        exact ⟨⟨h.1.1, h.1.2.1, by omega⟩, h.2⟩
  | some m =>
    cases hi with
    | none => exact h
    | some hh =>
      cases lo with
      | none =>
        unfold SM.out at h ⊢
        simp only [SM.run, chk_iff, decide_eq_true_eq] at h ⊢
        exact ⟨⟨h.1.1, h.1.2.1, by omega⟩, h.2⟩
      | some l =>
        unfold SM.out at h ⊢
        simp only [SM.run, chk_iff, decide_eq_true_eq] at h ⊢
        exact ⟨⟨h.1.1, h.1.2.1, h.1.2.2.1, by omega⟩, h.2⟩
theorem rowCap_ge (H : AHeap) (b ver off len s : Nat) : len ≤ rowCap H b ver off len s := by
  unfold rowCap
  split
  · split
    · rename_i hq
      simp only [Bool.and_eq_true] at hq
      have hs : 0 < s := by simpa using hq.1
      have hle := Nat.le_of_ble_eq_true hq.2
      rw [Nat.le_div_iff_mul_le hs]; omega
    · exact Nat.le_refl _
  · exact Nat.le_refl _
theorem sliceOp_nil {C : Ctx} {t : Nat} {lo hi mx : Option Int} {x v : V} (h : (sliceOp C [] t lo hi mx x).out v) (H : AHeap) : (sliceOp C H t lo hi mx x).out v := by
  unfold sliceOp at h ⊢
  split at h
  case h_5 b ver off len s =>
    split at h
    · split at h
      · have e : rowCap [] b ver off len s = len := by simp [rowCap, objCells]
        rw [e] at h
        exact bounds_more (rowCap_ge H b ver off len s) h
      · exact h.elim
    · exact h.elim
  all_goals exact h
theorem mapAt_nil {m : V} {r : List V × List V} (h : mapAt [] m = some r) (H : AHeap) : mapAt H m = some r := by
  unfold mapAt at h ⊢
  split at h
  · split at h
    · rename_i hq; simp at hq
    · cases h
  · exact h
  · exact h
  · cases h
theorem keyEq_nil {C : Ctx} {kt : Nat} {a b : V} {r : Bool} (h : keyEq C [] kt a b = some r) (H : AHeap) : keyEq C H kt a b = some r := by
  unfold keyEq at h ⊢
  split at h
  case h_4 => simp [liveP, objCells] at h
  all_goals first | exact h | cases h
theorem kfind_nil {C : Ctx} {kt : Nat} {k : V} (H : AHeap) : ∀ {ks : List V} {r : Option Nat}, kfind C [] kt k ks = some r → kfind C H kt k ks = some r
  | [], r, h => h
  | x :: ks, r, h => by
    simp only [kfind] at h ⊢
    split at h
    · rename_i hq
      rw [keyEq_nil hq H]
      simp only
      split at h
      · rename_i r' hr
        rw [kfind_nil H hr]; exact h
      · cases h
    · rename_i hq
      rw [keyEq_nil hq H]
      simp only
      split at h
      · rename_i i hr
        rw [kfind_nil H hr]; exact h
      · rename_i hr
        rw [kfind_nil H hr]; exact h
      · cases h
    · cases h
theorem kfindK_nil {C : Ctx} {kt : Nat} {k : V} (H : AHeap) {ks : List V} {r : Option Nat} (h : kfindK C [] kt k ks = some r) : kfindK C H kt k ks = some r := by
  unfold kfindK at h ⊢
  split at h
  · rename_i hok
    have : okKey C H kt k = true := by
      unfold okKey at hok ⊢
      split at hok
      · rename_i hq; rw [keyEq_nil hq H]
      · cases hok
    rw [this]
    exact kfind_nil H h
  · cases h
theorem lookupOp_nil {C : Ctx} {t : Nat} {m k v : V} {cok : Bool} (h : (lookupOp C [] t m k cok).out v) (H : AHeap) : (lookupOp C H t m k cok).out v := by
  unfold lookupOp at h ⊢
  split at h
  · rename_i ht hm
    rw [ht, mapAt_nil hm H]
    simp only
    split at h
    · rename_i hf
      rw [kfindK_nil H hf]; exact h
    · rename_i hf
      rw [kfindK_nil H hf]; exact h
    · exact h.elim
  · exact h.elim
theorem storeAt_none {l : List V} {a : V} {H' : AHeap} (h : (storeAt [] l a).out H') : False := by
  unfold storeAt at h
  split at h
  · simp [objCells] at h; exact h.elim
  · exact h.elim
/-- An operation that does not look at the call's blocks is done the same over any. -/
theorem fop_nil {C : Ctx} {e : Env} {op : Op} {v : V} (h : (fop C e [] op).out (v, [])) (H : AHeap) : (fop C e H op).out (v, H) := by
  have fin : ∀ {v' : V}, (SM.ret (v', ([] : AHeap))).out (v, []) → (SM.ret (v', H)).out (v, H) := by
    intro v' h; rw [SM.ret_out] at h ⊢; injection h with h; rw [h]
  have pr : ∀ {m : SM V}, (pair [] m).out (v, []) → (pair H m).out (v, H) := by
    intro m h; rw [pair_out] at h ⊢; exact ⟨h.1, rfl⟩
  unfold fop at h ⊢
  split at h
  case h_1 => exact fin h
  case h_2 => exact fin h
  case h_3 =>
    split at h
    · split at h <;> exact fin h
    · exact h.elim
  case h_4 =>
    split at h
    · rw [SM.ret_out] at h; injection h with _ h; simp at h
    · exact h.elim
  case h_5 =>
    split at h
    · rw [SM.ret_out] at h; injection h with _ h; simp at h
    · exact h.elim
  case h_6 =>
    split at h
    · split at h
      · split at h
        · split at h
          · exact fin h
          · exact h.elim
        · exact h.elim
      · exact h.elim
    · exact h.elim
  case h_7 =>
    split at h
    · split at h
      · split at h
        · split at h
          · unfold SM.out at h ⊢
            simp only [SM.run, chk_iff] at h ⊢
            refine ⟨h.1, ?_⟩
            have := h.2; injection this with this; rw [this]
          · exact h.elim
        · unfold SM.out at h
          simp only [SM.run, chk_iff] at h
          have := h.2; injection this with _ this; simp at this
      · exact h.elim
    · exact h.elim
  case h_8 =>
    split at h
    · rename_i hl; rw [loadAt_nil hl H]; exact fin h
    · exact h.elim
  case h_9 =>
    split at h
    · split at h
      · split at h
        · rw [SM.bind_out] at h
          obtain ⟨H', h, _⟩ := h
          unfold storeAt at h
          split at h
          · simp [objCells] at h; exact h.elim
          · exact h.elim
        · exact h.elim
      · exact h.elim
    · exact h.elim
  case h_10 => split at h <;> first | exact fin h | exact h.elim
  case h_11 => split at h <;> exact pr h
  case h_12 => split at h <;> first | exact fin h | exact h.elim
  case h_13 =>
    unfold convertOp convertOp1 at h ⊢
    split at h
    · exact h.elim
    · split at h
      · exact fin h
      · exact fin h
      · exact fin h
      · split at h
        · rename_i ho; simp [objCells] at ho
        · exact h.elim
      · split at h
        · unfold SM.out at h ⊢
          simp only [SM.run, optK_iff, strOf] at h ⊢
          obtain ⟨d, h1, h2⟩ := h
          injection h2 with h2; exact ⟨d, h1, by rw [h2]⟩
        · exact h.elim
      · split at h
        · unfold SM.out at h ⊢
          simp only [SM.run, optK_iff, strOf] at h ⊢
          obtain ⟨d, h1, h2⟩ := h
          injection h2 with h2; exact ⟨d, h1, by rw [h2]⟩
        · exact h.elim
      · split at h
        · rename_i ho; simp [objCells] at ho
        · exact h.elim
      · split at h
        · rename_i ho; simp [objCells] at ho
        · exact h.elim
      · split at h
        · rw [SM.ret_out] at h; injection h with _ h; simp at h
        · exact h.elim
      · exact h.elim
  case h_14 =>
    split at h
    · split at h
      · exact fin h
      · exact h.elim
    · split at h <;> exact fin h
  case h_15 =>
    split at h
    · unfold SM.out at h
      simp only [SM.run, chk_iff] at h
      have := h.2; injection this with _ this; simp at this
    · exact h.elim
  case h_16 =>
    split at h
    · rw [pair_out] at h ⊢; exact ⟨sliceOp_nil h.1 H, rfl⟩
    · exact h.elim
  case h_17 =>
    split at h
    · split at h
      · exact h.elim
      · split at h <;> first | exact fin h | exact h.elim
    · exact h.elim
  case h_18 =>
    split at h
    · split at h
      · split at h
        · split at h
          · exact fin h
          · exact h.elim
        · exact h.elim
      · exact h.elim
    · exact h.elim
  case h_19 => split at h <;> first | exact pr h | exact h.elim
  case h_20 => split at h <;> first | exact pr h | exact h.elim
  case h_21 =>
    split at h
    · split at h <;> first | exact fin h | exact h.elim
    · split at h <;> first | exact fin h | exact h.elim
    · exact h.elim
  case h_22 =>
    split at h
    · exact fin h
    · split at h
      · rename_i hk hm
        rw [hk, mapAt_nil hm H]
        exact fin h
      · exact h.elim
  case h_23 =>
    split at h
    · exact h.elim
    · exact h.elim
    · exact fin h
    · exact h.elim
  case h_24 => split at h <;> first | exact fin h | exact h.elim
  case h_25 => split at h <;> first | exact fin h | exact h.elim
  case h_26 =>
    unfold unsafeStr at h
    split at h
    · split at h
      · rename_i ho; simp at ho
      · exact h.elim
    · split at h
      · rename_i ho; simp [objCells] at ho
      · exact h.elim
    · exact h.elim
  case h_27 =>
    split at h
    · rw [SM.ret_out] at h; injection h with _ h; simp at h
    · exact h.elim
  case h_28 => rw [pair_out] at h ⊢; exact ⟨lookupOp_nil h.1 H, rfl⟩
  case h_29 =>
    rw [SM.bind_out] at h
    obtain ⟨H', h, _⟩ := h
    unfold mapPut at h
    split at h
    · simp at h; exact h.elim
    · exact h.elim
  case h_30 =>
    rw [SM.bind_out] at h
    obtain ⟨H', h, _⟩ := h
    unfold mapPut at h
    split at h
    · simp at h; exact h.elim
    · exact h.elim
  case h_31 =>
    rw [SM.bind_out] at h
    obtain ⟨H', h, _⟩ := h
    unfold mapDrop at h
    split at h
    · simp at h; exact h.elim
    · exact h.elim
  case h_32 =>
    unfold copyOp at h ⊢
    split at h
    · split at h
      · rename_i hs
        rw [srcCells_nil hs H]
        simp only
        split at h
        · split at h
          · exact fin h
          · rw [SM.bind_out] at h
            obtain ⟨H', h, _⟩ := h
            exact (storeAt_none h).elim
        · split at h
          · exact fin h
          · exact h.elim
      · exact h.elim
    · exact h.elim
  case h_33 =>
    unfold clearOp at h ⊢
    split at h
    · split at h
      · split at h
        · exact fin h
        · rw [SM.bind_out] at h
          obtain ⟨H', h, _⟩ := h
          exact (storeAt_none h).elim
      · split at h
        · exact fin h
        · exact h.elim
    · exact h.elim
  case h_34 =>
    split at h
    · unfold SM.out at h ⊢
      simp only [SM.run, chk_iff] at h ⊢
      refine ⟨h.1, ?_⟩
      have := h.2; injection this with this; rw [this]
    · exact h.elim
  case h_35 => split at h <;> first | exact fin h | exact h.elim
  case h_36 => split at h <;> first | exact fin h | exact h.elim
  case h_37 => exact pr h
  case h_38 => exact pr h
  case h_39 => exact pr h
  case h_40 s x t u =>
    generalize ev C e s = sv at h ⊢
    split at h
    · exact appendRow_nil h H
    rename_i hrw
    clear hrw
    unfold appendOp at h ⊢
    split at h
    · unfold SM.out at h
      simp only [SM.run, chk_iff] at h
      have h := h.2
      split at h
      · rename_i full _
        cases full with
        | true => simp only [SM.run, chk_iff] at h; have := h.2.2.2; injection this with _ this; simp at this
        | false => exact h.elim
      · split at h
        · rename_i ho; simp at ho
        · exact h.elim
      · exact h.elim
    · exact h.elim
  case h_41 => exact h.elim
end Go.Abs
