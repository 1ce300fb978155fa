/- The fast interpreter: code, calls. -/
import Derived.Test.YtpmejcfbnghaeaaGreatDoorT25
namespace Go.Abs
set_option linter.unusedVariables false
set_option linter.unusedSimpArgs false

abbrev YRun := Nat → Code → E3 → AHeap → ZR
noncomputable def zexit (x : AExit) (e : E3) (H : AHeap) (k : E3 → AHeap → ZR) : ZR := @AExit.rec (fun _ => E3 → AHeap → (E3 → AHeap → ZR) → ZR) (fun e H k => k e H) (fun id e H _ => some (.exit id, e, H)) (fun l e H _ => some (.goto l, e, H)) (fun e H _ => some (.ret, e, H)) x e H k
/-- What goes on behind a normal end. -/
noncomputable def zthen (r : ZR) (k : E3 → AHeap → ZR) : ZR := @Option.rec (AExit × E3 × AHeap) (fun _ => (E3 → AHeap → ZR) → ZR) (fun _ => none) (fun p k => @Prod.rec AExit (E3 × AHeap) (fun _ => ZR) (fun x q => @Prod.rec E3 AHeap (fun _ => ZR) (fun e H => zexit x e H k) q) p) r k
theorem zthen_eq (r : ZR) (k : E3 → AHeap → ZR) : zthen r k = match r with
    | some (.normal, e, H) => k e H
    | r => r := by
  cases r with
  | none => rfl
  | some p =>
    obtain ⟨x, e, H⟩ := p
    cases x <;> rfl
noncomputable def zdead (n : Nat) (H : AHeap) (k : AHeap → ZR) : ZR := @Nat.rec (fun _ => ZR) (k H) (fun m _ => zspH (H ++ List.replicate (m + 1) (.dead 0)) k) n
theorem zdead_eq (n : Nat) (H : AHeap) (k : AHeap → ZR) : zdead n H k = k (H ++ List.replicate n (.dead 0)) := by
  cases n with
  | zero => show k H = _; simp
  | succ m => show zspH _ k = _; rw [zspH_eq]
noncomputable def c_region (id : Nat) (ops : Array Oper) (draw : Bool) (run : YRun) (call : XCall) (C : Ctx) (n nt : Nat) (e : E3) (H : AHeap) : ZR :=
  @Bool.rec (fun _ => ZR) (yops C nt ops.toList ops.toList call e H fun e H => some (.normal, e, H))
    (zdead (slotsOf ops.toList) H fun H' => ydops C nt ops.toList ops.toList (looses ops.toList) call H.length e H' fun ms e H => @Bool.rec (fun _ => ZR) none (some (.normal, e, H)) (zdrawOk ms ops.toList)) draw
noncomputable def seqPlain (C : Ctx) (nt : Nat) (a : Code) : Bool := match tossAt C nt a with
  | some _ => false
  | none => match nilTest nt a with
    | some _ => false
    | none => true
/-- Two environments' slots. -/
noncomputable def mV (a b : V) : V := match vB a b with
  | true => a
  | false => .top
noncomputable def m1 (a b : E1) : E1 := match a, b with
  | .mk x0 x1 x2 x3 x4 x5 x6 x7, .mk y0 y1 y2 y3 y4 y5 y6 y7 => .mk (mV x0 y0) (mV x1 y1) (mV x2 y2) (mV x3 y3) (mV x4 y4) (mV x5 y5) (mV x6 y6) (mV x7 y7)
noncomputable def m2 (a b : E2) : E2 := match a, b with
  | .mk x0 x1 x2 x3 x4 x5 x6 x7, .mk y0 y1 y2 y3 y4 y5 y6 y7 => .mk (m1 x0 y0) (m1 x1 y1) (m1 x2 y2) (m1 x3 y3) (m1 x4 y4) (m1 x5 y5) (m1 x6 y6) (m1 x7 y7)
noncomputable def m3 (a b : E3) : E3 := match a, b with
  | .mk x0 x1 x2 x3 x4 x5 x6 x7, .mk y0 y1 y2 y3 y4 y5 y6 y7 => .mk (m2 x0 y0) (m2 x1 y1) (m2 x2 y2) (m2 x3 y3) (m2 x4 y4) (m2 x5 y5) (m2 x6 y6) (m2 x7 y7)
theorem m1_ix (a b : E1) (c : Nat) : (m1 a b).ix c = mV (a.ix c) (b.ix c) := by
  obtain ⟨x0, x1, x2, x3, x4, x5, x6, x7⟩ := a
  obtain ⟨y0, y1, y2, y3, y4, y5, y6, y7⟩ := b
  exact match c with
  | 0 => rfl
  | 1 => rfl
  | 2 => rfl
  | 3 => rfl
  | 4 => rfl
  | 5 => rfl
  | 6 => rfl
  | n + 7 => rfl
theorem m2_ix (a b : E2) (c : Nat) : (m2 a b).ix c = m1 (a.ix c) (b.ix c) := by
  obtain ⟨x0, x1, x2, x3, x4, x5, x6, x7⟩ := a
  obtain ⟨y0, y1, y2, y3, y4, y5, y6, y7⟩ := b
  exact match c with
  | 0 => rfl
  | 1 => rfl
  | 2 => rfl
  | 3 => rfl
  | 4 => rfl
  | 5 => rfl
  | 6 => rfl
  | n + 7 => rfl
theorem m3_ix (a b : E3) (c : Nat) : (m3 a b).ix c = m2 (a.ix c) (b.ix c) := by
  obtain ⟨x0, x1, x2, x3, x4, x5, x6, x7⟩ := a
  obtain ⟨y0, y1, y2, y3, y4, y5, y6, y7⟩ := b
  exact match c with
  | 0 => rfl
  | 1 => rfl
  | 2 => rfl
  | 3 => rfl
  | 4 => rfl
  | 5 => rfl
  | 6 => rfl
  | n + 7 => rfl
theorem m3_get (a b : E3) (i : Nat) : (m3 a b).get i = mV (a.get i) (b.get i) := by unfold E3.get; rw [m3_ix, m2_ix, m1_ix]
theorem lk_meet (f : Env) (i : Nat) : ∀ (e : Env), lk (meetE f e) i = mV (lk e i) (lk f i)
  | [] => by
    show V.top = mV .top (lk f i)
    unfold mV; cases vB .top (lk f i) <;> rfl
  | (j, v) :: r => by
    have ih := lk_meet f i r
    by_cases hij : j = i
    · subst hij
      have hb : Nat.beq j j = true := by simp
      have h1 : lk ((j, v) :: r) j = v := by unfold lk; rw [hb]
      rw [h1]
      unfold meetE mV
      cases hv : vB v (lk f j)
      · simp only; unfold lk; rw [hb]
      · simp only; unfold lk; rw [hb]
    · have hb : Nat.beq j i = false := by
        cases h : Nat.beq j i
        · rfl
        · exact absurd (by rw [← Nat.beq_eq]; exact h) hij
      have h1 : lk ((j, v) :: r) i = lk r i := by conv => lhs; unfold lk; rw [hb]
      rw [h1, ← ih]
      have h2 : ∀ u, lk ((j, u) :: meetE f r) i = lk (meetE f r) i := fun u => by conv => lhs; unfold lk; rw [hb]
      show lk (match vB v (lk f j) with
        | true => (j, v) :: meetE f r
        | false => (j, .top) :: meetE f r) i = _
      cases vB v (lk f j)
      · exact h2 _
      · exact h2 _
theorem Rp.meet {x y : E3} {e f : Env} (h : Rp x e) (g : Rp y f) : Rp (m3 x y) (meetE f e) := by
  refine ⟨fun i hi => ?_, fun i hi => ?_⟩
  · rw [m3_get, lk_meet, h.1 i hi, g.1 i hi]
  · rw [lk_meet, h.2 i hi]
    unfold mV; cases vB V.top (lk f i) <;> rfl
noncomputable def zbool2 (b : Bool) (t : ZR) : ZR := @Bool.rec (fun _ => ZR) none t b
noncomputable def yboth (t f : E3 → AHeap → ZR) (a0 d : Nat) (e : E3) (H : AHeap) : ZR :=
  hcas (H ++ [.dead 0]) fun H => match f ((e.set a0 .top).set d (.p (.lit (.bool false)))) H with
    | some (.normal, e2, H2) => match t ((e.set a0 .top).set d (.p (.lit (.bool true)))) H with
      | some (.normal, e1, H1) => match hB H1 H2 with
        | true => some (.normal, m3 e1 e2, H1)
        | false => match H2[H.length]? with
          | some (.cells _ 0 _) => match hcas (H ++ [.dead 0]) fun H => t ((e.set a0 .top).set d (.p (.lit (.bool true)))) H with
            | some (.normal, e1, H1) => match hB H1 (H2.set H.length (.dead 0)) with
              | true => some (.normal, m3 e1 e2, H1)
              | false => none
            | _ => none
          | _ => none
      | _ => none
    | _ => none
noncomputable def yroads (run : E3 → AHeap → ZR) (d : Nat) (e : E3) (H : AHeap) : ZR := match run (e.set d (.p (.lit (.bool true)))) H with
  | some (x1, e1, H1) => match run (e.set d (.p (.lit (.bool false)))) H with
    | some (x2, e2, H2) => match exitB x1 x2 && hB H1 H2 with
      | true => some (x1, m3 e1 e2, H1)
      | false => none
    | none => none
  | none => none
/-- What is told is what the elder form tells. -/
def YOK (r : ZR) (s : XRes) : Prop := r = none ∨ ∃ x y e H, r = some (x, y, H) ∧ s = some (x, e, H) ∧ Rp y e
theorem YOK.none {s : XRes} : YOK none s := .inl rfl
theorem yboth_ok {t f : E3 → AHeap → ZR} {t' f' : Env → AHeap → XRes} (ht : ∀ x e H, Rp x e → YOK (t x H) (t' e H)) (hf : ∀ x e H, Rp x e → YOK (f x H) (f' e H)) {a0 d : Nat} (ha : a0 < 512) (hd : d < 512) {x : E3} {e : Env} (h : Rp x e) (H : AHeap) :
    YOK (yboth t f a0 d x H) (xboth t' f' a0 d e H) := by
  unfold yboth xboth
  simp only [spine_eq, hcas_eq]
  have r0 := (h.set ha .top).set hd (.p (.lit (.bool false)))
  have r1 := (h.set ha .top).set hd (.p (.lit (.bool true)))
  rcases hf _ _ (H ++ [.dead 0]) r0 with h1 | ⟨x2, y2, e2, H2, h1, h2, h3⟩
  · rw [h1]; exact .none
  rw [h1, h2]
  cases x2 <;> try exact YOK.none
  simp only
  rcases ht _ _ (H ++ [.dead 0]) r1 with h4 | ⟨x1, y1, e1, H1, h4, h5, h6⟩
  · rw [h4]; exact .none
  rw [h4, h5]
  cases x1 <;> try exact YOK.none
  simp only
  cases hB H1 H2 with
  | true => exact .inr ⟨_, _, _, _, rfl, rfl, h6.meet h3⟩
  | false =>
    simp only
    split
    · rename_i hcell
      simp only [hcell]
      rcases ht _ _ (H ++ [.dead 0] ++ [.dead 0]) r1 with h7 | ⟨x4, y4, e4, H4, h7, h8, h9⟩
      · rw [h7]; exact .none
      rw [h7, h8]
      cases x4 <;> try exact YOK.none
      simp only
      cases hB H4 (H2.set (H ++ [AObj.dead 0]).length (AObj.dead 0)) with
      | true => exact .inr ⟨_, _, _, _, rfl, rfl, h9.meet h3⟩
      | false => exact .none
    · exact .none
theorem yroads_ok {t : E3 → AHeap → ZR} {t' : Env → AHeap → XRes} (ht : ∀ x e H, Rp x e → YOK (t x H) (t' e H)) {d : Nat} (hd : d < 512) {x : E3} {e : Env} (h : Rp x e) (H : AHeap) :
    YOK (yroads t d x H) (xroads t' d e H) := by
  unfold yroads xroads
  simp only [spine_eq]
  rcases ht _ _ H (h.set hd (.p (.lit (.bool true)))) with h1 | ⟨x1, y1, e1, H1, h1, h2, h3⟩
  · rw [h1]; exact .none
  rw [h1, h2]
  simp only
  rcases ht _ _ H (h.set hd (.p (.lit (.bool false)))) with h4 | ⟨x2, y2, e2, H2, h4, h5, h6⟩
  · rw [h4]; exact .none
  rw [h4, h5]
  simp only
  cases exitB x1 x2 && hB H1 H2 with
  | true => exact .inr ⟨_, _, _, _, rfl, rfl, h3.meet h6⟩
  | false => exact .none
def xthen (s : XRes) (k : Env → AHeap → XRes) : XRes := match s with
      | some (.normal, e, H) => k e H
      | r => r
theorem YOK.bind {r : ZR} {s : XRes} (h : YOK r s) {k : E3 → AHeap → ZR} {k' : Env → AHeap → XRes} (hk : ∀ x e H, Rp x e → YOK (k x H) (k' e H)) :
    YOK (zthen r k) (xthen s k') := by
  rw [zthen_eq]
  unfold xthen
  rcases h with h | ⟨x, y, e, H, h, h', h2⟩
  · subst h; exact .none
  · subst h; subst h'
    cases x
    · exact hk _ _ _ h2
    all_goals exact .inr ⟨_, _, _, _, rfl, rfl, h2⟩
noncomputable def yseqSlow (a b : Code) (run : YRun) (call : XCall) (C : Ctx) (n nt : Nat) (e : E3) (H : AHeap) : ZR := match tossAt C nt a with
      | some (a0, d) => match Nat.blt a0 512 && Nat.blt d 512 with
        | true => match b with
          | .cond (.tmp c) t f => match Nat.beq c d with
            | true => yboth (run nt t) (run nt f) a0 d e H
            | false => none
          | .seq (.cond (.tmp c) t f) r => match Nat.beq c d with
            | true => zthen (yboth (run nt t) (run nt f) a0 d e H) fun e H => run nt r e H
            | false => none
          | _ => none
        | false => none
      | none => match nilTest nt a with
        | some (all, pre, o, d) => match Nat.blt d 512 with
          | true => yops C nt all pre call e H fun e H => zmini (tmpsOf o.op.operands.toList) e fun e0 => match asksNil C e0 o.op with
            | true => yroads (fun e H => run nt b e H) d e H
            | false => yops C nt all [o] call e H fun e H => run nt b e H
          | false => none
        | none => zthen (run nt a e H) fun e H => run nt b e H
noncomputable def c_seq (a b : Code) (run : YRun) (call : XCall) (C : Ctx) (n nt : Nat) (e : E3) (H : AHeap) : ZR :=
  @Bool.rec (fun _ => ZR) (yseqSlow a b run call C n nt e H) (zthen (run nt a e H) fun e H => run nt b e H) (seqPlain C nt a)
theorem c_seq_eq (a b : Code) (run : YRun) (call : XCall) (C : Ctx) (n nt : Nat) (e : E3) (H : AHeap) : c_seq a b run call C n nt e H = yseqSlow a b run call C n nt e H := by
  unfold c_seq
  cases hp : seqPlain C nt a
  · rfl
  · unfold seqPlain at hp
    unfold yseqSlow
    cases ht : tossAt C nt a with
    | some p => rw [ht] at hp; cases hp
    | none =>
      rw [ht] at hp
      simp only at hp ⊢
      cases hn : nilTest nt a with
      | some p => rw [hn] at hp; cases hp
      | none => rfl
noncomputable def condV (v : V) (t f : ZR) : ZR := zasBool v (fun b => @Bool.rec (fun _ => ZR) f t b) none
inductive CHd where
  | mk (h : YRun → XCall → Nat → Nat → E3 → AHeap → ZR)
noncomputable def y_cond (s : Sel) (t f : Code) : YRun → XCall → Nat → Nat → E3 → AHeap → ZR := fun run _ _ nt e H => s e fun v => condV v (run nt t e H) (run nt f e H)
noncomputable def c_cond (c : Operand) (t f : Code) (run : YRun) (call : XCall) (C : Ctx) (n nt : Nat) (e : E3) (H : AHeap) : ZR := @ZS.rec (fun _ => ZR) (fun s => s e fun v => condV v (run nt t e H) (run nt f e H)) (mkZS C c)
noncomputable def zblk (id : Nat) (r : ZR) : ZR := @Option.rec (AExit × E3 × AHeap) (fun _ => ZR) none (fun p => @Prod.rec AExit (E3 × AHeap) (fun _ => ZR) (fun x q => @AExit.rec (fun _ => ZR) (some (.normal, q)) (fun i => @Bool.rec (fun _ => ZR) (some (.exit i, q)) (some (.normal, q)) (Nat.beq i id)) (fun l => some (.goto l, q)) (some (.ret, q)) x) p) r
noncomputable def c_block (id : Nat) (c : Code) (run : YRun) (call : XCall) (C : Ctx) (n nt : Nat) (e : E3) (H : AHeap) : ZR := zblk id (run nt c e H)
noncomputable def zloopN (run : YRun) (nt : Nat) (c : Code) (n : Nat) : E3 → AHeap → ZR := @Nat.rec (fun _ => E3 → AHeap → ZR) (fun _ _ => none) (fun _ ih e H => zthen (run nt c e H) ih) n
noncomputable def c_loop (c : Code) (run : YRun) (call : XCall) (C : Ctx) (n nt : Nat) (e : E3) (H : AHeap) : ZR := zloopN run nt c n e H
noncomputable def zgoto (whole : Code) (r : ZR) (k : Code → E3 → AHeap → ZR) : ZR := match r with
  | some (.goto l, e, H) => match findLabel whole l with
    | some rest => k rest e H
    | none => some (.goto l, e, H)
  | r => r
noncomputable def zscopeN (run : YRun) (nt : Nat) (whole : Code) (n : Nat) : Code → E3 → AHeap → ZR := @Nat.rec (fun _ => Code → E3 → AHeap → ZR) (fun _ _ _ => none) (fun _ ih c e H => zgoto whole (run nt c e H) ih) n
noncomputable def c_scope (c : Code) (run : YRun) (call : XCall) (C : Ctx) (n nt : Nat) (e : E3) (H : AHeap) : ZR := zscopeN run nt c n c e H
noncomputable def ybody (c : Code) : YRun → XCall → Ctx → Nat → Nat → E3 → AHeap → ZR :=
  @Code.casesOn (fun _ => YRun → XCall → Ctx → Nat → Nat → E3 → AHeap → ZR) c
    (fun _ _ _ _ _ e H => some (.normal, e, H))
    c_region c_seq c_cond c_block c_loop
    (fun _ _ _ _ _ _ _ _ _ _ _ => none)
    (fun id _ _ _ _ _ e H => some (.exit id, e, H))
    c_scope
    (fun _ _ _ _ _ _ e H => some (.normal, e, H))
    (fun l _ _ _ _ _ e H => some (.goto l, e, H))
    (fun _ _ _ _ _ e H => some (.ret, e, H))
    (fun _ _ _ _ _ _ _ _ => none)
/-! Calls -/
noncomputable def yargs (l : List V) : Nat → E3 → (E3 → ZR) → ZR := @List.rec V (fun _ => Nat → E3 → (E3 → ZR) → ZR) (fun _ x k => k x) (fun v _ ih i x k => @Bool.rec (fun _ => ZR) none (@ZU.rec (fun _ => ZR) (fun u => u x v fun x => ih (Nat.succ i) x k) (mkUpd i)) (Nat.blt i 512)) l
noncomputable def yres (C : Ctx) (rs : List ResultVar) (x : E3) (H : AHeap) : (List V → ZR) → ZR := @List.rec ResultVar (fun _ => (List V → ZR) → ZR) (fun k => k [])
  (fun r _ ih k => @ResultVar.rec (fun _ => ZR) (fun t => @ZS.rec (fun _ => ZR) (fun s => s x fun v => ih fun l => k (v :: l)) (mkT t)) (fun a t => @ZS.rec (fun _ => ZR) (fun s => s x fun av => obV (loadAt C H t av) fun v => vdc v fun v => ih fun l => k (v :: l)) (mkT a)) r) rs
def oneE (v : V) : E3 := .mk (.mk (.mk v .top .top .top .top .top .top .top) e1 e1 e1 e1 e1 e1 e1) e2 e2 e2 e2 e2 e2 e2
noncomputable def zret1 (n : Nat) (r : ZR) : Option (V × AHeap) := match r with
  | some (_, .mk (.mk (.mk v _ _ _ _ _ _ _) _ _ _ _ _ _ _) _ _ _ _ _ _ _, H) => some (xtrim n v H)
  | none => none
noncomputable def zend (x : AExit) (t f : ZR) : ZR := @AExit.rec (fun _ => ZR) t (fun _ => f) (fun _ => f) t x
noncomputable def yfin (C : Ctx) (rs : List ResultVar) (r : ZR) : ZR := @Option.rec (AExit × E3 × AHeap) (fun _ => ZR) none (fun p => @Prod.rec AExit (E3 × AHeap) (fun _ => ZR) (fun x q => @Prod.rec E3 AHeap (fun _ => ZR) (fun e H => zend x (yres C rs e H fun l => some (.ret, oneE (retV l), H)) none) q) p) r
noncomputable def ycallW (run : YRun) (L : XCall) (C : Ctx) (f : Nat) (args : List V) (H : AHeap) : Option (V × AHeap) := match L f args H with
  | some r => some r
  | none => match C.P.funcs[f]? with
    | some fn => match fn.body with
      | some c => match Nat.ble args.length fn.ntmps && Nat.ble fn.ntmps 512 with
        | true => zret1 H.length (yfin C fn.results.toList (yargs args 0 e3 fun e => run fn.ntmps c e H))
        | false => none
      | none => none
    | none => none
noncomputable def ycode (C : Ctx) (L : XCall) (n : Nat) : YRun := @Nat.rec (fun _ => YRun) (fun _ _ _ _ => none) (fun n ih nt c e H => ybody c ih (ycallW ih L C) C n nt e H) n
theorem Rp.enum (l : List V) (n : Nat) (x : E3) (e : Env) (k : E3 → ZR) (h : Rp x e) (hn : ∀ i, n ≤ i → lk e i = .top) : yargs l n x k = none ∨ ∃ x', yargs l n x k = k x' ∧ ∀ e', (∀ i, lk e' i = if n ≤ i then (l[i - n]?).getD .top else lk e i) → Rp x' e' := by
  induction l generalizing n x e with
  | nil =>
    refine .inr ⟨x, rfl, fun e' he' => ?_⟩
    have : ∀ i, lk e' i = lk e i := by
      intro i
      rw [he' i]
      by_cases hi : n ≤ i
      · rw [if_pos hi, hn i hi]; rfl
      · rw [if_neg hi]
    exact ⟨fun i hi => by rw [this, h.1 i hi], fun i hi => by rw [this, h.2 i hi]⟩
  | cons v r ih =>
    have hA : yargs (v :: r) n x k = @Bool.rec (fun _ => ZR) none (@ZU.rec (fun _ => ZR) (fun u => u x v fun x => yargs r (n + 1) x k) (mkUpd n)) (Nat.blt n 512) := rfl
    rw [hA]
    cases hb : Nat.blt n 512
    · exact .inl rfl
    · have hlt : n < 512 := by simpa [Nat.blt_eq] using hb
      rw [mkUpd_eq]
      show updOf n x v (fun x => yargs r (n + 1) x k) = none ∨ ∃ x', updOf n x v (fun x => yargs r (n + 1) x k) = k x' ∧ _
      rw [updOf_eq n hlt]
      rcases ih (n + 1) (x.set n v) (setE n v e) (h.set hlt v) (fun i hi => by rw [lk_setE, if_neg (by omega), hn i (by omega)]) with h1 | ⟨x', h1, h2⟩
      · exact .inl h1
      · refine .inr ⟨x', h1, fun e' he' => h2 e' fun i => ?_⟩
        rw [he' i, lk_setE]
        by_cases hi : n + 1 ≤ i
        · rw [if_pos (by omega), if_pos hi]
          have : i - n = (i - (n + 1)) + 1 := by omega
          rw [this]; rfl
        · rw [if_neg hi]
          by_cases he : n = i
          · subst he; rw [if_pos (Nat.le_refl _), if_pos rfl]; simp
          · rw [if_neg (by omega), if_neg he]
theorem yres_eq {C : Ctx} {x : E3} {e : Env} (h : Rp x e) (H : AHeap) (rs : List ResultVar) (k : List V → ZR) : yres C rs x H k = none ∨ ∃ l, resOf C e H rs = some l ∧ yres C rs x H k = k l := by
  induction rs generalizing k with
  | nil => exact .inr ⟨[], rfl, rfl⟩
  | cons r rs ih =>
    cases r with
    | tmp t =>
      have hA : yres C (.tmp t :: rs) x H k = @ZS.rec (fun _ => ZR) (fun s => s x fun v => yres C rs x H fun l => k (v :: l)) (mkT t) := rfl
      rw [hA, mkT_eq]
      show selZ t x (fun v => yres C rs x H fun l => k (v :: l)) = none ∨ ∃ l, _ ∧ selZ t x (fun v => yres C rs x H fun l => k (v :: l)) = k l
      rw [selZ_eq h]
      rcases ih (fun l => k (lk e t :: l)) with h1 | ⟨l, h1, h2⟩
      · exact .inl h1
      · exact .inr ⟨lk e t :: l, by simp only [resOf, h1], h2⟩
    | cell a t =>
      have hA : yres C (.cell a t :: rs) x H k = @ZS.rec (fun _ => ZR) (fun s => s x fun av => obV (loadAt C H t av) fun v => vdc v fun v => yres C rs x H fun l => k (v :: l)) (mkT a) := rfl
      rw [hA, mkT_eq]
      show selZ a x (fun av => obV (loadAt C H t av) fun v => vdc v fun v => yres C rs x H fun l => k (v :: l)) = none ∨ ∃ l, _ ∧ selZ a x (fun av => obV (loadAt C H t av) fun v => vdc v fun v => yres C rs x H fun l => k (v :: l)) = k l
      rw [selZ_eq h]
      cases hl : loadAt C H t (lk e a) with
      | none => exact .inl rfl
      | some v =>
        show (vdc v fun v => yres C rs x H fun l => k (v :: l)) = none ∨ ∃ l, _ ∧ (vdc v fun v => yres C rs x H fun l => k (v :: l)) = k l
        rw [vdc_eq]
        rcases ih (fun l => k (v :: l)) with h1 | ⟨l, h1, h2⟩
        · exact .inl h1
        · exact .inr ⟨v :: l, by simp only [resOf, hl, h1], h2⟩
def RunOk (y : YRun) (x : Nat → Code → Env → AHeap → XRes) : Prop := ∀ nt, nt ≤ 512 → ∀ c t e H, Rp t e → YOK (y nt c t H) (x nt c e H)
theorem ycallW_sub {y : YRun} {x : Nat → Code → Env → AHeap → XRes} (hr : RunOk y x) (L : XCall) (C : Ctx) : SubC (ycallW y L C) (xcallW x L C) := by
  intro f args H r h
  unfold ycallW at h
  unfold xcallW
  cases hL : L f args H with
  | some r' => rw [hL] at h; exact h
  | none =>
    rw [hL] at h
    simp only at h ⊢
    cases hf : C.P.funcs[f]? with
    | none => rw [hf] at h; cases h
    | some fn =>
      rw [hf] at h
      simp only at h ⊢
      cases hb : fn.body with
      | none => rw [hb] at h; cases h
      | some c =>
        rw [hb] at h
        simp only at h ⊢
        cases hn : Nat.ble args.length fn.ntmps && Nat.ble fn.ntmps 512 with
        | false => rw [hn] at h; cases h
        | true =>
          rw [hn] at h
          rw [Bool.and_eq_true] at hn
          have hnt : fn.ntmps ≤ 512 := by simpa [Nat.ble_eq] using hn.2
          rw [hn.1]
          simp only [spine_eq] at h ⊢
          have hi : Rp e3 ([] : Env) := ⟨fun i _ => by rw [e3_get]; rfl, fun _ _ => rfl⟩
          rcases Rp.enum args 0 e3 [] (fun e => y fn.ntmps c e H) hi (fun _ _ => rfl) with h1 | ⟨x', h1, h2⟩
          · rw [h1] at h; cases h
          · rw [h1] at h
            have hx := h2 (enum 0 args) (fun i => by rw [lk_enum]; rfl)
            rcases hr fn.ntmps hnt c x' (enum 0 args) H hx with h3 | ⟨q, t, e, H', h3, h4, h5⟩
            · rw [h3] at h; cases h
            · rw [h3] at h
              rw [h4]
              have hy : yfin C fn.results.toList (some (q, t, H')) = zend q (yres C fn.results.toList t H' fun l => some (.ret, oneE (retV l), H')) none := rfl
              rw [hy] at h
              cases q with
              | exit id => cases h
              | goto l => cases h
              | normal =>
                show _ = _
                have h : zret1 H.length (yres C fn.results.toList t H' fun l => some (.ret, oneE (retV l), H')) = some r := h
                rcases yres_eq (C := C) h5 H' fn.results.toList (fun l => some (.ret, oneE (retV l), H')) with h6 | ⟨l, h6, h7⟩
                · rw [h6] at h; cases h
                · rw [h7] at h
                  simp only [h6]
                  exact h
              | ret =>
                show _ = _
                have h : zret1 H.length (yres C fn.results.toList t H' fun l => some (.ret, oneE (retV l), H')) = some r := h
                rcases yres_eq (C := C) h5 H' fn.results.toList (fun l => some (.ret, oneE (retV l), H')) with h6 | ⟨l, h6, h7⟩
                · rw [h6] at h; cases h
                · rw [h7] at h
                  simp only [h6]
                  exact h
theorem tossAt_lt {C : Ctx} {nt : Nat} {a : Code} {a0 d : Nat} : True := trivial
theorem ycode_ok (C : Ctx) (L : XCall) (n : Nat) : RunOk (ycode C L n) (xcode C L n) := by
  induction n with
  | zero => exact fun _ _ _ _ _ _ _ => .none
  | succ n ih =>
    intro nt hnt c x e H h
    have hc : SubC (ycallW (ycode C L n) L C) (xcallW (xcode C L n) L C) := ycallW_sub ih L C
    show YOK (ybody c (ycode C L n) (ycallW (ycode C L n) L C) C n nt x H) _
    cases c with
    | skip => exact .inr ⟨_, _, _, _, rfl, by simp only [xcode], h⟩
    | exit id => exact .inr ⟨_, _, _, _, rfl, by simp only [xcode], h⟩
    | label l => exact .inr ⟨_, _, _, _, rfl, by simp only [xcode], h⟩
    | goto l => exact .inr ⟨_, _, _, _, rfl, by simp only [xcode], h⟩
    | ret => exact .inr ⟨_, _, _, _, rfl, by simp only [xcode], h⟩
    | rangeFunc f p a b => exact .none
    | refuse w => exact .none
    | region id ops draw =>
      show YOK (c_region id ops draw (ycode C L n) (ycallW (ycode C L n) L C) C n nt x H) _
      unfold c_region
      simp only [xcode]
      cases draw
      · show YOK (yops C nt ops.toList ops.toList (ycallW (ycode C L n) L C) x H fun e H => some (.normal, e, H)) _
        rcases yops_spec (C := C) hnt hc ops.toList ops.toList h H (fun e H => some (.normal, e, H)) with h1 | ⟨e', H', x', h1, h2, h3⟩
        · rw [h1]; exact .none
        · rw [h3, h1]
          exact .inr ⟨_, _, _, _, rfl, rfl, h2⟩
      · show YOK (zdead _ H _) _
        rw [zdead_eq]
        rcases ydops_spec (C := C) hnt hc ops.toList ops.toList (looses ops.toList) H.length h (H ++ List.replicate (slotsOf ops.toList) (.dead 0)) (fun ms e H => @Bool.rec (fun _ => ZR) none (some (.normal, e, H)) (zdrawOk ms ops.toList)) with h1 | ⟨ms, e', H', x', h1, h2, h3⟩
        · rw [h1]; exact .none
        · rw [h3, h1]
          simp only
          cases hd : zdrawOk ms ops.toList
          · exact .none
          · rw [zdrawOk_sound ms ops.toList hd]
            exact .inr ⟨_, _, _, _, rfl, rfl, h2⟩
    | seq a b =>
      show YOK (c_seq a b (ycode C L n) (ycallW (ycode C L n) L C) C n nt x H) _
      rw [c_seq_eq]
      unfold yseqSlow
      simp only [xcode]
      cases ht : tossAt C nt a with
      | some p =>
        obtain ⟨a0, d⟩ := p
        simp only
        cases hb : Nat.blt a0 512 && Nat.blt d 512 with
        | false => exact .none
        | true =>
          rw [Bool.and_eq_true] at hb
          have ha : a0 < 512 := by simpa [Nat.blt_eq] using hb.1
          have hd : d < 512 := by simpa [Nat.blt_eq] using hb.2
          simp only
          split
          · rename_i c t f
            simp only
            cases Nat.beq c d with
            | false => exact .none
            | true => exact yboth_ok (t := ycode C L n nt t) (f := ycode C L n nt f) (t' := xcode C L n nt t) (f' := xcode C L n nt f) (fun _ _ _ q => ih nt hnt _ _ _ _ q) (fun _ _ _ q => ih nt hnt _ _ _ _ q) ha hd h H
          · rename_i c t f r
            simp only
            cases Nat.beq c d with
            | false => exact .none
            | true =>
              have hb := yboth_ok (t := ycode C L n nt t) (f := ycode C L n nt f) (t' := xcode C L n nt t) (f' := xcode C L n nt f) (fun _ _ _ q => ih nt hnt _ _ _ _ q) (fun _ _ _ q => ih nt hnt _ _ _ _ q) ha hd h H
              simp only
              rw [zthen_eq]
              rcases hb with h1 | ⟨q, y, e', H', h1, h2, h3⟩
              · rw [h1]; exact .none
              · rw [h1, h2]
                have hq : q = .normal := by
                  unfold yboth at h1
                  simp only [hcas_eq] at h1
                  split at h1
                  · split at h1
                    · split at h1
                      · injection h1 with h1; injection h1 with h1; exact h1.symm
                      · split at h1
                        · split at h1
                          · split at h1
                            · injection h1 with h1; injection h1 with h1; exact h1.symm
                            · cases h1
                          · cases h1
                        · cases h1
                    · cases h1
                  · cases h1
                subst hq
                exact ih nt hnt _ _ _ _ h3
          · exact .none
      | none =>
        simp only
        cases hn : nilTest nt a with
        | some p =>
          obtain ⟨all, pre, o, d⟩ := p
          simp only
          cases hb : Nat.blt d 512 with
          | false => exact .none
          | true =>
            have hd : d < 512 := by simpa [Nat.blt_eq] using hb
            simp only
            rcases yops_spec (C := C) hnt hc all pre h H (fun e H => zmini (tmpsOf o.op.operands.toList) e fun e0 => match asksNil C e0 o.op with
            | true => yroads (fun e H => ycode C L n nt b e H) d e H
            | false => yops C nt all [o] (ycallW (ycode C L n) L C) e H fun e H => ycode C L n nt b e H) with h1 | ⟨e', H', x', h1, h2, h3⟩
            · rw [h1]; exact .none
            · rw [h3, h1]
              simp only
              rw [zmini_eq h2]
              have hq : asksNil C (miniE (tmpsOf o.op.operands.toList) e') o.op = asksNil C e' o.op := by
                have hev : ∀ y ∈ o.op.operands, ev C (miniE (tmpsOf o.op.operands.toList) e') y = ev C e' y := fun y hy => ev_eqE y fun t ht => lk_mini e' (mem_tmpsOf (by subst ht; simpa using hy))
                unfold asksNil
                split
                · rename_i t y z hop; rw [hev y (by rw [hop]; simp [Op.operands])]
                · rename_i t y z hop; rw [hev y (by rw [hop]; simp [Op.operands])]
                · rfl
              rw [hq]
              cases asksNil C e' o.op with
              | true => exact yroads_ok (fun _ _ _ q => ih nt hnt _ _ _ _ q) hd h2 H'
              | false =>
                simp only
                rcases yops_spec (C := C) hnt hc all [o] h2 H' (fun e H => ycode C L n nt b e H) with h4 | ⟨e2, H2, x2, h4, h5, h6⟩
                · rw [h4]; exact .none
                · rw [h6, h4]
                  exact ih nt hnt _ _ _ _ h5
        | none => exact (ih nt hnt a x e H h).bind fun _ _ _ q => ih nt hnt b _ _ _ q
    | cond c t f =>
      show YOK (c_cond c t f (ycode C L n) (ycallW (ycode C L n) L C) C n nt x H) _
      unfold c_cond
      rw [mkZS_eq]
      show YOK (zs C c x _) _
      rw [zs_eq C h]
      simp only [xcode]
      unfold condV
      cases ev C e c with
      | p d =>
        cases d with
        | lit w =>
          cases w with
          | bool b =>
            cases b
            · exact ih nt hnt f x e H h
            · exact ih nt hnt t x e H h
          | _ => exact .none
        | _ => exact .none
      | _ => exact .none
    | block id c =>
      show YOK (zblk id (ycode C L n nt c x H)) _
      simp only [xcode]
      rcases ih nt hnt c x e H h with h1 | ⟨q, y, e', H', h1, h2, h3⟩
      · rw [h1]; exact .none
      · rw [h1, h2]
        cases q with
        | exit i =>
          show YOK (@Bool.rec (fun _ => ZR) (some (.exit i, y, H')) (some (.normal, y, H')) (Nat.beq i id)) _
          simp only
          cases Nat.beq i id
          · exact .inr ⟨_, _, _, _, rfl, rfl, h3⟩
          · exact .inr ⟨_, _, _, _, rfl, rfl, h3⟩
        | _ => exact .inr ⟨_, _, _, _, rfl, rfl, h3⟩
    | loop c =>
      show YOK (zloopN (ycode C L n) nt c n x H) _
      simp only [xcode]
      have key : ∀ m (x : E3) (e : Env) (H : AHeap), Rp x e → YOK (zloopN (ycode C L n) nt c m x H) (xloop (fun e H => xcode C L n nt c e H) m e H) := by
        intro m
        induction m with
        | zero => exact fun _ _ _ _ => .none
        | succ m im =>
          intro x e H h
          show YOK (zthen (ycode C L n nt c x H) (zloopN (ycode C L n) nt c m)) _
          have := (ih nt hnt c x e H h).bind (k := zloopN (ycode C L n) nt c m) (k' := xloop (fun e H => xcode C L n nt c e H) m) fun x e H q => im x e H q
          unfold xloop
          exact this
      exact key n x e H h
    | scope c =>
      show YOK (zscopeN (ycode C L n) nt c n c x H) _
      simp only [xcode]
      have key : ∀ m (c0 : Code) (x : E3) (e : Env) (H : AHeap), Rp x e → YOK (zscopeN (ycode C L n) nt c m c0 x H) (xscope (fun c e H => xcode C L n nt c e H) c m c0 e H) := by
        intro m
        induction m with
        | zero => exact fun _ _ _ _ _ => .none
        | succ m im =>
          intro c0 x e H h
          show YOK (zgoto c (ycode C L n nt c0 x H) (zscopeN (ycode C L n) nt c m)) _
          unfold xscope zgoto
          rcases ih nt hnt c0 x e H h with h1 | ⟨q, y, e', H', h1, h2, h3⟩
          · rw [h1]; exact .none
          · rw [h1, h2]
            cases q with
            | goto l =>
              simp only
              cases findLabel c l with
              | none => exact .inr ⟨_, _, _, _, rfl, rfl, h3⟩
              | some rest => exact im rest y e' H' h3
            | _ => exact .inr ⟨_, _, _, _, rfl, rfl, h3⟩
      exact key n c x e H h
noncomputable def ycall (C : Ctx) (L : XCall) (n : Nat) : XCall := ycallW (ycode C L n) L C
theorem ycall_sub (C : Ctx) (L : XCall) (n : Nat) : SubC (ycall C L n) (xcall C L n) := ycallW_sub (ycode_ok C L n) L C
theorem ycall_sound {C : Ctx} (hC : CtxOk C) {L : XCall} (hL : LibOk C L) {n f : Nat} {args : List V} {H : AHeap} {r : V} {H1 : AHeap} (h : ycall C L n f args H = some (r, H1)) : ACalls C f args H (fun v K => v = r ∧ K = H1) :=
  xcall_sound hC hL (ycall_sub C L n _ _ _ _ h)
end Go.Abs
