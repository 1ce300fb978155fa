/- The fast interpreter: regions. Printed by gen_y6.py. -/
import Derived.Test.YtpmejcfbnghaeaaGreatDoorT24
namespace Go.Abs
set_option linter.unusedVariables false
set_option linter.unusedSimpArgs false

abbrev AF := XCall → E3 → AHeap → (E3 → AHeap → ZR) → ZR
inductive Act3 where
  | mk (f : AF)
noncomputable def Act3.f (a : Act3) : AF := @Act3.rec (fun _ => AF) (fun f => f) a
noncomputable def a_go (h : YH) : AF := fun call x H k => h call x H fun _ H' => k x H'
noncomputable def a_wr (h : YH) (u : Upd) : AF := fun call x H k => h call x H fun v H' => u x v fun x => k x H'
noncomputable def a_none : AF := fun _ _ _ _ => none
noncomputable def y_tup : YH := fun _ _ H k => k (.p (.tup [])) H
noncomputable def actOf (nt : Nat) (dst : Option Nat) (hd : Hd) : Act3 := @Option.rec Nat (fun _ => Act3) (@Hd.rec (fun _ => Act3) (fun h => .mk (a_go h)) hd)
  (fun d => @Bool.rec (fun _ => Act3) (.mk a_none) (@Hd.rec (fun _ => Act3) (fun h => @ZU.rec (fun _ => Act3) (fun u => .mk (a_wr h u)) (mkUpd d)) hd) (Nat.blt d nt)) dst
noncomputable def a_guard (l : List Nat) (all : List Oper) (o : Oper) (yes no : AF) : AF := fun call x H k => zmini l x fun e => match wantB all o e with
  | some true => yes call x H k
  | some false => no call x H k
  | none => none
noncomputable def compA (C : Ctx) (nt : Nat) (all : List Oper) (o : Oper) : Act3 := @Option.rec (Nat × Bool) (fun _ => Act3) (actOf nt o.dst (compH o.op C))
  (fun _ => @Act3.rec (fun _ => Act3) (fun f => @Act3.rec (fun _ => Act3) (fun g => .mk (a_guard (readsOf all o) all o f g)) (actOf nt o.dst (.mk y_tup))) (actOf nt o.dst (compH o.op C))) o.guard
theorem Rp.set {x : E3} {e : Env} (h : Rp x e) {d : Nat} (hd : d < 512) (v : V) : Rp (x.set d v) (setE d v e) := by
  refine ⟨fun i hi => ?_, fun i hi => ?_⟩
  · rw [E3.get_set x d i v hd hi, lk_setE]
    by_cases hdi : d = i
    · rw [if_pos hdi, if_pos hdi]
    · rw [if_neg hdi, if_neg hdi, h.1 i hi]
  · rw [lk_setE, if_neg (by omega), h.2 i hi]
/-- One operation's slot written. -/
def wrE (nt : Nat) (dst : Option Nat) (v : V) (e : Env) (H : AHeap) : Option (Env × AHeap) := xwr nt dst v e fun e => some (e, H)
theorem actOf_spec {x : E3} {e : Env} (h : Rp x e) {nt : Nat} (hnt : nt ≤ 512) (dst : Option Nat) {hd : Hd} {yc : XCall} {H : AHeap} {r : Option (V × AHeap)}
    (hh : ∀ k, hd.h yc x H k = none ∨ hd.h yc x H k = ob r k) (k : E3 → AHeap → ZR) :
    (actOf nt dst hd).f yc x H k = none ∨ ∃ v H' e' x', r = some (v, H') ∧ wrE nt dst v e H' = some (e', H') ∧ Rp x' e' ∧ (actOf nt dst hd).f yc x H k = k x' H' := by
  obtain ⟨hf⟩ := hd
  unfold actOf
  cases dst with
  | none =>
    show a_go hf yc x H k = none ∨ _
    rcases hh (fun _ H' => k x H') with h1 | h1
    · exact .inl h1
    · cases r with
      | none => left; exact h1
      | some p =>
        obtain ⟨v, H'⟩ := p
        exact .inr ⟨v, H', e, x, rfl, rfl, h, h1⟩
  | some d =>
    cases hb : Nat.blt d nt
    · exact .inl (by simp only [hb]; rfl)
    · have hlt : d < nt := by simpa [Nat.blt_eq] using hb
      have hA : (@Act3.f (@Bool.rec (fun _ => Act3) (.mk a_none) (@Hd.rec (fun _ => Act3) (fun h => @ZU.rec (fun _ => Act3) (fun u => .mk (a_wr h u)) (mkUpd d)) (.mk hf)) true)) = a_wr hf (updOf d) := by
        show (@Act3.f (@ZU.rec (fun _ => Act3) (fun u => .mk (a_wr hf u)) (mkUpd d))) = _
        rw [mkUpd_eq]; rfl
      simp only [hb]
      rw [hA]
      rcases hh (fun v H' => updOf d x v fun x => k x H') with h1 | h1
      · exact .inl h1
      · cases r with
        | none => left; exact h1
        | some p =>
          obtain ⟨v, H'⟩ := p
          refine .inr ⟨v, H', setE d v e, x.set d v, rfl, ?_, h.set (by omega) v, ?_⟩
          · unfold wrE xwr
            simp only [hb, V.dcas_eq, spine_eq]
          · refine h1.trans ?_
            show updOf d x v (fun x => k x H') = _
            rw [updOf_eq d (by omega)]
def xstep (call : XCall) (C : Ctx) (nt : Nat) (all : List Oper) (o : Oper) (e : Env) (H : AHeap) : Option (Env × AHeap) := match wantB all o e with
    | some true => match xop call C o e H with
      | some (v, H') => wrE nt o.dst v e H'
      | none => none
    | some false => wrE nt o.dst (.p (.tup [])) e H
    | none => none
theorem compA_spec {C : Ctx} {x : E3} {e : Env} (h : Rp x e) {nt : Nat} (hnt : nt ≤ 512) {yc xc : XCall} (hc : SubC yc xc) (all : List Oper) (o : Oper) (H : AHeap) (k : E3 → AHeap → ZR) :
    (compA C nt all o).f yc x H k = none ∨ ∃ e' H' x', xstep xc C nt all o e H = some (e', H') ∧ Rp x' e' ∧ (compA C nt all o).f yc x H k = k x' H' := by
  have hyes := fun k => actOf_spec h hnt o.dst (hd := compH o.op C) (H := H) (fun k => compH_eq h hc H k o) k
  have hno := fun k => actOf_spec (yc := yc) h hnt o.dst (hd := .mk y_tup) (H := H) (r := some (.p (.tup []), H)) (fun k => .inr rfl) k
  unfold compA xstep
  cases hg : o.guard with
  | none =>
    have hw : wantB all o e = some true := by unfold wantB; rw [hg]
    simp only [hw]
    rcases hyes k with h1 | ⟨v, H', e', x', h1, h2, h3, h4⟩
    · exact .inl h1
    · exact .inr ⟨e', H', x', by rw [h1]; exact h2, h3, h4⟩
  | some p =>
    have hA : (@Act3.f (@Act3.rec (fun _ => Act3) (fun f => @Act3.rec (fun _ => Act3) (fun g => .mk (a_guard (readsOf all o) all o f g)) (actOf nt o.dst (.mk y_tup))) (actOf nt o.dst (compH o.op C)))) = a_guard (readsOf all o) all o (actOf nt o.dst (compH o.op C)).f (actOf nt o.dst (.mk y_tup)).f := by
      cases actOf nt o.dst (compH o.op C); cases actOf nt o.dst (.mk y_tup); rfl
    simp only
    rw [hA]
    unfold a_guard
    rw [zmini_eq h, wantB_congr (e' := e) (fun t ht => lk_mini e ht)]
    cases wantB all o e with
    | none => exact .inl rfl
    | some b =>
      cases b
      · simp only
        rcases hno k with h1 | ⟨v, H', e', x', h1, h2, h3, h4⟩
        · exact .inl h1
        · injection h1 with h1; injection h1 with h1 h1'; subst h1; subst h1'
          exact .inr ⟨e', _, x', h2, h3, h4⟩
      · simp only
        rcases hyes k with h1 | ⟨v, H', e', x', h1, h2, h3, h4⟩
        · exact .inl h1
        · exact .inr ⟨e', H', x', by rw [h1]; exact h2, h3, h4⟩
theorem xops_cons (call : XCall) (C : Ctx) (nt : Nat) (all : List Oper) (o : Oper) (r : List Oper) (e : Env) (H : AHeap) : xops call C nt all (o :: r) e H = match xstep call C nt all o e H with
    | some (e', H') => xops call C nt all r e' H'
    | none => none := by
  conv => lhs; unfold xops
  unfold xstep wrE xwr
  cases wantB all o e with
  | none => rfl
  | some b =>
    cases b
    · simp only [V.dcas_eq, spine_eq, xwr]
      cases o.dst with
      | none => rfl
      | some d => simp only; cases Nat.blt d nt <;> rfl
    · simp only [heapC_eq, V.dcas_eq, spine_eq, xwr]
      cases xop call C o e H with
      | none => rfl
      | some p =>
        obtain ⟨v, H'⟩ := p
        simp only
        cases o.dst with
        | none => rfl
        | some d => simp only; cases Nat.blt d nt <;> rfl
noncomputable def yops (C : Ctx) (nt : Nat) (all : List Oper) (l : List Oper) : AF := @List.rec Oper (fun _ => AF) (fun _ x H k => k x H)
  (fun o _ ih call x H k => @Act3.rec (fun _ => ZR) (fun f => f call x H fun x H => ih call x H k) (compA C nt all o)) l
theorem yops_spec {C : Ctx} {nt : Nat} (hnt : nt ≤ 512) {yc xc : XCall} (hc : SubC yc xc) (all : List Oper) (l : List Oper) {x : E3} {e : Env} (h : Rp x e) (H : AHeap) (k : E3 → AHeap → ZR) :
    yops C nt all l yc x H k = none ∨ ∃ e' H' x', xops xc C nt all l e H = some (e', H') ∧ Rp x' e' ∧ yops C nt all l yc x H k = k x' H' := by
  induction l generalizing x e H with
  | nil => exact .inr ⟨e, H, x, rfl, h, rfl⟩
  | cons o r ih =>
    have hA : yops C nt all (o :: r) yc x H k = (compA C nt all o).f yc x H fun x H => yops C nt all r yc x H k := by
      show (@Act3.rec (fun _ => ZR) (fun f => f yc x H fun x H => yops C nt all r yc x H k) (compA C nt all o)) = _
      cases compA C nt all o; rfl
    rw [hA, xops_cons]
    rcases compA_spec h hnt hc all o H (fun x H => yops C nt all r yc x H k) with h1 | ⟨e', H', x', h1, h2, h3⟩
    · exact .inl h1
    · rw [h3, h1]
      exact ih h2 H'
/-! Regions that draw -/
abbrev KM := Md → V → AHeap → ZR
abbrev DH := XCall → Nat → E3 → AHeap → KM → ZR
inductive DHd where
  | mk (h : DH)
noncomputable def DHd.h (z : DHd) : DH := @DHd.rec (fun _ => DH) (fun s => s) z
def obM (x : Option (Md × V × AHeap)) (k : KM) : ZR := match x with
  | some (m, v, H) => k m v H
  | none => none
noncomputable def d_old (h : YH) : DH := fun call _ x H k => h call x H fun v H' => k (.old 2) v H'
noncomputable def d_pure (h : YH) : DH := fun call _ x H k => h call x H fun v _ => k (.old 0) v H
noncomputable def d_load (s : Sel) (h : YH) : DH := fun call _ x H k => s x fun av => h call x H fun v _ => zaddr av (fun b _ _ => k (.loc [b] [] false 0) v H) (fun _ => k (.old 0) v H) none
noncomputable def d_store (s : Sel) (h : YH) : DH := fun call _ x H k => s x fun av => h call x H fun v H' => zaddr av (fun b _ _ => k (.loc [] [b] false 0) v H') (fun _ => none) none
/-- The block that may have changed. -/
noncomputable def d_slow (C : Ctx) (l : List Nat) (o : Oper) : DH := fun call slot x H k => zmini l x fun e => obM (xmode call C true slot o e H) fun m v H' => zspH H' fun H' => vdc v fun v => zhp H' (vblk v) fun H' => k m v H'
def pureOp : Op → Bool
  | .move _ => true
  | .assign _ => true
  | .nilCheck _ => true
  | .binOp _ _ _ _ _ => true
  | .unOp _ _ _ => true
  | .fieldAddr _ _ _ => true
  | .field _ _ _ => true
  | .indexAddr _ _ _ => true
  | .index _ _ _ => true
  | .extract _ _ => true
  | _ => false
def ldOf : Op → Option Operand
  | .load _ a => some a
  | _ => none
def stOf : Op → Option Operand
  | .store _ a _ => some a
  | _ => none
noncomputable def toD (h : DH) : DHd := .mk h
noncomputable def compM (C : Ctx) (all : List Oper) (o : Oper) (loose : Bool) : DHd := @Bool.rec (fun _ => DHd)
  (@Hd.rec (fun _ => DHd) (fun h => .mk (d_old h)) (compH o.op C))
  (@Bool.rec (fun _ => DHd)
    (@Option.rec Operand (fun _ => DHd)
      (@Option.rec Operand (fun _ => DHd) (.mk (d_slow C (readsOf all o) o))
        (fun a => @ZS.rec (fun _ => DHd) (fun s => @Hd.rec (fun _ => DHd) (fun h => .mk (d_store s h)) (compH o.op C)) (mkZS C a)) (stOf o.op))
      (fun a => @ZS.rec (fun _ => DHd) (fun s => @Hd.rec (fun _ => DHd) (fun h => .mk (d_load s h)) (compH o.op C)) (mkZS C a)) (ldOf o.op))
    (@Hd.rec (fun _ => DHd) (fun h => .mk (d_pure h)) (compH o.op C)) (pureOp o.op)) loose
def shift (H : AHeap) (x : Option (V × AHeap)) : Option (V × AHeap) := match x with
  | some (v, _) => some (v, H)
  | none => none
theorem shift_pair (H K : AHeap) (m : SM V) : (pair H m).get = shift H (pair K m).get := by
  rw [pair_get, pair_get]; cases m.get <;> rfl

theorem pure_any (C : Ctx) (e : Env) (H : AHeap) (op : Op) (hp : pureOp op = true) : (fop C e H op).get = shift H (fop C e [] op).get ∧ (∀ v K, (fop C e [] op).get = some (v, K) → K = []) := by
  have hk : ∀ (m : SM V) v K, (pair ([] : AHeap) m).get = some (v, K) → K = [] := by
    intro m v K h; rw [pair_get] at h; cases hm : m.get with
    | none => rw [hm] at h; cases h
    | some x => rw [hm] at h; injection h with h; injection h with _ h; exact h.symm
  cases op <;> first | (cases hp; done) | skip
  case move x => exact ⟨rfl, fun v K h => by injection h with h; injection h with _ h; exact h.symm⟩
  case assign x => exact ⟨rfl, fun v K h => by injection h with h; injection h with _ h; exact h.symm⟩
  case nilCheck x =>
    simp only [fop]
    split <;> first | exact ⟨rfl, fun v K h => by injection h with h; injection h with _ h; exact h.symm⟩ | exact ⟨rfl, fun v K h => by cases h⟩
  case binOp op t x y u =>
    simp only [fop]
    split <;> exact ⟨shift_pair _ _ _, hk _⟩
  case unOp op t x =>
    simp only [fop]
    split <;> first | exact ⟨rfl, fun v K h => by injection h with h; injection h with _ h; exact h.symm⟩ | exact ⟨rfl, fun v K h => by cases h⟩
  case fieldAddr t x f =>
    simp only [fop]
    split
    · split
      · exact ⟨rfl, fun v K h => by cases h⟩
      · split <;> first | exact ⟨rfl, fun v K h => by injection h with h; injection h with _ h; exact h.symm⟩ | exact ⟨rfl, fun v K h => by cases h⟩
    · exact ⟨rfl, fun v K h => by cases h⟩
  case field t x f =>
    simp only [fop]
    split
    · split
      · split
        · split <;> first | exact ⟨rfl, fun v K h => by injection h with h; injection h with _ h; exact h.symm⟩ | exact ⟨rfl, fun v K h => by cases h⟩
        · exact ⟨rfl, fun v K h => by cases h⟩
      · exact ⟨rfl, fun v K h => by cases h⟩
    · exact ⟨rfl, fun v K h => by cases h⟩
  case indexAddr t x i =>
    simp only [fop]
    split
    · exact ⟨shift_pair _ _ _, hk _⟩
    · exact ⟨rfl, fun v K h => by cases h⟩
  case index t x i =>
    simp only [fop]
    split
    · exact ⟨shift_pair _ _ _, hk _⟩
    · exact ⟨rfl, fun v K h => by cases h⟩
  case extract x i =>
    simp only [fop]
    split
    · split <;> first | exact ⟨rfl, fun v K h => by injection h with h; injection h with _ h; exact h.symm⟩ | exact ⟨rfl, fun v K h => by cases h⟩
    · split <;> first | exact ⟨rfl, fun v K h => by injection h with h; injection h with _ h; exact h.symm⟩ | exact ⟨rfl, fun v K h => by cases h⟩
    · exact ⟨rfl, fun v K h => by cases h⟩
theorem pure_nocall (op : Op) (hp : pureOp op = true) : callOf op = none := by cases op <;> first | rfl | (cases hp; done)

theorem load_heap (C : Ctx) (t : Nat) (H K : AHeap) (v : V) (h : ∀ b ver off, v ≠ .ptr b ver off) : loadAt C H t v = loadAt C K t v := by
  unfold loadAt
  cases tyOf C t with
  | none => rfl
  | some i =>
    cases v with
    | ptr b ver off => exact absurd rfl (h b ver off)
    | p d => cases d <;> rfl
    | _ => rfl

theorem mode_pure (call : XCall) (C : Ctx) (slot : Nat) (o : Oper) (e : Env) (H : AHeap) (hp : pureOp o.op = true) (k : KM) : ob (xop call C o e H) (fun v _ => k (.old 0) v H) = obM (xmode call C true slot o e H) k := by
  obtain ⟨h1, h2⟩ := pure_any C e H o.op hp
  have hc := pure_nocall o.op hp
  have hx : xop call C o e H = (fop C e H o.op).get := by unfold xop; rw [hc]
  rw [hx, h1]
  unfold xmode
  simp only [hc]
  cases hf : (fop C e [] o.op).get with
  | some p =>
    obtain ⟨v, K⟩ := p
    have := h2 v K hf
    subst this
    rfl
  | none =>
    rw [hf] at h1
    have hn : (fop C e H o.op).get = none := h1
    cases hop : o.op <;> rw [hop] at hp <;> first | (cases hp; done) | (rw [hop] at hn; simp only [shift, ob, obM, hn])
theorem mode_load (call : XCall) (C : Ctx) (slot : Nat) (o : Oper) (t : Nat) (a : Operand) (ho : o.op = .load t a) (e : Env) (H : AHeap) (k : KM) :
    ob (xop call C o e H) (fun v _ => zaddr (ev C e a) (fun b _ _ => k (.loc [b] [] false 0) v H) (fun _ => k (.old 0) v H) none) = none ∨
    ob (xop call C o e H) (fun v _ => zaddr (ev C e a) (fun b _ _ => k (.loc [b] [] false 0) v H) (fun _ => k (.old 0) v H) none) = obM (xmode call C true slot o e H) k := by
  have hx : xop call C o e H = (fop C e H o.op).get := by unfold xop; rw [ho]; rfl
  rw [hx, ho, fop_load]
  unfold xmode
  simp only [ho, callOf, fop]
  cases hav : ev C e a with
  | ptr b ver off =>
    right
    have h0 : loadAt C [] t (.ptr b ver off) = none := by
      unfold loadAt
      cases tyOf C t <;> rfl
    rw [h0]
    simp only [SM.get]
    cases loadAt C H t (.ptr b ver off) <;> rfl
  | p d =>
    cases d with
    | rp cs =>
      right
      rw [load_heap C t H [] _ (fun _ _ _ h => by cases h)]
      generalize loadAt C [] t _ = y
      cases y <;> rfl
    | _ => left; generalize loadAt C H t _ = y; cases y <;> rfl
  | _ => left; generalize loadAt C H t _ = y; cases y <;> rfl
theorem mode_store (call : XCall) (C : Ctx) (slot : Nat) (o : Oper) (t : Nat) (a bb : Operand) (ho : o.op = .store t a bb) (e : Env) (H : AHeap) (k : KM) :
    ob (xop call C o e H) (fun v H' => zaddr (ev C e a) (fun b _ _ => k (.loc [] [b] false 0) v H') (fun _ => none) none) = none ∨
    ob (xop call C o e H) (fun v H' => zaddr (ev C e a) (fun b _ _ => k (.loc [] [b] false 0) v H') (fun _ => none) none) = obM (xmode call C true slot o e H) k := by
  have hx : xop call C o e H = (fop C e H o.op).get := by unfold xop; rw [ho]; rfl
  rw [hx, ho]
  unfold xmode
  simp only [ho, callOf]
  have h0 : (fop C e [] (.store t a bb)).get = none := by
    simp only [fop]
    cases tyOf C t with
    | none => rfl
    | some i =>
      simp only
      cases (ev C e bb).flat with
      | none => rfl
      | some l =>
        simp only
        cases Nat.beq l.length i.size with
        | false => rfl
        | true =>
          simp only
          cases ev C e a <;> rfl
  rw [h0]
  simp only
  cases ev C e a with
  | ptr b ver off =>
    right
    cases (fop C e H (.store t a bb)).get <;> rfl
  | p d =>
    left
    cases (fop C e H (.store t a bb)).get with
    | none => rfl
    | some p => cases d <;> rfl
  | _ =>
    left
    cases (fop C e H (.store t a bb)).get <;> rfl
/-- More calls answered: more is told. -/
theorem xlent_sub {yc xc : XCall} (hc : SubC yc xc) (g : Nat) (args : List V) (H : AHeap) (r : Md × V × AHeap) (h : xlent yc g args H = some r) : xlent xc g args H = some r := by
  unfold xlent at *
  simp only [spine_eq, vspine_eq, hdcas_eq] at *
  cases hp : picks H (reach 2000 H (idsOf args []) []) with
  | none => rw [hp] at h; cases h
  | some O =>
    rw [hp] at h
    simp only at h ⊢
    split at h
    · rename_i hb
      try rw [hb]
      try simp only
      split at h
      · rename_i r1 H1 hcall
        rw [hc _ _ _ _ hcall]
        exact h
      · cases h
    · cases h
theorem xop_sub {yc xc : XCall} (hc : SubC yc xc) (C : Ctx) (o : Oper) (e : Env) (H : AHeap) (r : V × AHeap) (h : xop yc C o e H = some r) : xop xc C o e H = some r := by
  unfold xop at *
  split at h
  · rename_i f args hco
    split at h
    · rename_i g caps hf
      rw [spine_eq] at *
      cases hg : C.fns g
      · rw [hg] at h; exact h
      · rw [hg] at h; exact hc _ _ _ _ h
    · cases h
  · exact h
theorem xmode_sub {yc xc : XCall} (hc : SubC yc xc) (C : Ctx) (slot : Nat) (o : Oper) (e : Env) (H : AHeap) (r : Md × V × AHeap) (h : xmode yc C true slot o e H = some r) : xmode xc C true slot o e H = some r := by
  unfold xmode at *
  simp only at h ⊢
  split at h
  · rename_i f args hco
    split at h
    · rename_i g caps hf
      cases hg : C.fns g
      · rw [hg] at h; exact h
      · rw [hg] at h
        simp only at h ⊢
        split at h
        · rename_i ds hds
          split at h
          · rename_i r1 K hcall
            rw [hc _ _ _ _ hcall]
            simp only
            split at h
            · exact h
            · split at h
              · exact h
              · exact xlent_sub hc _ _ _ _ h
          · cases h
        · exact xlent_sub hc _ _ _ _ h
    · cases h
  · exact h
theorem xmode_congr (call : XCall) (C : Ctx) (slot : Nat) (o : Oper) {e e' : Env} (H : AHeap) (h : ∀ x ∈ o.op.operands, ev C e x = ev C e' x) : xmode call C true slot o e H = xmode call C true slot o e' H := by
  unfold xmode
  simp only
  cases hco : callOf o.op with
  | some p =>
    obtain ⟨f, args⟩ := p
    obtain ⟨ts, ho⟩ := callOf_some hco
    have hf : ev C e f = ev C e' f := h f (by rw [ho]; simp [Op.operands, Call.operands])
    have ha : args.map (ev C e) = args.map (ev C e') := List.map_congr_left fun x hx => h x (by rw [ho]; simp [Op.operands, Call.operands]; exact .inr hx)
    simp only [hf, ha]
  | none =>
    simp only
    have hfop : ∀ K, fop C e K o.op = fop C e' K o.op := fun K => fop_congr h
    cases hop : o.op <;> rw [hop] at h hfop
    case load t a =>
      have ha : ev C e a = ev C e' a := h a (by simp [Op.operands])
      simp only [hfop, ha]
    case store t a b =>
      have ha : ev C e a = ev C e' a := h a (by simp [Op.operands])
      simp only [hfop, ha]
    all_goals simp only [hfop]
theorem compM_spec {C : Ctx} {x : E3} {e : Env} (h : Rp x e) {yc xc : XCall} (hc : SubC yc xc) (all : List Oper) (o : Oper) (loose : Bool) (slot : Nat) (H : AHeap) (k : KM) :
    (compM C all o loose).h yc slot x H k = none ∨ (compM C all o loose).h yc slot x H k = obM (xmode xc C loose slot o e H) k := by
  unfold compM
  have hH := fun k => compH_eq (C := C) h hc H k o
  cases hcc : compH o.op C with
  | mk hf =>
  rw [hcc] at hH
  cases loose
  · show d_old hf yc slot x H k = none ∨ d_old hf yc slot x H k = _
    rcases hH (fun v H' => k (.old 2) v H') with h1 | h1
    · exact .inl h1
    · right
      refine h1.trans ?_
      unfold xmode
      cases xop xc C o e H <;> rfl
  · simp only
    cases hp : pureOp o.op
    · simp only
      cases hl : ldOf o.op with
      | some a =>
        simp only [mkZS_eq]
        show d_load (zs C a) hf yc slot x H k = none ∨ d_load (zs C a) hf yc slot x H k = _
        unfold d_load
        rw [zs_eq C h]
        have hop : ∃ t, o.op = .load t a := by
          cases hop : o.op <;> rw [hop] at hl <;> first | (cases hl; done) | (injection hl with hl; subst hl; exact ⟨_, rfl⟩)
        obtain ⟨t, hop⟩ := hop
        rcases hH (fun v _ => zaddr (ev C e a) (fun b _ _ => k (.loc [b] [] false 0) v H) (fun _ => k (.old 0) v H) none) with h1 | h1
        · exact .inl h1
        · have h1 : hf yc x H (fun v _ => zaddr (ev C e a) (fun b _ _ => k (.loc [b] [] false 0) v H) (fun _ => k (.old 0) v H) none) = _ := h1
          rw [h1]
          exact mode_load xc C slot o t a hop e H k
      | none =>
        simp only
        cases hs : stOf o.op with
        | some a =>
          simp only [mkZS_eq]
          show d_store (zs C a) hf yc slot x H k = none ∨ d_store (zs C a) hf yc slot x H k = _
          unfold d_store
          rw [zs_eq C h]
          have hop : ∃ t b, o.op = .store t a b := by
            cases hop : o.op <;> rw [hop] at hs <;> first | (cases hs; done) | (injection hs with hs; subst hs; exact ⟨_, _, rfl⟩)
          obtain ⟨t, b, hop⟩ := hop
          rcases hH (fun v H' => zaddr (ev C e a) (fun b _ _ => k (.loc [] [b] false 0) v H') (fun _ => none) none) with h1 | h1
          · exact .inl h1
          · have h1 : hf yc x H (fun v H' => zaddr (ev C e a) (fun b _ _ => k (.loc [] [b] false 0) v H') (fun _ => none) none) = _ := h1
            rw [h1]
            exact mode_store xc C slot o t a b hop e H k
        | none =>
          show d_slow C (readsOf all o) o yc slot x H k = none ∨ d_slow C (readsOf all o) o yc slot x H k = _
          unfold d_slow
          rw [zmini_eq h, xmode_congr yc C slot o H (e' := e) (ev_reads (all := all) fun t ht => lk_mini e ht)]
          cases hx : xmode yc C true slot o e H with
          | none => exact .inl rfl
          | some r =>
            right
            rw [xmode_sub hc C slot o e H r hx]
            obtain ⟨m, v, H'⟩ := r
            show (zspH H' fun H' => vdc v fun v => zhp H' (vblk v) fun H' => k m v H') = _
            rw [zspH_eq, vdc_eq, zhp_eq]; rfl
    · simp only
      show d_pure hf yc slot x H k = none ∨ d_pure hf yc slot x H k = _
      rcases hH (fun v _ => k (.old 0) v H) with h1 | h1
      · exact .inl h1
      · right
        refine h1.trans ?_
        exact mode_pure xc C slot o e H hp k
abbrev DF := XCall → Nat → E3 → AHeap → (Md → E3 → AHeap → ZR) → ZR
inductive DAct where
  | mk (f : DF)
noncomputable def DAct.f (a : DAct) : DF := @DAct.rec (fun _ => DF) (fun f => f) a
noncomputable def b_go (h : DH) : DF := fun call slot x H k => h call slot x H fun m _ H' => k m x H'
noncomputable def b_wr (h : DH) (u : Upd) : DF := fun call slot x H k => h call slot x H fun m v H' => u x v fun x => k m x H'
noncomputable def b_none : DF := fun _ _ _ _ _ => none
noncomputable def d_tup : DH := fun _ _ _ H k => k (.old 0) (.p (.tup [])) H
noncomputable def dactOf (nt : Nat) (dst : Option Nat) (hd : DHd) : DAct := @Option.rec Nat (fun _ => DAct) (@DHd.rec (fun _ => DAct) (fun h => .mk (b_go h)) hd)
  (fun d => @Bool.rec (fun _ => DAct) (.mk b_none) (@DHd.rec (fun _ => DAct) (fun h => @ZU.rec (fun _ => DAct) (fun u => .mk (b_wr h u)) (mkUpd d)) hd) (Nat.blt d nt)) dst
noncomputable def b_guard (l : List Nat) (all : List Oper) (o : Oper) (yes no : DF) : DF := fun call slot x H k => zmini l x fun e => match wantB all o e with
  | some true => yes call slot x H k
  | some false => no call slot x H k
  | none => none
noncomputable def compD (C : Ctx) (nt : Nat) (all : List Oper) (o : Oper) (loose : Bool) : DAct := @Option.rec (Nat × Bool) (fun _ => DAct) (dactOf nt o.dst (compM C all o loose))
  (fun _ => @DAct.rec (fun _ => DAct) (fun f => @DAct.rec (fun _ => DAct) (fun g => .mk (b_guard (readsOf all o) all o f g)) (dactOf nt o.dst (.mk d_tup))) (dactOf nt o.dst (compM C all o loose))) o.guard
theorem dactOf_spec {x : E3} {e : Env} (h : Rp x e) {nt : Nat} (hnt : nt ≤ 512) (dst : Option Nat) {hd : DHd} {yc : XCall} {slot : Nat} {H : AHeap} {r : Option (Md × V × AHeap)}
    (hh : ∀ k, hd.h yc slot x H k = none ∨ hd.h yc slot x H k = obM r k) (k : Md → E3 → AHeap → ZR) :
    (dactOf nt dst hd).f yc slot x H k = none ∨ ∃ m v H' e' x', r = some (m, v, H') ∧ wrE nt dst v e H' = some (e', H') ∧ Rp x' e' ∧ (dactOf nt dst hd).f yc slot x H k = k m x' H' := by
  obtain ⟨hf⟩ := hd
  unfold dactOf
  cases dst with
  | none =>
    show b_go hf yc slot x H k = none ∨ _
    rcases hh (fun m _ H' => k m x H') with h1 | h1
    · exact .inl h1
    · cases r with
      | none => left; exact h1
      | some p =>
        obtain ⟨m, v, H'⟩ := p
        exact .inr ⟨m, v, H', e, x, rfl, rfl, h, h1⟩
  | some d =>
    cases hb : Nat.blt d nt
    · exact .inl (by simp only [hb]; rfl)
    · have hlt : d < nt := by simpa [Nat.blt_eq] using hb
      have hA : (@DAct.f (@Bool.rec (fun _ => DAct) (.mk b_none) (@DHd.rec (fun _ => DAct) (fun h => @ZU.rec (fun _ => DAct) (fun u => .mk (b_wr h u)) (mkUpd d)) (.mk hf)) true)) = b_wr hf (updOf d) := by
        show (@DAct.f (@ZU.rec (fun _ => DAct) (fun u => .mk (b_wr hf u)) (mkUpd d))) = _
        rw [mkUpd_eq]; rfl
      simp only [hb]
      rw [hA]
      rcases hh (fun m v H' => updOf d x v fun x => k m x H') with h1 | h1
      · exact .inl h1
      · cases r with
        | none => left; exact h1
        | some p =>
          obtain ⟨m, v, H'⟩ := p
          refine .inr ⟨m, v, H', setE d v e, x.set d v, rfl, ?_, h.set (by omega) v, ?_⟩
          · unfold wrE xwr
            simp only [hb, V.dcas_eq, spine_eq]
          · refine h1.trans ?_
            show updOf d x v (fun x => k m x H') = _
            rw [updOf_eq d (by omega)]
def xdstep (call : XCall) (C : Ctx) (nt : Nat) (all : List Oper) (loose : Bool) (slot : Nat) (o : Oper) (e : Env) (H : AHeap) : Option (Md × Env × AHeap) := match wantB all o e with
    | some true => match xmode call C loose slot o e H with
      | some (m, v, H') => match wrE nt o.dst v e H' with
        | some (e', H') => some (m, e', H')
        | none => none
      | none => none
    | some false => match wrE nt o.dst (.p (.tup [])) e H with
        | some (e', H') => some (.old 0, e', H')
        | none => none
    | none => none
theorem compD_spec {C : Ctx} {x : E3} {e : Env} (h : Rp x e) {nt : Nat} (hnt : nt ≤ 512) {yc xc : XCall} (hc : SubC yc xc) (all : List Oper) (o : Oper) (loose : Bool) (slot : Nat) (H : AHeap) (k : Md → E3 → AHeap → ZR) :
    (compD C nt all o loose).f yc slot x H k = none ∨ ∃ m e' H' x', xdstep xc C nt all loose slot o e H = some (m, e', H') ∧ Rp x' e' ∧ (compD C nt all o loose).f yc slot x H k = k m x' H' := by
  have hyes := fun k => dactOf_spec h hnt o.dst (hd := compM C all o loose) (H := H) (slot := slot) (fun k => compM_spec h hc all o loose slot H k) k
  have hno := fun k => dactOf_spec (yc := yc) (slot := slot) h hnt o.dst (hd := .mk d_tup) (H := H) (r := some (.old 0, .p (.tup []), H)) (fun k => .inr rfl) k
  unfold compD xdstep
  cases hg : o.guard with
  | none =>
    have hw : wantB all o e = some true := by unfold wantB; rw [hg]
    simp only [hw]
    rcases hyes k with h1 | ⟨m, v, H', e', x', h1, h2, h3, h4⟩
    · exact .inl h1
    · exact .inr ⟨m, e', H', x', by rw [h1]; simp only [h2], h3, h4⟩
  | some p =>
    have hA : (@DAct.f (@DAct.rec (fun _ => DAct) (fun f => @DAct.rec (fun _ => DAct) (fun g => .mk (b_guard (readsOf all o) all o f g)) (dactOf nt o.dst (.mk d_tup))) (dactOf nt o.dst (compM C all o loose)))) = b_guard (readsOf all o) all o (dactOf nt o.dst (compM C all o loose)).f (dactOf nt o.dst (.mk d_tup)).f := by
      cases dactOf nt o.dst (compM C all o loose); cases dactOf nt o.dst (.mk d_tup); rfl
    simp only
    rw [hA]
    unfold b_guard
    rw [zmini_eq h, wantB_congr (e' := e) (fun t ht => lk_mini e ht)]
    cases wantB all o e with
    | none => exact .inl rfl
    | some b =>
      cases b
      · simp only
        rcases hno k with h1 | ⟨m, v, H', e', x', h1, h2, h3, h4⟩
        · exact .inl h1
        · injection h1 with h1; injection h1 with h0 h1; injection h1 with h1 h1'; subst h0; subst h1; subst h1'
          exact .inr ⟨_, e', _, x', by simp only [h2], h3, h4⟩
      · simp only
        rcases hyes k with h1 | ⟨m, v, H', e', x', h1, h2, h3, h4⟩
        · exact .inl h1
        · exact .inr ⟨m, e', H', x', by rw [h1]; simp only [h2], h3, h4⟩
theorem xdops_cons (call : XCall) (C : Ctx) (nt : Nat) (all : List Oper) (slot : Nat) (ls : List Bool) (o : Oper) (r : List Oper) (e : Env) (H : AHeap) (hsl : wantB all o e = some false → isAlloc o.op = false) :
    xdops call C nt all slot ls (o :: r) e H = match xdstep call C nt all (ls.headD true) slot o e H with
    | some (m, e', H') => match xdops call C nt all (match isAlloc o.op with
          | true => slot + 1
          | false => slot) ls.tail r e' H' with
      | some (ms, e, H) => some (m :: ms, e, H)
      | none => none
    | none => none := by
  conv => lhs; unfold xdops
  unfold xdstep wrE xwr
  cases hw : wantB all o e with
  | none => rfl
  | some b =>
    cases b
    · rw [hsl hw]
      simp only [V.dcas_eq, spine_eq, xwr]
      cases o.dst with
      | none => rfl
      | some d => simp only; cases Nat.blt d nt <;> rfl
    · simp only [heapC_eq, V.dcas_eq, spine_eq, xwr]
      cases xmode call C (ls.headD true) slot o e H with
      | none => rfl
      | some p =>
        obtain ⟨m, v, H'⟩ := p
        simp only
        cases o.dst with
        | none => rfl
        | some d => simp only; cases Nat.blt d nt <;> rfl
/-- No variable is made under a guard. -/
def noGA (o : Oper) : Bool := match isAlloc o.op with
  | true => o.guard.isNone
  | false => true
noncomputable def ydops (C : Ctx) (nt : Nat) (all : List Oper) (l : List Oper) : List Bool → XCall → Nat → E3 → AHeap → (List Md → E3 → AHeap → ZR) → ZR :=
  @List.rec Oper (fun _ => List Bool → XCall → Nat → E3 → AHeap → (List Md → E3 → AHeap → ZR) → ZR) (fun _ _ _ x H k => k [] x H)
  (fun o _ ih ls call slot x H k => @Bool.rec (fun _ => ZR) none (@DAct.rec (fun _ => ZR) (fun f => f call slot x H fun m x H => ih ls.tail call (@Bool.rec (fun _ => Nat) slot (Nat.succ slot) (isAlloc o.op)) x H fun ms x H => k (m :: ms) x H) (compD C nt all o (ls.headD true))) (noGA o)) l
theorem ydops_spec {C : Ctx} {nt : Nat} (hnt : nt ≤ 512) {yc xc : XCall} (hc : SubC yc xc) (all : List Oper) (l : List Oper) (ls : List Bool) (slot : Nat) {x : E3} {e : Env} (h : Rp x e) (H : AHeap) (k : List Md → E3 → AHeap → ZR) :
    ydops C nt all l ls yc slot x H k = none ∨ ∃ ms e' H' x', xdops xc C nt all slot ls l e H = some (ms, e', H') ∧ Rp x' e' ∧ ydops C nt all l ls yc slot x H k = k ms x' H' := by
  induction l generalizing ls slot x e H k with
  | nil => exact .inr ⟨[], e, H, x, rfl, h, rfl⟩
  | cons o r ih =>
    cases hn : noGA o
    · left
      show (@Bool.rec (fun _ => ZR) none _ (noGA o)) = _
      rw [hn]
    · have hsl : wantB all o e = some false → isAlloc o.op = false := by
        intro hw
        unfold noGA at hn
        cases ha : isAlloc o.op
        · rfl
        · rw [ha] at hn
          simp only at hn
          unfold wantB at hw
          cases hg : o.guard with
          | none => rw [hg] at hw; cases hw
          | some p => rw [hg] at hn; cases hn
      have hA : ydops C nt all (o :: r) ls yc slot x H k = (compD C nt all o (ls.headD true)).f yc slot x H fun m x H => ydops C nt all r ls.tail yc (match isAlloc o.op with
          | true => slot + 1
          | false => slot) x H fun ms x H => k (m :: ms) x H := by
        show (@Bool.rec (fun _ => ZR) none (@DAct.rec (fun _ => ZR) (fun f => f yc slot x H fun m x H => ydops C nt all r ls.tail yc (@Bool.rec (fun _ => Nat) slot (Nat.succ slot) (isAlloc o.op)) x H fun ms x H => k (m :: ms) x H) (compD C nt all o (ls.headD true))) (noGA o)) = _
        rw [hn]
        cases compD C nt all o (ls.headD true)
        cases isAlloc o.op <;> rfl
      rw [hA, xdops_cons _ _ _ _ _ _ _ _ _ _ hsl]
      rcases compD_spec h hnt hc all o (ls.headD true) slot H (fun m x H => ydops C nt all r ls.tail yc (match isAlloc o.op with
          | true => slot + 1
          | false => slot) x H fun ms x H => k (m :: ms) x H) with h1 | ⟨m, e', H', x', h1, h2, h3⟩
      · exact .inl h1
      · rw [h3, h1]
        rcases ih ls.tail (match isAlloc o.op with
          | true => slot + 1
          | false => slot) h2 H' (fun ms x H => k (m :: ms) x H) with h4 | ⟨ms, e2, H2, x2, h4, h5, h6⟩
        · exact .inl h4
        · exact .inr ⟨m :: ms, e2, H2, x2, by simp only [h4], h5, h6⟩

/-! Are the orders all one? What hangs on the text alone, and which pairs are to be looked at. -/
def dstat (ops : List Oper) : Bool :=
  (List.range ops.length).all fun j => match ops[j]? with
    | some oj => oj.after.toList.all (fun e => !Region.binds .any e || Nat.blt e.on j) && (List.range j).all fun i => ((masks [] ops).getD j 0).testBit i || match ops[i]? with
      | some oi => disj oi.dst (readsOf ops oj) && disj oj.dst (readsOf ops oi) && disj oi.dst oj.dst.toList
      | none => true
    | none => true
def dpairs (ops : List Oper) : List (Nat × Nat) :=
  (List.range ops.length).flatMap fun j => ((List.range j).filter fun i => !((masks [] ops).getD j 0).testBit i).map fun i => (i, j)
noncomputable def zm0 (m : Md) : Bool := @Md.rec (fun _ => Bool) (fun m => @Nat.rec (fun _ => Bool) true (fun _ _ => false) m) (fun _ _ _ _ => false) m
theorem zm0_spec {m : Md} (h : zm0 m = true) : m = .old 0 := by
  cases m with
  | old m => cases m with
    | zero => rfl
    | succ m => cases h
  | loc => cases h
noncomputable def zmd (ms : List Md) : Nat → (Md → Bool) → Bool := @List.rec Md (fun _ => Nat → (Md → Bool) → Bool) (fun _ k => k (.old 2)) (fun m _ ih i k => @Nat.rec (fun _ => Bool) (k m) (fun j _ => ih j k) i) ms
theorem zmd_eq (ms : List Md) (i : Nat) (k : Md → Bool) : zmd ms i k = k (ms.getD i (.old 2)) := by
  induction ms generalizing i with
  | nil => rfl
  | cons m r ih => cases i with
    | zero => rfl
    | succ j => exact ih j
noncomputable def zmdOk (a b : Md) : Bool := @Bool.rec (fun _ => Bool) (@Bool.rec (fun _ => Bool) (mdOk a b) true (zm0 b)) true (zm0 a)
theorem zmdOk_eq (a b : Md) : zmdOk a b = mdOk a b := by
  unfold zmdOk
  cases ha : zm0 a
  · cases hb : zm0 b
    · rfl
    · rw [zm0_spec hb]; cases a <;> simp [mdOk]
  · rw [zm0_spec ha]; cases b <;> simp [mdOk]
noncomputable def zpairs (ms : List Md) (l : List (Nat × Nat)) : Bool :=
  @List.rec (Nat × Nat) (fun _ => Bool) true (fun p _ ih => @Prod.rec Nat Nat (fun _ => Bool) (fun i j => zmd ms i fun a => zmd ms j fun b => @Bool.rec (fun _ => Bool) false ih (zmdOk a b)) p) l
theorem zpairs_eq (ms : List Md) (l : List (Nat × Nat)) : zpairs ms l = l.all fun p => mdOk (ms.getD p.1 (.old 2)) (ms.getD p.2 (.old 2)) := by
  induction l with
  | nil => rfl
  | cons p r ih =>
    obtain ⟨i, j⟩ := p
    show (zmd ms i fun a => zmd ms j fun b => @Bool.rec (fun _ => Bool) false (zpairs ms r) (zmdOk a b)) = _
    rw [zmd_eq, zmd_eq, zmdOk_eq, ih, List.all_cons]
    cases mdOk (ms.getD i (.old 2)) (ms.getD j (.old 2)) <;> rfl
noncomputable def zdrawOk (ms : List Md) (ops : List Oper) : Bool := @Bool.rec (fun _ => Bool) false (zpairs ms (dpairs ops)) (dstat ops)
theorem zdrawOk_sound (ms : List Md) (ops : List Oper) (h : zdrawOk ms ops = true) : drawOk (fun i => ms.getD i (.old 2)) ops = true := by
  unfold zdrawOk at h
  cases hs : dstat ops
  · rw [hs] at h; cases h
  rw [hs] at h
  have h : zpairs ms (dpairs ops) = true := h
  rw [zpairs_eq] at h
  unfold dstat at hs
  unfold drawOk
  simp only [List.all_eq_true, List.mem_range] at hs h ⊢
  intro j hj
  have hs := hs j hj
  cases hoj : ops[j]? with
  | none => rfl
  | some oj =>
    rw [hoj] at hs
    simp only [Bool.and_eq_true, List.all_eq_true, List.mem_range] at hs ⊢
    refine ⟨hs.1, fun i hi => ?_⟩
    have h2 := hs.2 i hi
    cases ht : ((masks [] ops).getD j 0).testBit i
    · rw [ht] at h2
      simp only [Bool.false_or] at h2 ⊢
      cases hoi : ops[i]? with
      | none => rfl
      | some oi =>
        rw [hoi] at h2
        simp only [Bool.and_eq_true] at h2
        have hp := h (i, j) (by
          unfold dpairs
          rw [List.mem_flatMap]
          refine ⟨j, List.mem_range.2 hj, ?_⟩
          rw [List.mem_map]
          exact ⟨i, List.mem_filter.2 ⟨List.mem_range.2 hi, by rw [ht]; rfl⟩, rfl⟩)
        simp only [swaps, Bool.and_eq_true]
        exact ⟨⟨⟨hp, h2.1.1⟩, h2.1.2⟩, h2.2⟩
    · rfl
theorem zdrawOk_complete (ms : List Md) (ops : List Oper) (h : drawOk (fun i => ms.getD i (.old 2)) ops = true) : zdrawOk ms ops = true := by
  unfold zdrawOk
  unfold drawOk at h
  simp only [List.all_eq_true, List.mem_range] at h
  have hs : dstat ops = true := by
    unfold dstat
    simp only [List.all_eq_true, List.mem_range]
    intro j hj
    have h := h j hj
    cases hoj : ops[j]? with
    | none => rfl
    | some oj =>
      rw [hoj] at h
      simp only [Bool.and_eq_true, List.all_eq_true, List.mem_range] at h ⊢
      refine ⟨h.1, fun i hi => ?_⟩
      have h2 := h.2 i hi
      cases ht : ((masks [] ops).getD j 0).testBit i
      · rw [ht] at h2
        simp only [Bool.false_or] at h2 ⊢
        cases hoi : ops[i]? with
        | none => rfl
        | some oi =>
          rw [hoi] at h2
          simp only [swaps, Bool.and_eq_true] at h2 ⊢
          exact ⟨⟨h2.1.1.2, h2.1.2⟩, h2.2⟩
      · rfl
  rw [hs]
  show zpairs ms (dpairs ops) = true
  rw [zpairs_eq, List.all_eq_true]
  rintro ⟨i, j⟩ hp
  unfold dpairs at hp
  rw [List.mem_flatMap] at hp
  obtain ⟨j', hj', hp⟩ := hp
  rw [List.mem_map] at hp
  obtain ⟨i', hi', hp⟩ := hp
  injection hp with hp1 hp2
  subst hp1; subst hp2
  rw [List.mem_filter] at hi'
  rw [List.mem_range] at hj'
  have hi := List.mem_range.1 hi'.1
  have h := h j' hj'
  have hjl : j' < ops.length := hj'
  rw [List.getElem?_eq_getElem hjl] at h
  simp only [Bool.and_eq_true, List.all_eq_true, List.mem_range] at h
  have h2 := h.2 i' hi
  have ht : ((masks [] ops).getD j' 0).testBit i' = false := by
    have := hi'.2
    cases hb : ((masks [] ops).getD j' 0).testBit i' with
    | false => rfl
    | true => rw [hb] at this; cases this
  rw [ht] at h2
  rw [List.getElem?_eq_getElem (show i' < ops.length by omega)] at h2
  simp only [Bool.false_or, swaps, Bool.and_eq_true] at h2
  exact h2.1.1.1
theorem zdrawOk_eq (ms : List Md) (ops : List Oper) : zdrawOk ms ops = drawOk (fun i => ms.getD i (.old 2)) ops := by
  rw [Bool.eq_iff_iff]; exact ⟨zdrawOk_sound ms ops, zdrawOk_complete ms ops⟩

end Go.Abs
