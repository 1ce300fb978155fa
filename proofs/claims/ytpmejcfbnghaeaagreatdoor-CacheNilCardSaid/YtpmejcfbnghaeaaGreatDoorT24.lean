/- The fast interpreter: operations made ready once. Printed by gen_y5.py. -/
import Derived.Test.YtpmejcfbnghaeaaGreatDoorT23
namespace Go.Abs
set_option linter.unusedVariables false
set_option linter.unusedSimpArgs false
/-! Slots made ready -/
inductive ZS where
  | mk (s : Sel)
inductive ZU where
  | mk (u : Upd)
inductive Hd where
  | mk (h : YH)
inductive ZL where
  | mk (l : List Sel)
noncomputable def ZS.s (z : ZS) : Sel := @ZS.rec (fun _ => Sel) (fun s => s) z
noncomputable def ZU.u (z : ZU) : Upd := @ZU.rec (fun _ => Upd) (fun s => s) z
noncomputable def Hd.h (z : Hd) : YH := @Hd.rec (fun _ => YH) (fun s => s) z
noncomputable def ZL.l (z : ZL) : List Sel := @ZL.rec (fun _ => List Sel) (fun s => s) z
noncomputable def P1 (c : Nat) (k : (E1 → (V → ZR) → ZR) → ZS) : ZS := @Nat.rec (fun _ => ZS) (k g10) (fun c _ => @Nat.rec (fun _ => ZS) (k g11) (fun c _ => @Nat.rec (fun _ => ZS) (k g12) (fun c _ => @Nat.rec (fun _ => ZS) (k g13) (fun c _ => @Nat.rec (fun _ => ZS) (k g14) (fun c _ => @Nat.rec (fun _ => ZS) (k g15) (fun c _ => @Nat.rec (fun _ => ZS) (k g16) (fun c _ => (k g17)) c) c) c) c) c) c) c
noncomputable def P2 (c : Nat) (k : ((E1 → (V → ZR) → ZR) → E2 → (V → ZR) → ZR) → ZS) : ZS := @Nat.rec (fun _ => ZS) (k g20) (fun c _ => @Nat.rec (fun _ => ZS) (k g21) (fun c _ => @Nat.rec (fun _ => ZS) (k g22) (fun c _ => @Nat.rec (fun _ => ZS) (k g23) (fun c _ => @Nat.rec (fun _ => ZS) (k g24) (fun c _ => @Nat.rec (fun _ => ZS) (k g25) (fun c _ => @Nat.rec (fun _ => ZS) (k g26) (fun c _ => (k g27)) c) c) c) c) c) c) c
noncomputable def P3 (c : Nat) (k : ((E2 → (V → ZR) → ZR) → E3 → (V → ZR) → ZR) → ZS) : ZS := @Nat.rec (fun _ => ZS) (k g30) (fun c _ => @Nat.rec (fun _ => ZS) (k g31) (fun c _ => @Nat.rec (fun _ => ZS) (k g32) (fun c _ => @Nat.rec (fun _ => ZS) (k g33) (fun c _ => @Nat.rec (fun _ => ZS) (k g34) (fun c _ => @Nat.rec (fun _ => ZS) (k g35) (fun c _ => @Nat.rec (fun _ => ZS) (k g36) (fun c _ => (k g37)) c) c) c) c) c) c) c
noncomputable def Q1 (c : Nat) (k : (E1 → V → (E1 → ZR) → ZR) → ZU) : ZU := @Nat.rec (fun _ => ZU) (k s10) (fun c _ => @Nat.rec (fun _ => ZU) (k s11) (fun c _ => @Nat.rec (fun _ => ZU) (k s12) (fun c _ => @Nat.rec (fun _ => ZU) (k s13) (fun c _ => @Nat.rec (fun _ => ZU) (k s14) (fun c _ => @Nat.rec (fun _ => ZU) (k s15) (fun c _ => @Nat.rec (fun _ => ZU) (k s16) (fun c _ => (k s17)) c) c) c) c) c) c) c
noncomputable def Q2 (c : Nat) (k : ((E1 → V → (E1 → ZR) → ZR) → E2 → V → (E2 → ZR) → ZR) → ZU) : ZU := @Nat.rec (fun _ => ZU) (k s20) (fun c _ => @Nat.rec (fun _ => ZU) (k s21) (fun c _ => @Nat.rec (fun _ => ZU) (k s22) (fun c _ => @Nat.rec (fun _ => ZU) (k s23) (fun c _ => @Nat.rec (fun _ => ZU) (k s24) (fun c _ => @Nat.rec (fun _ => ZU) (k s25) (fun c _ => @Nat.rec (fun _ => ZU) (k s26) (fun c _ => (k s27)) c) c) c) c) c) c) c
noncomputable def Q3 (c : Nat) (k : ((E2 → V → (E2 → ZR) → ZR) → E3 → V → (E3 → ZR) → ZR) → ZU) : ZU := @Nat.rec (fun _ => ZU) (k s30) (fun c _ => @Nat.rec (fun _ => ZU) (k s31) (fun c _ => @Nat.rec (fun _ => ZU) (k s32) (fun c _ => @Nat.rec (fun _ => ZU) (k s33) (fun c _ => @Nat.rec (fun _ => ZU) (k s34) (fun c _ => @Nat.rec (fun _ => ZU) (k s35) (fun c _ => @Nat.rec (fun _ => ZU) (k s36) (fun c _ => (k s37)) c) c) c) c) c) c) c
theorem P1_eq (c : Nat) (k : (E1 → (V → ZR) → ZR) → ZS) : P1 c k = k (G1 c) := by
  rcases (show c = 0 ∨ c = 1 ∨ c = 2 ∨ c = 3 ∨ c = 4 ∨ c = 5 ∨ c = 6 ∨ ∃ m, c = m + 7 by first | omega | (rcases Nat.lt_or_ge c 7 with h | h; omega; exact .inr (.inr (.inr (.inr (.inr (.inr (.inr ⟨c - 7, by omega⟩))))))) ) with rfl | rfl | rfl | rfl | rfl | rfl | rfl | ⟨m, rfl⟩ <;> rfl
theorem P2_eq (c : Nat) (k : ((E1 → (V → ZR) → ZR) → E2 → (V → ZR) → ZR) → ZS) : P2 c k = k (G2 c) := by
  rcases (show c = 0 ∨ c = 1 ∨ c = 2 ∨ c = 3 ∨ c = 4 ∨ c = 5 ∨ c = 6 ∨ ∃ m, c = m + 7 by first | omega | (rcases Nat.lt_or_ge c 7 with h | h; omega; exact .inr (.inr (.inr (.inr (.inr (.inr (.inr ⟨c - 7, by omega⟩))))))) ) with rfl | rfl | rfl | rfl | rfl | rfl | rfl | ⟨m, rfl⟩ <;> rfl
theorem P3_eq (c : Nat) (k : ((E2 → (V → ZR) → ZR) → E3 → (V → ZR) → ZR) → ZS) : P3 c k = k (G3 c) := by
  rcases (show c = 0 ∨ c = 1 ∨ c = 2 ∨ c = 3 ∨ c = 4 ∨ c = 5 ∨ c = 6 ∨ ∃ m, c = m + 7 by first | omega | (rcases Nat.lt_or_ge c 7 with h | h; omega; exact .inr (.inr (.inr (.inr (.inr (.inr (.inr ⟨c - 7, by omega⟩))))))) ) with rfl | rfl | rfl | rfl | rfl | rfl | rfl | ⟨m, rfl⟩ <;> rfl
theorem Q1_eq (c : Nat) (k : (E1 → V → (E1 → ZR) → ZR) → ZU) : Q1 c k = k (S1 c) := by
  rcases (show c = 0 ∨ c = 1 ∨ c = 2 ∨ c = 3 ∨ c = 4 ∨ c = 5 ∨ c = 6 ∨ ∃ m, c = m + 7 by first | omega | (rcases Nat.lt_or_ge c 7 with h | h; omega; exact .inr (.inr (.inr (.inr (.inr (.inr (.inr ⟨c - 7, by omega⟩))))))) ) with rfl | rfl | rfl | rfl | rfl | rfl | rfl | ⟨m, rfl⟩ <;> rfl
theorem Q2_eq (c : Nat) (k : ((E1 → V → (E1 → ZR) → ZR) → E2 → V → (E2 → ZR) → ZR) → ZU) : Q2 c k = k (S2 c) := by
  rcases (show c = 0 ∨ c = 1 ∨ c = 2 ∨ c = 3 ∨ c = 4 ∨ c = 5 ∨ c = 6 ∨ ∃ m, c = m + 7 by first | omega | (rcases Nat.lt_or_ge c 7 with h | h; omega; exact .inr (.inr (.inr (.inr (.inr (.inr (.inr ⟨c - 7, by omega⟩))))))) ) with rfl | rfl | rfl | rfl | rfl | rfl | rfl | ⟨m, rfl⟩ <;> rfl
theorem Q3_eq (c : Nat) (k : ((E2 → V → (E2 → ZR) → ZR) → E3 → V → (E3 → ZR) → ZR) → ZU) : Q3 c k = k (S3 c) := by
  rcases (show c = 0 ∨ c = 1 ∨ c = 2 ∨ c = 3 ∨ c = 4 ∨ c = 5 ∨ c = 6 ∨ ∃ m, c = m + 7 by first | omega | (rcases Nat.lt_or_ge c 7 with h | h; omega; exact .inr (.inr (.inr (.inr (.inr (.inr (.inr ⟨c - 7, by omega⟩))))))) ) with rfl | rfl | rfl | rfl | rfl | rfl | rfl | ⟨m, rfl⟩ <;> rfl
noncomputable def mkSel (t : Nat) : ZS := P3 (Nat.div t 64) fun g3 => P2 (Nat.mod (Nat.div t 8) 8) fun g2 => P1 (Nat.mod t 8) fun g1 => ZS.mk (g3 (g2 g1))
theorem mkSel_eq (t : Nat) : mkSel t = ZS.mk (selOf t) := by unfold mkSel selOf; rw [P3_eq, P2_eq, P1_eq]
noncomputable def mkUpd (t : Nat) : ZU := Q3 (Nat.div t 64) fun g3 => Q2 (Nat.mod (Nat.div t 8) 8) fun g2 => Q1 (Nat.mod t 8) fun g1 => ZU.mk (g3 (g2 g1))
theorem mkUpd_eq (t : Nat) : mkUpd t = ZU.mk (updOf t) := by unfold mkUpd updOf; rw [Q3_eq, Q2_eq, Q1_eq]
noncomputable def mkT (t : Nat) : ZS := @Bool.rec (fun _ => ZS) (ZS.mk sTop) (mkSel t) (Nat.blt t 512)
theorem mkT_eq (t : Nat) : mkT t = ZS.mk (selZ t) := by
  unfold mkT selZ; cases Nat.blt t 512
  · rfl
  · exact mkSel_eq t
noncomputable def mkZS (C : Ctx) (x : Operand) : ZS :=
  @Operand.rec (fun _ => Ctx → ZS) (fun t _ => mkT t) (fun v _ => ZS.mk (sV (constD v))) (fun g C => ZS.mk (sV (zglob (C.glob g)))) (fun f _ => ZS.mk (sV (.p (.fn f [])))) x C
theorem mkZS_eq (C : Ctx) (x : Operand) : mkZS C x = ZS.mk (zs C x) := by
  cases x with
  | tmp t => exact mkT_eq t
  | _ => rfl
noncomputable def withS (C : Ctx) (x : Operand) (k : Sel → Hd) : Hd := @ZS.rec (fun _ => Hd) k (mkZS C x)
theorem withS_eq (C : Ctx) (x : Operand) (k : Sel → Hd) : withS C x k = k (zs C x) := by unfold withS; rw [mkZS_eq]
noncomputable def mkZL (C : Ctx) (l : List Operand) : ZL := @List.rec Operand (fun _ => ZL) (ZL.mk []) (fun x _ ih => @ZL.rec (fun _ => ZL) (fun l => @ZS.rec (fun _ => ZL) (fun s => ZL.mk (s :: l)) (mkZS C x)) ih) l
theorem mkZL_eq (C : Ctx) (l : List Operand) : mkZL C l = ZL.mk (l.map (zs C)) := by
  induction l with
  | nil => rfl
  | cons x r ih =>
    show @ZL.rec (fun _ => ZL) (fun l => @ZS.rec (fun _ => ZL) (fun s => ZL.mk (s :: l)) (mkZS C x)) (mkZL C r) = _
    rw [ih, mkZS_eq]; rfl
noncomputable def withL (C : Ctx) (l : List Operand) (k : List Sel → Hd) : Hd := @ZL.rec (fun _ => Hd) k (mkZL C l)
theorem withL_eq (C : Ctx) (l : List Operand) (k : List Sel → Hd) : withL C l k = k (l.map (zs C)) := by unfold withL; rw [mkZL_eq]
/-- Values of slots, one by one. -/
noncomputable def zsels (l : List Sel) (x : E3) : (List V → ZR) → ZR := @List.rec Sel (fun _ => (List V → ZR) → ZR) (fun k => k []) (fun s _ ih k => s x fun v => ih fun r => k (v :: r)) l
theorem zsels_eq {C : Ctx} {x : E3} {e : Env} (h : Rp x e) (l : List Operand) (k : List V → ZR) : zsels (l.map (zs C)) x k = k (l.map (ev C e)) := by
  induction l generalizing k with
  | nil => rfl
  | cons a r ih =>
    show zs C a x (fun v => zsels (r.map (zs C)) x fun r => k (v :: r)) = _
    rw [zs_eq C h, ih]; rfl
/-! By the slots that are read -/
noncomputable def zmini (l : List Nat) (x : E3) : (Env → ZR) → ZR := @List.rec Nat (fun _ => (Env → ZR) → ZR) (fun k => k []) (fun t _ ih k => selZ t x fun v => ih fun e => k ((t, v) :: e)) l
def miniE (l : List Nat) (e : Env) : Env := l.map fun t => (t, lk e t)
theorem zmini_eq {x : E3} {e : Env} (h : Rp x e) (l : List Nat) (k : Env → ZR) : zmini l x k = k (miniE l e) := by
  induction l generalizing k with
  | nil => rfl
  | cons t r ih =>
    show selZ t x (fun v => zmini r x fun e => k ((t, v) :: e)) = _
    rw [selZ_eq h, ih]; rfl
theorem lk_mini (e : Env) {l : List Nat} {t : Nat} (ht : t ∈ l) : lk (miniE l e) t = lk e t := by
  induction l with
  | nil => cases ht
  | cons a r ih =>
    show (match Nat.beq a t with
      | true => lk e a
      | false => lk (miniE r e) t) = lk e t
    cases hb : Nat.beq a t
    · have hne : a ≠ t := by intro h; subst h; simp at hb
      have : t ∈ r := by rcases List.mem_cons.1 ht with h | h; exact absurd h.symm hne; exact h
      exact ih this
    · have : a = t := by rw [← Nat.beq_eq]; exact hb
      subst this
      rfl
abbrev QF := Ctx → Env → AHeap → Option (V × AHeap)
noncomputable def y_mini (C : Ctx) (l : List Nat) (f : QF) : YH := fun _ x H k => zmini l x fun e => zkH (f C e H) k
theorem y_mini_eq {C : Ctx} {x : E3} {e : Env} (h : Rp x e) (call : XCall) (H : AHeap) (k : K2) (op : Op) (f : QF) (hf : ∀ C e H, f C e H = (fop C e H op).get) :
    y_mini C (tmpsOf op.operands.toList) f call x H k = ob (fop C e H op).get k := by
  unfold y_mini
  rw [zmini_eq h, zkH_eq, hf]
  rw [fop_congr (e := miniE (tmpsOf op.operands.toList) e) (e' := e)]
  intro o ho
  exact ev_eqE o fun t ht => lk_mini e (mem_tmpsOf (by subst ht; simpa using ho))
def q_pick (c a b : Operand) : QF := fun C e H => (match ev C e c with
    | .p (.lit (.bool t)) => match t with
      | true => .ret (ev C e a, H)
      | false => .ret (ev C e b, H)
    | _ => .fail : SM (V × AHeap)).get
def q_build (t : Nat) (parts : Array (Nat × Operand)) : QF := fun C e H => (match tyOf C t with
    | some i => match placeOf C i.kind with
      | some pl => match fillV pl (i.zero.map .p) (evParts C e parts.toList) with
        | some cs => match packV true cs with
          | some v => .ret (v, H)
          | none => .fail
        | none => .fail
      | none => .fail
    | none => .fail : SM (V × AHeap)).get
def q_buildSlice (t len : Nat) (parts : Array (Nat × Operand)) : QF := fun C e H => (match elemTI C t with
    | some ti => match fillV (fun k => some (k * ti.size, ti.size)) ((zeros len ti.zero).map .p) (evParts C e parts.toList) with
      | some cs => match toDsIf (rowLit C ti len) cs with
        | some ds => match packs ti.agg ti.size len ds with
          | some xs => .chk (decide (len * ti.size ≤ 16777216)) (.ret (.p (.sl xs true), H))
          | none => .fail
        | none => .chk (decide (len * ti.size ≤ 16777216)) (.ret (.row H.length 0 0 len ti.size, H ++ [.cells (.r (elemId C t)) 0 cs]))
      | none => .fail
    | none => .fail : SM (V × AHeap)).get
def q_makeFunc (f : Nat) (first captured : Array Operand) : QF := fun C e H => (match first.toList with
    | x :: r => match captured.toList with
      | [] => .ret (.bfn f (ev C e x :: r.map (ev C e)), H)
      | _ => .fail
    | [] => match toDs (captured.toList.map (ev C e)) with
      | some ds => .ret (.p (.fn f ds), H)
      | none => .ret (.fn f (captured.toList.map (ev C e)), H) : SM (V × AHeap)).get
def q_makeSlice (t : Nat) (l c : Operand) : QF := fun C e H => (match elemTI C t, ev C e l, ev C e c with
    | some ti, .p (.lit (.int _ n)), .p (.lit (.int _ m)) => .chk (decide (0 ≤ n ∧ n ≤ m ∧ (ti.bytes : Int) * m ≤ 140737488355328 ∧ m ≤ 140737488355328))
        (.ret (.own H.length 0 0 n.toNat ti.size (n == m), H ++ [.cells (.r (elemId C t)) 0 ((zeros n.toNat ti.zero).map .p)]))
    | _, _, _ => .fail : SM (V × AHeap)).get
def sliceS (lo hi : Option Int) (s : ByteArray) : SM V := bounds s.size s.size lo hi none fun l h _ => .ret (.p (.lit (.string ⟨⟨(s.data.toList.drop l).take (h - l)⟩⟩)))
theorem extract_list (s : ByteArray) (l h : Nat) : s.extract l h = ⟨⟨(s.data.toList.drop l).take (h - l)⟩⟩ := by
  apply ByteArray.ext
  rw [ByteArray.data_extract]
  apply Array.ext'
  rw [Array.toList_extract]
def q_slice (t : Nat) (x : Operand) (lo hi mx : Option Operand) : QF := fun C e H => match evInt C e lo, evInt C e hi, evInt C e mx with
    | some lo, some hi, some mx => match ev C e x with
      | .p (.lit (.string s)) => match (C.ty t).kind, mx with
        | .str, none => (pair H (sliceS lo hi s)).get
        | _, _ => none
      | v => (pair H (sliceOp C H t lo hi mx v)).get
    | _, _, _ => none
theorem q_slice_eq (t : Nat) (x : Operand) (lo hi mx : Option Operand) (C : Ctx) (e : Env) (H : AHeap) : q_slice t x lo hi mx C e H = (fop C e H (.slice t x lo hi mx)).get := by
  simp only [q_slice, fop]
  cases evInt C e lo <;> cases evInt C e hi <;> cases evInt C e mx <;> try rfl
  rename_i lo hi mx
  simp only
  split
  · rename_i s hs
    rw [hs]
    simp only [sliceOp, sliceS, extract_list]
    cases (C.ty t).kind <;> cases mx <;> rfl
  · rfl
def q_field (t : Nat) (x : Operand) (k : Nat) : QF := fun C e H => (match fieldOf C t k with
    | some (off, fi) => match aggOf (ev C e x) with
      | some l => match Nat.ble (off + fi.size) l.length with
        | true => match packV fi.agg ((l.drop off).take fi.size) with
          | some v => .ret (v, H)
          | none => .fail
        | false => .fail
      | none => .fail
    | none => .fail : SM (V × AHeap)).get
def q_makeInterface (t : Nat) (x : Operand) : QF := fun C e H => (match (C.ty t).kind, (ev C e x).toD with
    | .ifc, _ => .fail
    | .bad, _ => .fail
    | _, some d => .ret (.p (.ifc t d), H)
    | _, none => .fail : SM (V × AHeap)).get
def q_lookup (t : Nat) (m k : Operand) (ok : Bool) : QF := fun C e H => (pair H (lookupOp C H t (ev C e m) (ev C e k) ok)).get
def q_mapUpdate (t : Nat) (m k x : Operand) : QF := fun C e H => ((mapPut C H t (ev C e m) (ev C e k) (ev C e x)).bind fun H' => .ret (.top, H') : SM (V × AHeap)).get
def q_len (t : Nat) (x : Operand) : QF := fun C e H => (match lenV C t (ev C e x) with
    | some n => .ret (.p (.lit (.int .i64 n)), H)
    | none => match (C.ty t).kind, mapAt H (ev C e x) with
      | .map _ _, some (ks, _) => .ret (.p (.lit (.int .i64 ks.length)), H)
      | _, _ => .fail : SM (V × AHeap)).get
def q_append (t u : Nat) (s x : Operand) : QF := fun C e H => (match rowWise C t (ev C e s) with
    | true => appendRow C H t u (ev C e s) (ev C e x)
    | false => appendOp C H t u (ev C e s) (ev C e x) : SM (V × AHeap)).get
def q_copy (t u : Nat) (d x : Operand) : QF := fun C e H => (copyOp C H t u (ev C e d) (ev C e x)).get
def q_any (op : Op) : QF := fun C e H => (fop C e H op).get
/-- Calls of the language's own functions. -/
noncomputable def c_builtin (C : Ctx) (c : Call) : Hd := match c with
  | { callee := .builtin .len, args := ⟨[x]⟩, argTypes := ⟨[t]⟩ } => .mk (y_mini C (tmpsOf (Op.operands (.call { callee := .builtin .len, args := ⟨[x]⟩, argTypes := ⟨[t]⟩ })).toList) (q_len t x))
  | { callee := .builtin .append, args := ⟨[s, x]⟩, argTypes := ⟨[t, u]⟩ } => .mk (y_mini C (tmpsOf (Op.operands (.call { callee := .builtin .append, args := ⟨[s, x]⟩, argTypes := ⟨[t, u]⟩ })).toList) (q_append t u s x))
  | { callee := .builtin .copy, args := ⟨[d, x]⟩, argTypes := ⟨[t, u]⟩ } => .mk (y_mini C (tmpsOf (Op.operands (.call { callee := .builtin .copy, args := ⟨[d, x]⟩, argTypes := ⟨[t, u]⟩ })).toList) (q_copy t u d x))
  | c => .mk (y_mini C (tmpsOf (Op.operands (.call c)).toList) (q_any (.call c)))
theorem c_builtin_eq {C : Ctx} {x : E3} {e : Env} (h : Rp x e) (call : XCall) (H : AHeap) (k : K2) (c : Call) : (c_builtin C c).h call x H k = ob (fop C e H (.call c)).get k := by
  unfold c_builtin
  split
  · exact y_mini_eq h call H k (.call _) (q_len _ _) fun _ _ _ => rfl
  · exact y_mini_eq h call H k (.call _) (q_append _ _ _ _) fun _ _ _ => rfl
  · exact y_mini_eq h call H k (.call _) (q_copy _ _ _ _) fun _ _ _ => rfl
  · exact y_mini_eq h call H k (.call _) (q_any (.call _)) fun _ _ _ => rfl
/-- A call's answer. -/
noncomputable def zans (x : Option (V × AHeap)) (k : K2) : ZR := ob x fun v H' => zspH H' fun H' => vdc v fun v => k v H'
theorem zans_eq (x : Option (V × AHeap)) (k : K2) : zans x k = ob x k := by
  unfold zans ob; split
  · show (zspH _ fun H' => vdc _ fun v => k v H') = _; rw [zspH_eq, vdc_eq]
  · rfl
noncomputable def y_callF (g : Nat) (l : List Sel) : YH := fun call x H k => zsels l x fun l => zans (call g l H) k
noncomputable def y_ext (xt : Xt) (l : List Sel) : YH := fun _ x H k => zsels l x fun l => ysm (extop xt l) fun v => k v H
noncomputable def y_callV (C : Ctx) (s : Sel) (l : List Sel) : YH := fun call x H k => s x fun fv => match fnOf fv with
  | some (g, caps) => zsels l x fun l => zif (C.fns g) (zspV (caps l) fun l => zans (call g l H) k) (ysm (extop (C.ext g) (caps l)) fun v => k v H)
  | none => none
def isF (x : Operand) : Option Nat := match x with
  | .func f => some f
  | _ => none
noncomputable def c_call (C : Ctx) (c : Call) : Hd := @Option.rec (Operand × List Operand) (fun _ => Hd) (c_builtin C c)
  (fun p => @Prod.rec Operand (List Operand) (fun _ => Hd) (fun f args => withL C args fun l => @Option.rec Nat (fun _ => Hd) (withS C f fun s => .mk (y_callV C s l))
    (fun g => @Bool.rec (fun _ => Hd) (.mk (y_ext (C.ext g) l)) (.mk (y_callF g l)) (C.fns g)) (isF f)) p) (callOf (.call c))
/-- One call's answers among another's. -/
def SubC (yc xc : XCall) : Prop := ∀ f args H r, yc f args H = some r → xc f args H = some r
theorem ob_sub {a b : Option (V × AHeap)} (h : ∀ r, a = some r → b = some r) (k : K2) : ob a k = none ∨ ob a k = ob b k := by
  cases a with
  | none => exact .inl rfl
  | some r => rw [h r rfl]; exact .inr rfl
theorem c_call_eq {C : Ctx} {x : E3} {e : Env} (h : Rp x e) {yc xc : XCall} (hc : SubC yc xc) (H : AHeap) (k : K2) (c : Call) (o : Oper) (ho : o.op = .call c) :
    (c_call C c).h yc x H k = none ∨ (c_call C c).h yc x H k = ob (xop xc C o e H) k := by
  unfold c_call xop
  rw [ho]
  cases hco : callOf (.call c) with
  | none => exact .inr (c_builtin_eq h yc H k c)
  | some p =>
    obtain ⟨f, args⟩ := p
    simp only [withL_eq, withS_eq]
    cases hf : isF f with
    | none =>
      show y_callV C (zs C f) (args.map (zs C)) yc x H k = none ∨ y_callV C (zs C f) (args.map (zs C)) yc x H k = _
      unfold y_callV
      rw [zs_eq C h]
      cases fnOf (ev C e f) with
      | none => exact .inl rfl
      | some q =>
        obtain ⟨g, caps⟩ := q
        simp only [zsels_eq h, zif_eq, zspV_eq, zans_eq, ysm_eq, spine_eq]
        cases C.fns g
        · right
          simp only
          cases (extop (C.ext g) (caps (args.map (ev C e)))).get <;> rfl
        · exact ob_sub (fun r hr => hc _ _ _ _ hr) k
    | some g =>
      have : f = .func g := by
        cases f <;> simp [isF] at hf
        subst hf; rfl
      subst this
      have hfn : fnOf (ev C e (.func g)) = some (g, fun l => l ++ ([] : List D).map .p) := rfl
      rw [hfn]
      simp only [List.map_nil, List.append_nil, spine_eq]
      cases hg : C.fns g
      · right
        show y_ext (C.ext g) (args.map (zs C)) yc x H k = _
        unfold y_ext
        simp only [zsels_eq h, ysm_eq]
        cases (extop (C.ext g) (args.map (ev C e))).get <;> rfl
      · show y_callF g (args.map (zs C)) yc x H k = none ∨ y_callF g (args.map (zs C)) yc x H k = _
        unfold y_callF
        simp only [zsels_eq h, zans_eq]
        exact ob_sub (fun r hr => hc _ _ _ _ hr) k
/-! Operations made ready -/
noncomputable def c_mini (C : Ctx) (op : Op) (f : QF) : Hd := .mk (y_mini C (tmpsOf op.operands.toList) f)
noncomputable def c_bin (op : BinOp) : (C : Ctx) → Nat → Operand → Operand → Hd := @BinOp.rec (fun _ => (C : Ctx) → Nat → Operand → Operand → Hd)
  (fun C t x y => withS C x fun a => withS C y fun b => .mk (y_bin C t .add (i_of n_add .add) n_stradd a b))
  (fun C t x y => withS C x fun a => withS C y fun b => .mk (y_bin C t .sub (i_of n_sub .sub) (n_str .sub) a b))
  (fun C t x y => withS C x fun a => withS C y fun b => .mk (y_bin C t .mul (i_of n_mul .mul) (n_str .mul) a b))
  (fun C t x y => withS C x fun a => withS C y fun b => .mk (y_bin C t .quo (i_of n_quo .quo) (n_str .quo) a b))
  (fun C t x y => withS C x fun a => withS C y fun b => .mk (y_bin C t .rem (i_of n_rem .rem) (n_str .rem) a b))
  (fun C t x y => withS C x fun a => withS C y fun b => .mk (y_bin C t .and (i_of n_and .and) (n_str .and) a b))
  (fun C t x y => withS C x fun a => withS C y fun b => .mk (y_bin C t .or (i_of n_or .or) (n_str .or) a b))
  (fun C t x y => withS C x fun a => withS C y fun b => .mk (y_bin C t .xor (i_of n_xor .xor) (n_str .xor) a b))
  (fun C t x y => withS C x fun a => withS C y fun b => .mk (y_bin C t .shl i_shl (n_str .shl) a b))
  (fun C t x y => withS C x fun a => withS C y fun b => .mk (y_bin C t .shr i_shr (n_str .shr) a b))
  (fun C t x y => withS C x fun a => withS C y fun b => .mk (y_bin C t .andNot (i_of n_andNot .andNot) (n_str .andNot) a b))
  (fun C t x y => withS C x fun a => withS C y fun b => .mk (y_bin C t .eql (i_of n_eql .eql) n_streql a b))
  (fun C t x y => withS C x fun a => withS C y fun b => .mk (y_bin C t .neq (i_of n_neq .neq) (n_str .neq) a b))
  (fun C t x y => withS C x fun a => withS C y fun b => .mk (y_bin C t .lss (i_of n_lss .lss) (n_str .lss) a b))
  (fun C t x y => withS C x fun a => withS C y fun b => .mk (y_bin C t .leq (i_of n_leq .leq) (n_str .leq) a b))
  (fun C t x y => withS C x fun a => withS C y fun b => .mk (y_bin C t .gtr (i_of n_gtr .gtr) (n_str .gtr) a b))
  (fun C t x y => withS C x fun a => withS C y fun b => .mk (y_bin C t .geq (i_of n_geq .geq) (n_str .geq) a b))
  op
noncomputable def c_nil (C : Ctx) (op : BinOp) (t : Nat) (x y : Operand) (n : Nat) : Hd := @Nat.rec (fun _ => Hd) (c_bin op C t x y) (fun m _ => withS C x fun s => @Nat.rec (fun _ => Hd) (.mk (y_ifcNil C t op s)) (fun _ _ => .mk (y_slcNil C t op s)) m) n
noncomputable def compH (op : Op) : Ctx → Hd := @Op.casesOn (fun _ => Ctx → Hd) op
    /- move -/ (fun x C => withS C x fun s => .mk (y_move s))
    /- assign -/ (fun x C => withS C x fun s => .mk (y_move s))
    /- pick -/ (fun c a b C => c_mini C (.pick c a b) (q_pick c a b))
    /- alloc -/ (fun t C => @Option.rec TI (fun _ => Hd) (.mk y_none) (fun i => .mk (y_allocT t (i.zero.map .p))) (tyOf C t))
    /- box -/ (fun t x C => withS C x fun s => .mk (y_box t s))
    /- build -/ (fun t ps C => c_mini C (.build t ps) (q_build t ps))
    /- buildSlice -/ (fun t n ps C => c_mini C (.buildSlice t n ps) (q_buildSlice t n ps))
    /- insert -/ (fun t m k x C => c_mini C (.insert t m k x) (q_mapUpdate t m k x))
    /- load -/ (fun t a C => withS C a fun s => @Bool.rec (fun _ => Hd) (.mk (y_loadA C t s)) (.mk (y_load1 s)) (ld1 C t))
    /- store -/ (fun t a x C => withS C a fun s => withS C x fun s' => @Bool.rec (fun _ => Hd) (.mk (y_storeA C t s s')) (.mk (y_store1 C t s s')) (ld1 C t))
    /- ready -/ (fun g C => c_mini C (.ready g) (q_any (.ready g)))
    /- waits -/ (fun g C => c_mini C (.waits g) (q_any (.waits g)))
    /- nilCheck -/ (fun x C => withS C x fun s => .mk (y_nilCheck s))
    /- binOp -/ (fun op t x y u C => c_nil C op t x y (nilK y))
    /- unOp -/ (fun op t x C => withS C x fun s => match op with
      | .not => .mk (y_not s)
      | op => .mk (y_un op s))
    /- convert -/ (fun s d x C => withS C x fun sx => @Option.rec TI (fun _ => Hd) (.mk y_none) (fun _ => match (C.ty d).kind with
      | .int kk => .mk (y_convI C s d kk sx)
      | _ => .mk (y_convS C s d sx)) (tyOf C s))
    /- sliceToArrayPointer -/ (fun t x C => c_mini C (.sliceToArrayPointer t x) (q_any (.sliceToArrayPointer t x)))
    /- makeInterface -/ (fun t x C => c_mini C (.makeInterface t x) (q_makeInterface t x))
    /- makeFunc -/ (fun f a b C => match f with
      | .func f => c_mini C (.makeFunc (.func f) a b) (q_makeFunc f a b)
      | f => c_mini C (.makeFunc f a b) (q_any (.makeFunc f a b)))
    /- makeMap -/ (fun t r C => c_mini C (.makeMap t r) (q_any (.makeMap t r)))
    /- makeChan -/ (fun t r C => c_mini C (.makeChan t r) (q_any (.makeChan t r)))
    /- makeSlice -/ (fun t l c C => c_mini C (.makeSlice t l c) (q_makeSlice t l c))
    /- slice -/ (fun t x l h m C => c_mini C (.slice t x l h m) (q_slice t x l h m))
    /- fieldAddr -/ (fun t x f C => withS C x fun s => @Option.rec (Nat × TI) (fun _ => Hd) (.mk y_none) (fun p => @Prod.rec Nat TI (fun _ => Hd) (fun off fi => @Bool.rec (fun _ => Hd) (.mk (y_faddr off s)) (.mk y_none) (Nat.beq fi.size 0)) p) (fieldOf C t f))
    /- field -/ (fun t x f C => c_mini C (.field t x f) (q_field t x f))
    /- indexAddr -/ (fun t x i C => withS C x fun sx => withS C i fun si => .mk (y_indexAddr C t sx si))
    /- index -/ (fun t x i C => withS C x fun sx => withS C i fun si => .mk (y_index C t sx si))
    /- lookup -/ (fun t m k ok C => c_mini C (.lookup t m k ok) (q_lookup t m k ok))
    /- mapUpdate -/ (fun t m k x C => c_mini C (.mapUpdate t m k x) (q_mapUpdate t m k x))
    /- mapEntry -/ (fun t m k C => c_mini C (.mapEntry t m k) (q_any (.mapEntry t m k)))
    /- entryStore -/ (fun t m s v C => c_mini C (.entryStore t m s v) (q_any (.entryStore t m s v)))
    /- range -/ (fun t x C => c_mini C (.range t x) (q_any (.range t x)))
    /- next -/ (fun i s C => c_mini C (.next i s) (q_any (.next i s)))
    /- entry -/ (fun i C => c_mini C (.entry i) (q_any (.entry i)))
    /- typeAssert -/ (fun x t a ok C => c_mini C (.typeAssert x t a ok) (q_any (.typeAssert x t a ok)))
    /- extract -/ (fun x i C => withS C x fun s => .mk (y_extract s i))
    /- call -/ (fun c C => c_call C c)
    /- go -/ (fun c C => c_mini C (.go c) (q_any (.go c)))
    /- defer -/ (fun c C => c_mini C (.defer c) (q_any (.defer c)))
    /- panic -/ (fun x C => c_mini C (.panic x) (q_any (.panic x)))
    /- send -/ (fun c x C => c_mini C (.send c x) (q_any (.send c x)))
    /- recv -/ (fun t c ok C => c_mini C (.recv t c ok) (q_any (.recv t c ok)))
    /- select -/ (fun cs b C => c_mini C (.select cs b) (q_any (.select cs b)))
theorem c_bin_eq (op : BinOp) (C : Ctx) (t : Nat) (x y : Operand) : (c_bin op C t x y).h = y_bin C t op (zintop op) (zstrop op) (zs C x) (zs C y) := by
  cases op <;> simp only [c_bin, withS_eq] <;> rfl
theorem compH_eq {C : Ctx} {x : E3} {e : Env} (h : Rp x e) {yc xc : XCall} (hc : SubC yc xc) (H : AHeap) (k : K2) (o : Oper) :
    (compH o.op C).h yc x H k = none ∨ (compH o.op C).h yc x H k = ob (xop xc C o e H) k := by
  cases hop : o.op
  case call c => exact c_call_eq h hc H k c o hop
  all_goals
    have hx : xop xc C o e H = (fop C e H o.op).get := by unfold xop; rw [hop]; rfl
    rw [hx, hop]
  case move a => right; simp only [compH, withS_eq]; exact y_move_eq yc H k _ (zs_eq C h a)
  case assign a => right; simp only [compH, withS_eq]; exact y_move_eq yc H k _ (zs_eq C h a)
  case alloc t =>
    right
    have := y_alloc_eq (C := C) (e := e) (x := x) yc H k t
    unfold y_alloc at this
    simp only [compH]
    cases hT : tyOf C t with
    | none => rw [hT] at this; exact this
    | some i => rw [hT] at this; exact this
  case box t a => right; simp only [compH, withS_eq]; exact y_box_eq yc H k t _ (zs_eq C h a)
  case load t a =>
    right
    have := y_load_eq (C := C) (e := e) yc H k t a (zs_eq C h a)
    unfold y_load at this
    simp only [compH, withS_eq]
    cases hl : ld1 C t <;> rw [hl] at this <;> exact this
  case store t a b =>
    right
    have := y_store_eq (C := C) (e := e) yc H k t a b (zs_eq C h a) (zs_eq C h b)
    unfold y_store at this
    simp only [compH, withS_eq]
    cases hl : ld1 C t <;> rw [hl] at this <;> exact this
  case nilCheck a => right; simp only [compH, withS_eq]; exact y_nilCheck_eq yc H k _ (zs_eq C h a)
  case binOp op t a b u =>
    right
    simp only [compH, c_nil]
    cases hn : nilK b with
    | zero =>
      show (c_bin op C t a b).h yc x H k = _
      rw [c_bin_eq]
      exact y_bin_eq yc H k t u op a b hn (zs_eq C h a) (zs_eq C h b)
    | succ m =>
      cases m with
      | zero => simp only [withS_eq]; exact y_ifcNil_eq yc H k t u op a b hn (zs_eq C h a)
      | succ m => simp only [withS_eq]; exact y_slcNil_eq yc H k t u op a b ⟨m, hn⟩ (zs_eq C h a)
  case unOp op t a =>
    right
    simp only [compH, withS_eq]
    cases op with
    | not => exact y_not_eq yc H k t a (zs_eq C h a)
    | neg => exact y_un_eq yc H k .neg t a (zs_eq C h a)
    | xor => exact y_un_eq yc H k .xor t a (zs_eq C h a)
    | plus => exact y_un_eq yc H k .plus t a (zs_eq C h a)
  case convert s d a =>
    have := y_conv_eq (C := C) (e := e) yc H k s d a (zs_eq C h a)
    unfold y_conv intK at this
    simp only [compH, withS_eq]
    cases hs : tyOf C s with
    | none => exact .inl rfl
    | some i =>
      rw [hs] at this
      cases hk : (C.ty d).kind <;> rw [hk] at this <;> exact this
  case fieldAddr t a f =>
    right
    have := y_fieldAddr_eq (C := C) (e := e) yc H k t f a (zs_eq C h a)
    unfold y_fieldAddr at this
    simp only [compH, withS_eq]
    cases hf : fieldOf C t f with
    | none => rw [hf] at this; exact this
    | some r =>
      obtain ⟨off, fi⟩ := r
      rw [hf] at this
      simp only at this ⊢
      cases hz : Nat.beq fi.size 0 <;> rw [hz] at this <;> exact this
  case indexAddr t a b => right; simp only [compH, withS_eq]; exact y_indexAddr_eq yc H k t a b (zs_eq C h a) (zs_eq C h b)
  case index t a b => right; simp only [compH, withS_eq]; exact y_index_eq yc H k t a b (zs_eq C h a) (zs_eq C h b)
  case extract a i => right; simp only [compH, withS_eq]; exact y_extract_eq yc H k a i (zs_eq C h a)
  case pick c a b => exact .inr (y_mini_eq h yc H k (.pick c a b) (q_pick c a b) fun _ _ _ => rfl)
  case build t ps => exact .inr (y_mini_eq h yc H k (.build t ps) (q_build t ps) fun _ _ _ => rfl)
  case buildSlice t n ps => exact .inr (y_mini_eq h yc H k (.buildSlice t n ps) (q_buildSlice t n ps) fun _ _ _ => rfl)
  case insert t m a b => exact .inr (y_mini_eq h yc H k (.insert t m a b) (q_mapUpdate t m a b) fun _ _ _ => rfl)
  case makeInterface t a => exact .inr (y_mini_eq h yc H k (.makeInterface t a) (q_makeInterface t a) fun _ _ _ => rfl)
  case makeFunc f a b =>
    cases f with
    | func f => exact .inr (y_mini_eq h yc H k (.makeFunc (.func f) a b) (q_makeFunc f a b) fun _ _ _ => rfl)
    | _ => exact .inr (y_mini_eq h yc H k (.makeFunc _ a b) (q_any _) fun _ _ _ => rfl)
  case makeSlice t l c => exact .inr (y_mini_eq h yc H k (.makeSlice t l c) (q_makeSlice t l c) fun _ _ _ => rfl)
  case slice t a l hh m => exact .inr (y_mini_eq h yc H k (.slice t a l hh m) (q_slice t a l hh m) fun _ _ _ => q_slice_eq _ _ _ _ _ _ _ _)
  case field t a f => exact .inr (y_mini_eq h yc H k (.field t a f) (q_field t a f) fun _ _ _ => rfl)
  case lookup t m a ok => exact .inr (y_mini_eq h yc H k (.lookup t m a ok) (q_lookup t m a ok) fun _ _ _ => rfl)
  case mapUpdate t m a b => exact .inr (y_mini_eq h yc H k (.mapUpdate t m a b) (q_mapUpdate t m a b) fun _ _ _ => rfl)
  case ready g => exact .inr (y_mini_eq h yc H k (.ready g) (q_any (.ready g)) fun _ _ _ => rfl)
  case waits g => exact .inr (y_mini_eq h yc H k (.waits g) (q_any (.waits g)) fun _ _ _ => rfl)
  case sliceToArrayPointer t a => exact .inr (y_mini_eq h yc H k (.sliceToArrayPointer t a) (q_any (.sliceToArrayPointer t a)) fun _ _ _ => rfl)
  case makeMap t r => exact .inr (y_mini_eq h yc H k (.makeMap t r) (q_any (.makeMap t r)) fun _ _ _ => rfl)
  case makeChan t r => exact .inr (y_mini_eq h yc H k (.makeChan t r) (q_any (.makeChan t r)) fun _ _ _ => rfl)
  case mapEntry t m a => exact .inr (y_mini_eq h yc H k (.mapEntry t m a) (q_any (.mapEntry t m a)) fun _ _ _ => rfl)
  case entryStore t m s v => exact .inr (y_mini_eq h yc H k (.entryStore t m s v) (q_any (.entryStore t m s v)) fun _ _ _ => rfl)
  case range t a => exact .inr (y_mini_eq h yc H k (.range t a) (q_any (.range t a)) fun _ _ _ => rfl)
  case next i s => exact .inr (y_mini_eq h yc H k (.next i s) (q_any (.next i s)) fun _ _ _ => rfl)
  case entry i => exact .inr (y_mini_eq h yc H k (.entry i) (q_any (.entry i)) fun _ _ _ => rfl)
  case typeAssert a t b ok => exact .inr (y_mini_eq h yc H k (.typeAssert a t b ok) (q_any (.typeAssert a t b ok)) fun _ _ _ => rfl)
  case go c => exact .inr (y_mini_eq h yc H k (.go c) (q_any (.go c)) fun _ _ _ => rfl)
  case defer c => exact .inr (y_mini_eq h yc H k (.defer c) (q_any (.defer c)) fun _ _ _ => rfl)
  case panic a => exact .inr (y_mini_eq h yc H k (.panic a) (q_any (.panic a)) fun _ _ _ => rfl)
  case send c a => exact .inr (y_mini_eq h yc H k (.send c a) (q_any (.send c a)) fun _ _ _ => rfl)
  case recv t c ok => exact .inr (y_mini_eq h yc H k (.recv t c ok) (q_any (.recv t c ok)) fun _ _ _ => rfl)
  case select cs b => exact .inr (y_mini_eq h yc H k (.select cs b) (q_any (.select cs b)) fun _ _ _ => rfl)
end Go.Abs
