/- A fast form of the interpreter for runs on values that are known: slots in a tree of eights. Printed by gen_y1.py. -/
import Derived.Test.YtpmejcfbnghaeaaGreatDoorT20
namespace Go.Abs
set_option linter.unusedVariables false
set_option linter.unusedSimpArgs false

inductive E1 where
  | mk (a0 a1 a2 a3 a4 a5 a6 a7 : V)
inductive E2 where
  | mk (a0 a1 a2 a3 a4 a5 a6 a7 : E1)
inductive E3 where
  | mk (a0 a1 a2 a3 a4 a5 a6 a7 : E2)
abbrev ZR := Option (AExit × E3 × AHeap)
def E1.ix (e : E1) (c : Nat) : V := match e, c with
  | .mk x0 _ _ _ _ _ _ _, 0 => x0
  | .mk _ x1 _ _ _ _ _ _, 1 => x1
  | .mk _ _ x2 _ _ _ _ _, 2 => x2
  | .mk _ _ _ x3 _ _ _ _, 3 => x3
  | .mk _ _ _ _ x4 _ _ _, 4 => x4
  | .mk _ _ _ _ _ x5 _ _, 5 => x5
  | .mk _ _ _ _ _ _ x6 _, 6 => x6
  | .mk _ _ _ _ _ _ _ x7, _ => x7
def E1.st (e : E1) (c : Nat) (v : V) : E1 := match e, c with
  | .mk x0 x1 x2 x3 x4 x5 x6 x7, 0 => .mk v x1 x2 x3 x4 x5 x6 x7
  | .mk x0 x1 x2 x3 x4 x5 x6 x7, 1 => .mk x0 v x2 x3 x4 x5 x6 x7
  | .mk x0 x1 x2 x3 x4 x5 x6 x7, 2 => .mk x0 x1 v x3 x4 x5 x6 x7
  | .mk x0 x1 x2 x3 x4 x5 x6 x7, 3 => .mk x0 x1 x2 v x4 x5 x6 x7
  | .mk x0 x1 x2 x3 x4 x5 x6 x7, 4 => .mk x0 x1 x2 x3 v x5 x6 x7
  | .mk x0 x1 x2 x3 x4 x5 x6 x7, 5 => .mk x0 x1 x2 x3 x4 v x6 x7
  | .mk x0 x1 x2 x3 x4 x5 x6 x7, 6 => .mk x0 x1 x2 x3 x4 x5 v x7
  | .mk x0 x1 x2 x3 x4 x5 x6 x7, _ => .mk x0 x1 x2 x3 x4 x5 x6 v
theorem E1.ix_st (e : E1) (c d : Nat) (v : V) (hc : c < 8) (hd : d < 8) : (e.st c v).ix d = if c = d then v else e.ix d := by
  obtain ⟨x0, x1, x2, x3, x4, x5, x6, x7⟩ := e
  have hc' : c = 0 ∨ c = 1 ∨ c = 2 ∨ c = 3 ∨ c = 4 ∨ c = 5 ∨ c = 6 ∨ c = 7 := by omega
  have hd' : d = 0 ∨ d = 1 ∨ d = 2 ∨ d = 3 ∨ d = 4 ∨ d = 5 ∨ d = 6 ∨ d = 7 := by omega
  rcases hc' with rfl | rfl | rfl | rfl | rfl | rfl | rfl | rfl <;> rcases hd' with rfl | rfl | rfl | rfl | rfl | rfl | rfl | rfl <;> rfl
def E2.ix (e : E2) (c : Nat) : E1 := match e, c with
  | .mk x0 _ _ _ _ _ _ _, 0 => x0
  | .mk _ x1 _ _ _ _ _ _, 1 => x1
  | .mk _ _ x2 _ _ _ _ _, 2 => x2
  | .mk _ _ _ x3 _ _ _ _, 3 => x3
  | .mk _ _ _ _ x4 _ _ _, 4 => x4
  | .mk _ _ _ _ _ x5 _ _, 5 => x5
  | .mk _ _ _ _ _ _ x6 _, 6 => x6
  | .mk _ _ _ _ _ _ _ x7, _ => x7
def E2.st (e : E2) (c : Nat) (v : E1) : E2 := match e, c with
  | .mk x0 x1 x2 x3 x4 x5 x6 x7, 0 => .mk v x1 x2 x3 x4 x5 x6 x7
  | .mk x0 x1 x2 x3 x4 x5 x6 x7, 1 => .mk x0 v x2 x3 x4 x5 x6 x7
  | .mk x0 x1 x2 x3 x4 x5 x6 x7, 2 => .mk x0 x1 v x3 x4 x5 x6 x7
  | .mk x0 x1 x2 x3 x4 x5 x6 x7, 3 => .mk x0 x1 x2 v x4 x5 x6 x7
  | .mk x0 x1 x2 x3 x4 x5 x6 x7, 4 => .mk x0 x1 x2 x3 v x5 x6 x7
  | .mk x0 x1 x2 x3 x4 x5 x6 x7, 5 => .mk x0 x1 x2 x3 x4 v x6 x7
  | .mk x0 x1 x2 x3 x4 x5 x6 x7, 6 => .mk x0 x1 x2 x3 x4 x5 v x7
  | .mk x0 x1 x2 x3 x4 x5 x6 x7, _ => .mk x0 x1 x2 x3 x4 x5 x6 v
theorem E2.ix_st (e : E2) (c d : Nat) (v : E1) (hc : c < 8) (hd : d < 8) : (e.st c v).ix d = if c = d then v else e.ix d := by
  obtain ⟨x0, x1, x2, x3, x4, x5, x6, x7⟩ := e
  have hc' : c = 0 ∨ c = 1 ∨ c = 2 ∨ c = 3 ∨ c = 4 ∨ c = 5 ∨ c = 6 ∨ c = 7 := by omega
  have hd' : d = 0 ∨ d = 1 ∨ d = 2 ∨ d = 3 ∨ d = 4 ∨ d = 5 ∨ d = 6 ∨ d = 7 := by omega
  rcases hc' with rfl | rfl | rfl | rfl | rfl | rfl | rfl | rfl <;> rcases hd' with rfl | rfl | rfl | rfl | rfl | rfl | rfl | rfl <;> rfl
def E3.ix (e : E3) (c : Nat) : E2 := match e, c with
  | .mk x0 _ _ _ _ _ _ _, 0 => x0
  | .mk _ x1 _ _ _ _ _ _, 1 => x1
  | .mk _ _ x2 _ _ _ _ _, 2 => x2
  | .mk _ _ _ x3 _ _ _ _, 3 => x3
  | .mk _ _ _ _ x4 _ _ _, 4 => x4
  | .mk _ _ _ _ _ x5 _ _, 5 => x5
  | .mk _ _ _ _ _ _ x6 _, 6 => x6
  | .mk _ _ _ _ _ _ _ x7, _ => x7
def E3.st (e : E3) (c : Nat) (v : E2) : E3 := match e, c with
  | .mk x0 x1 x2 x3 x4 x5 x6 x7, 0 => .mk v x1 x2 x3 x4 x5 x6 x7
  | .mk x0 x1 x2 x3 x4 x5 x6 x7, 1 => .mk x0 v x2 x3 x4 x5 x6 x7
  | .mk x0 x1 x2 x3 x4 x5 x6 x7, 2 => .mk x0 x1 v x3 x4 x5 x6 x7
  | .mk x0 x1 x2 x3 x4 x5 x6 x7, 3 => .mk x0 x1 x2 v x4 x5 x6 x7
  | .mk x0 x1 x2 x3 x4 x5 x6 x7, 4 => .mk x0 x1 x2 x3 v x5 x6 x7
  | .mk x0 x1 x2 x3 x4 x5 x6 x7, 5 => .mk x0 x1 x2 x3 x4 v x6 x7
  | .mk x0 x1 x2 x3 x4 x5 x6 x7, 6 => .mk x0 x1 x2 x3 x4 x5 v x7
  | .mk x0 x1 x2 x3 x4 x5 x6 x7, _ => .mk x0 x1 x2 x3 x4 x5 x6 v
theorem E3.ix_st (e : E3) (c d : Nat) (v : E2) (hc : c < 8) (hd : d < 8) : (e.st c v).ix d = if c = d then v else e.ix d := by
  obtain ⟨x0, x1, x2, x3, x4, x5, x6, x7⟩ := e
  have hc' : c = 0 ∨ c = 1 ∨ c = 2 ∨ c = 3 ∨ c = 4 ∨ c = 5 ∨ c = 6 ∨ c = 7 := by omega
  have hd' : d = 0 ∨ d = 1 ∨ d = 2 ∨ d = 3 ∨ d = 4 ∨ d = 5 ∨ d = 6 ∨ d = 7 := by omega
  rcases hc' with rfl | rfl | rfl | rfl | rfl | rfl | rfl | rfl <;> rcases hd' with rfl | rfl | rfl | rfl | rfl | rfl | rfl | rfl <;> rfl
noncomputable def g10 (e : E1) (k : V → ZR) : ZR := @E1.rec (fun _ => ZR) (fun x0 x1 x2 x3 x4 x5 x6 x7 => k x0) e
noncomputable def g11 (e : E1) (k : V → ZR) : ZR := @E1.rec (fun _ => ZR) (fun x0 x1 x2 x3 x4 x5 x6 x7 => k x1) e
noncomputable def g12 (e : E1) (k : V → ZR) : ZR := @E1.rec (fun _ => ZR) (fun x0 x1 x2 x3 x4 x5 x6 x7 => k x2) e
noncomputable def g13 (e : E1) (k : V → ZR) : ZR := @E1.rec (fun _ => ZR) (fun x0 x1 x2 x3 x4 x5 x6 x7 => k x3) e
noncomputable def g14 (e : E1) (k : V → ZR) : ZR := @E1.rec (fun _ => ZR) (fun x0 x1 x2 x3 x4 x5 x6 x7 => k x4) e
noncomputable def g15 (e : E1) (k : V → ZR) : ZR := @E1.rec (fun _ => ZR) (fun x0 x1 x2 x3 x4 x5 x6 x7 => k x5) e
noncomputable def g16 (e : E1) (k : V → ZR) : ZR := @E1.rec (fun _ => ZR) (fun x0 x1 x2 x3 x4 x5 x6 x7 => k x6) e
noncomputable def g17 (e : E1) (k : V → ZR) : ZR := @E1.rec (fun _ => ZR) (fun x0 x1 x2 x3 x4 x5 x6 x7 => k x7) e
noncomputable def g20 (f : E1 → (V → ZR) → ZR) (e : E2) (k : V → ZR) : ZR := @E2.rec (fun _ => ZR) (fun x0 x1 x2 x3 x4 x5 x6 x7 => f x0 k) e
noncomputable def g21 (f : E1 → (V → ZR) → ZR) (e : E2) (k : V → ZR) : ZR := @E2.rec (fun _ => ZR) (fun x0 x1 x2 x3 x4 x5 x6 x7 => f x1 k) e
noncomputable def g22 (f : E1 → (V → ZR) → ZR) (e : E2) (k : V → ZR) : ZR := @E2.rec (fun _ => ZR) (fun x0 x1 x2 x3 x4 x5 x6 x7 => f x2 k) e
noncomputable def g23 (f : E1 → (V → ZR) → ZR) (e : E2) (k : V → ZR) : ZR := @E2.rec (fun _ => ZR) (fun x0 x1 x2 x3 x4 x5 x6 x7 => f x3 k) e
noncomputable def g24 (f : E1 → (V → ZR) → ZR) (e : E2) (k : V → ZR) : ZR := @E2.rec (fun _ => ZR) (fun x0 x1 x2 x3 x4 x5 x6 x7 => f x4 k) e
noncomputable def g25 (f : E1 → (V → ZR) → ZR) (e : E2) (k : V → ZR) : ZR := @E2.rec (fun _ => ZR) (fun x0 x1 x2 x3 x4 x5 x6 x7 => f x5 k) e
noncomputable def g26 (f : E1 → (V → ZR) → ZR) (e : E2) (k : V → ZR) : ZR := @E2.rec (fun _ => ZR) (fun x0 x1 x2 x3 x4 x5 x6 x7 => f x6 k) e
noncomputable def g27 (f : E1 → (V → ZR) → ZR) (e : E2) (k : V → ZR) : ZR := @E2.rec (fun _ => ZR) (fun x0 x1 x2 x3 x4 x5 x6 x7 => f x7 k) e
noncomputable def g30 (f : E2 → (V → ZR) → ZR) (e : E3) (k : V → ZR) : ZR := @E3.rec (fun _ => ZR) (fun x0 x1 x2 x3 x4 x5 x6 x7 => f x0 k) e
noncomputable def g31 (f : E2 → (V → ZR) → ZR) (e : E3) (k : V → ZR) : ZR := @E3.rec (fun _ => ZR) (fun x0 x1 x2 x3 x4 x5 x6 x7 => f x1 k) e
noncomputable def g32 (f : E2 → (V → ZR) → ZR) (e : E3) (k : V → ZR) : ZR := @E3.rec (fun _ => ZR) (fun x0 x1 x2 x3 x4 x5 x6 x7 => f x2 k) e
noncomputable def g33 (f : E2 → (V → ZR) → ZR) (e : E3) (k : V → ZR) : ZR := @E3.rec (fun _ => ZR) (fun x0 x1 x2 x3 x4 x5 x6 x7 => f x3 k) e
noncomputable def g34 (f : E2 → (V → ZR) → ZR) (e : E3) (k : V → ZR) : ZR := @E3.rec (fun _ => ZR) (fun x0 x1 x2 x3 x4 x5 x6 x7 => f x4 k) e
noncomputable def g35 (f : E2 → (V → ZR) → ZR) (e : E3) (k : V → ZR) : ZR := @E3.rec (fun _ => ZR) (fun x0 x1 x2 x3 x4 x5 x6 x7 => f x5 k) e
noncomputable def g36 (f : E2 → (V → ZR) → ZR) (e : E3) (k : V → ZR) : ZR := @E3.rec (fun _ => ZR) (fun x0 x1 x2 x3 x4 x5 x6 x7 => f x6 k) e
noncomputable def g37 (f : E2 → (V → ZR) → ZR) (e : E3) (k : V → ZR) : ZR := @E3.rec (fun _ => ZR) (fun x0 x1 x2 x3 x4 x5 x6 x7 => f x7 k) e
noncomputable def G1 (c : Nat) : E1 → (V → ZR) → ZR := @Nat.rec (fun _ => E1 → (V → ZR) → ZR) g10 (fun c _ => @Nat.rec (fun _ => E1 → (V → ZR) → ZR) g11 (fun c _ => @Nat.rec (fun _ => E1 → (V → ZR) → ZR) g12 (fun c _ => @Nat.rec (fun _ => E1 → (V → ZR) → ZR) g13 (fun c _ => @Nat.rec (fun _ => E1 → (V → ZR) → ZR) g14 (fun c _ => @Nat.rec (fun _ => E1 → (V → ZR) → ZR) g15 (fun c _ => @Nat.rec (fun _ => E1 → (V → ZR) → ZR) g16 (fun c _ => g17) c) c) c) c) c) c) c
noncomputable def G2 (c : Nat) : (E1 → (V → ZR) → ZR) → E2 → (V → ZR) → ZR := @Nat.rec (fun _ => (E1 → (V → ZR) → ZR) → E2 → (V → ZR) → ZR) g20 (fun c _ => @Nat.rec (fun _ => (E1 → (V → ZR) → ZR) → E2 → (V → ZR) → ZR) g21 (fun c _ => @Nat.rec (fun _ => (E1 → (V → ZR) → ZR) → E2 → (V → ZR) → ZR) g22 (fun c _ => @Nat.rec (fun _ => (E1 → (V → ZR) → ZR) → E2 → (V → ZR) → ZR) g23 (fun c _ => @Nat.rec (fun _ => (E1 → (V → ZR) → ZR) → E2 → (V → ZR) → ZR) g24 (fun c _ => @Nat.rec (fun _ => (E1 → (V → ZR) → ZR) → E2 → (V → ZR) → ZR) g25 (fun c _ => @Nat.rec (fun _ => (E1 → (V → ZR) → ZR) → E2 → (V → ZR) → ZR) g26 (fun c _ => g27) c) c) c) c) c) c) c
noncomputable def G3 (c : Nat) : (E2 → (V → ZR) → ZR) → E3 → (V → ZR) → ZR := @Nat.rec (fun _ => (E2 → (V → ZR) → ZR) → E3 → (V → ZR) → ZR) g30 (fun c _ => @Nat.rec (fun _ => (E2 → (V → ZR) → ZR) → E3 → (V → ZR) → ZR) g31 (fun c _ => @Nat.rec (fun _ => (E2 → (V → ZR) → ZR) → E3 → (V → ZR) → ZR) g32 (fun c _ => @Nat.rec (fun _ => (E2 → (V → ZR) → ZR) → E3 → (V → ZR) → ZR) g33 (fun c _ => @Nat.rec (fun _ => (E2 → (V → ZR) → ZR) → E3 → (V → ZR) → ZR) g34 (fun c _ => @Nat.rec (fun _ => (E2 → (V → ZR) → ZR) → E3 → (V → ZR) → ZR) g35 (fun c _ => @Nat.rec (fun _ => (E2 → (V → ZR) → ZR) → E3 → (V → ZR) → ZR) g36 (fun c _ => g37) c) c) c) c) c) c) c
noncomputable def s10 (e : E1) (v : V) (k : E1 → ZR) : ZR := @E1.rec (fun _ => ZR) (fun x0 x1 x2 x3 x4 x5 x6 x7 => k (E1.mk v x1 x2 x3 x4 x5 x6 x7)) e
noncomputable def s11 (e : E1) (v : V) (k : E1 → ZR) : ZR := @E1.rec (fun _ => ZR) (fun x0 x1 x2 x3 x4 x5 x6 x7 => k (E1.mk x0 v x2 x3 x4 x5 x6 x7)) e
noncomputable def s12 (e : E1) (v : V) (k : E1 → ZR) : ZR := @E1.rec (fun _ => ZR) (fun x0 x1 x2 x3 x4 x5 x6 x7 => k (E1.mk x0 x1 v x3 x4 x5 x6 x7)) e
noncomputable def s13 (e : E1) (v : V) (k : E1 → ZR) : ZR := @E1.rec (fun _ => ZR) (fun x0 x1 x2 x3 x4 x5 x6 x7 => k (E1.mk x0 x1 x2 v x4 x5 x6 x7)) e
noncomputable def s14 (e : E1) (v : V) (k : E1 → ZR) : ZR := @E1.rec (fun _ => ZR) (fun x0 x1 x2 x3 x4 x5 x6 x7 => k (E1.mk x0 x1 x2 x3 v x5 x6 x7)) e
noncomputable def s15 (e : E1) (v : V) (k : E1 → ZR) : ZR := @E1.rec (fun _ => ZR) (fun x0 x1 x2 x3 x4 x5 x6 x7 => k (E1.mk x0 x1 x2 x3 x4 v x6 x7)) e
noncomputable def s16 (e : E1) (v : V) (k : E1 → ZR) : ZR := @E1.rec (fun _ => ZR) (fun x0 x1 x2 x3 x4 x5 x6 x7 => k (E1.mk x0 x1 x2 x3 x4 x5 v x7)) e
noncomputable def s17 (e : E1) (v : V) (k : E1 → ZR) : ZR := @E1.rec (fun _ => ZR) (fun x0 x1 x2 x3 x4 x5 x6 x7 => k (E1.mk x0 x1 x2 x3 x4 x5 x6 v)) e
noncomputable def s20 (f : E1 → V → (E1 → ZR) → ZR) (e : E2) (v : V) (k : E2 → ZR) : ZR := @E2.rec (fun _ => ZR) (fun x0 x1 x2 x3 x4 x5 x6 x7 => f x0 v fun y => k (E2.mk y x1 x2 x3 x4 x5 x6 x7)) e
noncomputable def s21 (f : E1 → V → (E1 → ZR) → ZR) (e : E2) (v : V) (k : E2 → ZR) : ZR := @E2.rec (fun _ => ZR) (fun x0 x1 x2 x3 x4 x5 x6 x7 => f x1 v fun y => k (E2.mk x0 y x2 x3 x4 x5 x6 x7)) e
noncomputable def s22 (f : E1 → V → (E1 → ZR) → ZR) (e : E2) (v : V) (k : E2 → ZR) : ZR := @E2.rec (fun _ => ZR) (fun x0 x1 x2 x3 x4 x5 x6 x7 => f x2 v fun y => k (E2.mk x0 x1 y x3 x4 x5 x6 x7)) e
noncomputable def s23 (f : E1 → V → (E1 → ZR) → ZR) (e : E2) (v : V) (k : E2 → ZR) : ZR := @E2.rec (fun _ => ZR) (fun x0 x1 x2 x3 x4 x5 x6 x7 => f x3 v fun y => k (E2.mk x0 x1 x2 y x4 x5 x6 x7)) e
noncomputable def s24 (f : E1 → V → (E1 → ZR) → ZR) (e : E2) (v : V) (k : E2 → ZR) : ZR := @E2.rec (fun _ => ZR) (fun x0 x1 x2 x3 x4 x5 x6 x7 => f x4 v fun y => k (E2.mk x0 x1 x2 x3 y x5 x6 x7)) e
noncomputable def s25 (f : E1 → V → (E1 → ZR) → ZR) (e : E2) (v : V) (k : E2 → ZR) : ZR := @E2.rec (fun _ => ZR) (fun x0 x1 x2 x3 x4 x5 x6 x7 => f x5 v fun y => k (E2.mk x0 x1 x2 x3 x4 y x6 x7)) e
noncomputable def s26 (f : E1 → V → (E1 → ZR) → ZR) (e : E2) (v : V) (k : E2 → ZR) : ZR := @E2.rec (fun _ => ZR) (fun x0 x1 x2 x3 x4 x5 x6 x7 => f x6 v fun y => k (E2.mk x0 x1 x2 x3 x4 x5 y x7)) e
noncomputable def s27 (f : E1 → V → (E1 → ZR) → ZR) (e : E2) (v : V) (k : E2 → ZR) : ZR := @E2.rec (fun _ => ZR) (fun x0 x1 x2 x3 x4 x5 x6 x7 => f x7 v fun y => k (E2.mk x0 x1 x2 x3 x4 x5 x6 y)) e
noncomputable def s30 (f : E2 → V → (E2 → ZR) → ZR) (e : E3) (v : V) (k : E3 → ZR) : ZR := @E3.rec (fun _ => ZR) (fun x0 x1 x2 x3 x4 x5 x6 x7 => f x0 v fun y => k (E3.mk y x1 x2 x3 x4 x5 x6 x7)) e
noncomputable def s31 (f : E2 → V → (E2 → ZR) → ZR) (e : E3) (v : V) (k : E3 → ZR) : ZR := @E3.rec (fun _ => ZR) (fun x0 x1 x2 x3 x4 x5 x6 x7 => f x1 v fun y => k (E3.mk x0 y x2 x3 x4 x5 x6 x7)) e
noncomputable def s32 (f : E2 → V → (E2 → ZR) → ZR) (e : E3) (v : V) (k : E3 → ZR) : ZR := @E3.rec (fun _ => ZR) (fun x0 x1 x2 x3 x4 x5 x6 x7 => f x2 v fun y => k (E3.mk x0 x1 y x3 x4 x5 x6 x7)) e
noncomputable def s33 (f : E2 → V → (E2 → ZR) → ZR) (e : E3) (v : V) (k : E3 → ZR) : ZR := @E3.rec (fun _ => ZR) (fun x0 x1 x2 x3 x4 x5 x6 x7 => f x3 v fun y => k (E3.mk x0 x1 x2 y x4 x5 x6 x7)) e
noncomputable def s34 (f : E2 → V → (E2 → ZR) → ZR) (e : E3) (v : V) (k : E3 → ZR) : ZR := @E3.rec (fun _ => ZR) (fun x0 x1 x2 x3 x4 x5 x6 x7 => f x4 v fun y => k (E3.mk x0 x1 x2 x3 y x5 x6 x7)) e
noncomputable def s35 (f : E2 → V → (E2 → ZR) → ZR) (e : E3) (v : V) (k : E3 → ZR) : ZR := @E3.rec (fun _ => ZR) (fun x0 x1 x2 x3 x4 x5 x6 x7 => f x5 v fun y => k (E3.mk x0 x1 x2 x3 x4 y x6 x7)) e
noncomputable def s36 (f : E2 → V → (E2 → ZR) → ZR) (e : E3) (v : V) (k : E3 → ZR) : ZR := @E3.rec (fun _ => ZR) (fun x0 x1 x2 x3 x4 x5 x6 x7 => f x6 v fun y => k (E3.mk x0 x1 x2 x3 x4 x5 y x7)) e
noncomputable def s37 (f : E2 → V → (E2 → ZR) → ZR) (e : E3) (v : V) (k : E3 → ZR) : ZR := @E3.rec (fun _ => ZR) (fun x0 x1 x2 x3 x4 x5 x6 x7 => f x7 v fun y => k (E3.mk x0 x1 x2 x3 x4 x5 x6 y)) e
noncomputable def S1 (c : Nat) : E1 → V → (E1 → ZR) → ZR := @Nat.rec (fun _ => E1 → V → (E1 → ZR) → ZR) s10 (fun c _ => @Nat.rec (fun _ => E1 → V → (E1 → ZR) → ZR) s11 (fun c _ => @Nat.rec (fun _ => E1 → V → (E1 → ZR) → ZR) s12 (fun c _ => @Nat.rec (fun _ => E1 → V → (E1 → ZR) → ZR) s13 (fun c _ => @Nat.rec (fun _ => E1 → V → (E1 → ZR) → ZR) s14 (fun c _ => @Nat.rec (fun _ => E1 → V → (E1 → ZR) → ZR) s15 (fun c _ => @Nat.rec (fun _ => E1 → V → (E1 → ZR) → ZR) s16 (fun c _ => s17) c) c) c) c) c) c) c
noncomputable def S2 (c : Nat) : (E1 → V → (E1 → ZR) → ZR) → E2 → V → (E2 → ZR) → ZR := @Nat.rec (fun _ => (E1 → V → (E1 → ZR) → ZR) → E2 → V → (E2 → ZR) → ZR) s20 (fun c _ => @Nat.rec (fun _ => (E1 → V → (E1 → ZR) → ZR) → E2 → V → (E2 → ZR) → ZR) s21 (fun c _ => @Nat.rec (fun _ => (E1 → V → (E1 → ZR) → ZR) → E2 → V → (E2 → ZR) → ZR) s22 (fun c _ => @Nat.rec (fun _ => (E1 → V → (E1 → ZR) → ZR) → E2 → V → (E2 → ZR) → ZR) s23 (fun c _ => @Nat.rec (fun _ => (E1 → V → (E1 → ZR) → ZR) → E2 → V → (E2 → ZR) → ZR) s24 (fun c _ => @Nat.rec (fun _ => (E1 → V → (E1 → ZR) → ZR) → E2 → V → (E2 → ZR) → ZR) s25 (fun c _ => @Nat.rec (fun _ => (E1 → V → (E1 → ZR) → ZR) → E2 → V → (E2 → ZR) → ZR) s26 (fun c _ => s27) c) c) c) c) c) c) c
noncomputable def S3 (c : Nat) : (E2 → V → (E2 → ZR) → ZR) → E3 → V → (E3 → ZR) → ZR := @Nat.rec (fun _ => (E2 → V → (E2 → ZR) → ZR) → E3 → V → (E3 → ZR) → ZR) s30 (fun c _ => @Nat.rec (fun _ => (E2 → V → (E2 → ZR) → ZR) → E3 → V → (E3 → ZR) → ZR) s31 (fun c _ => @Nat.rec (fun _ => (E2 → V → (E2 → ZR) → ZR) → E3 → V → (E3 → ZR) → ZR) s32 (fun c _ => @Nat.rec (fun _ => (E2 → V → (E2 → ZR) → ZR) → E3 → V → (E3 → ZR) → ZR) s33 (fun c _ => @Nat.rec (fun _ => (E2 → V → (E2 → ZR) → ZR) → E3 → V → (E3 → ZR) → ZR) s34 (fun c _ => @Nat.rec (fun _ => (E2 → V → (E2 → ZR) → ZR) → E3 → V → (E3 → ZR) → ZR) s35 (fun c _ => @Nat.rec (fun _ => (E2 → V → (E2 → ZR) → ZR) → E3 → V → (E3 → ZR) → ZR) s36 (fun c _ => s37) c) c) c) c) c) c) c
theorem G1_eq (c : Nat) (hc : c < 8) (e : E1) (k : V → ZR) : G1 c e k = k (e.ix c) := by
  obtain ⟨x0, x1, x2, x3, x4, x5, x6, x7⟩ := e
  rcases (show c = 0 ∨ c = 1 ∨ c = 2 ∨ c = 3 ∨ c = 4 ∨ c = 5 ∨ c = 6 ∨ c = 7 by omega) with rfl | rfl | rfl | rfl | rfl | rfl | rfl | rfl <;> rfl
theorem G2_eq (c : Nat) (hc : c < 8) (f : E1 → (V → ZR) → ZR) (e : E2) (k : V → ZR) : G2 c f e k = f (e.ix c) k := by
  obtain ⟨x0, x1, x2, x3, x4, x5, x6, x7⟩ := e
  rcases (show c = 0 ∨ c = 1 ∨ c = 2 ∨ c = 3 ∨ c = 4 ∨ c = 5 ∨ c = 6 ∨ c = 7 by omega) with rfl | rfl | rfl | rfl | rfl | rfl | rfl | rfl <;> rfl
theorem G3_eq (c : Nat) (hc : c < 8) (f : E2 → (V → ZR) → ZR) (e : E3) (k : V → ZR) : G3 c f e k = f (e.ix c) k := by
  obtain ⟨x0, x1, x2, x3, x4, x5, x6, x7⟩ := e
  rcases (show c = 0 ∨ c = 1 ∨ c = 2 ∨ c = 3 ∨ c = 4 ∨ c = 5 ∨ c = 6 ∨ c = 7 by omega) with rfl | rfl | rfl | rfl | rfl | rfl | rfl | rfl <;> rfl
theorem S1_eq (c : Nat) (hc : c < 8) (e : E1) (v : V) (k : E1 → ZR) : S1 c e v k = k (e.st c v) := by
  obtain ⟨x0, x1, x2, x3, x4, x5, x6, x7⟩ := e
  rcases (show c = 0 ∨ c = 1 ∨ c = 2 ∨ c = 3 ∨ c = 4 ∨ c = 5 ∨ c = 6 ∨ c = 7 by omega) with rfl | rfl | rfl | rfl | rfl | rfl | rfl | rfl <;> rfl
theorem S2_eq (c : Nat) (hc : c < 8) (f : E1 → V → (E1 → ZR) → ZR) (e : E2) (v : V) (k : E2 → ZR) : S2 c f e v k = f (e.ix c) v fun y => k (e.st c y) := by
  obtain ⟨x0, x1, x2, x3, x4, x5, x6, x7⟩ := e
  rcases (show c = 0 ∨ c = 1 ∨ c = 2 ∨ c = 3 ∨ c = 4 ∨ c = 5 ∨ c = 6 ∨ c = 7 by omega) with rfl | rfl | rfl | rfl | rfl | rfl | rfl | rfl <;> rfl
theorem S3_eq (c : Nat) (hc : c < 8) (f : E2 → V → (E2 → ZR) → ZR) (e : E3) (v : V) (k : E3 → ZR) : S3 c f e v k = f (e.ix c) v fun y => k (e.st c y) := by
  obtain ⟨x0, x1, x2, x3, x4, x5, x6, x7⟩ := e
  rcases (show c = 0 ∨ c = 1 ∨ c = 2 ∨ c = 3 ∨ c = 4 ∨ c = 5 ∨ c = 6 ∨ c = 7 by omega) with rfl | rfl | rfl | rfl | rfl | rfl | rfl | rfl <;> rfl
/-- What a slot holds. -/
def E3.get (e : E3) (i : Nat) : V := ((e.ix (i / 64)).ix (i / 8 % 8)).ix (i % 8)
def E3.set (e : E3) (i : Nat) (v : V) : E3 := e.st (i / 64) ((e.ix (i / 64)).st (i / 8 % 8) (((e.ix (i / 64)).ix (i / 8 % 8)).st (i % 8) v))
theorem E3.get_set (e : E3) (i j : Nat) (v : V) (hi : i < 512) (hj : j < 512) : (e.set i v).get j = if i = j then v else e.get j := by
  unfold E3.get E3.set
  rw [E3.ix_st _ _ _ _ (by omega) (by omega)]
  by_cases h3 : i / 64 = j / 64
  · rw [if_pos h3, E2.ix_st _ _ _ _ (by omega) (by omega)]
    by_cases h2 : i / 8 % 8 = j / 8 % 8
    · rw [if_pos h2, E1.ix_st _ _ _ _ (by omega) (by omega)]
      by_cases h1 : i % 8 = j % 8
      · rw [if_pos h1, if_pos (by omega)]
      · rw [if_neg h1, if_neg (by omega), h3, h2]
    · rw [if_neg h2, if_neg (by intro h; subst h; exact h2 rfl), h3]
  · rw [if_neg h3, if_neg (by intro h; subst h; exact h3 rfl)]
abbrev Sel := E3 → (V → ZR) → ZR
abbrev Upd := E3 → V → (E3 → ZR) → ZR
noncomputable def selOf (i : Nat) : Sel := G3 (Nat.div i 64) (G2 (Nat.mod (Nat.div i 8) 8) (G1 (Nat.mod i 8)))
noncomputable def updOf (i : Nat) : Upd := S3 (Nat.div i 64) (S2 (Nat.mod (Nat.div i 8) 8) (S1 (Nat.mod i 8)))
theorem selOf_eq (i : Nat) (hi : i < 512) (e : E3) (k : V → ZR) : selOf i e k = k (e.get i) := by
  show G3 (i / 64) (G2 (i / 8 % 8) (G1 (i % 8))) e k = _
  rw [G3_eq _ (by omega), G2_eq _ (by omega), G1_eq _ (by omega)]; rfl
theorem updOf_eq (i : Nat) (hi : i < 512) (e : E3) (v : V) (k : E3 → ZR) : updOf i e v k = k (e.set i v) := by
  show S3 (i / 64) (S2 (i / 8 % 8) (S1 (i % 8))) e v k = _
  rw [S3_eq _ (by omega), S2_eq _ (by omega), S1_eq _ (by omega)]; rfl
def e1 : E1 := .mk .top .top .top .top .top .top .top .top
def e2 : E2 := .mk e1 e1 e1 e1 e1 e1 e1 e1
def e3 : E3 := .mk e2 e2 e2 e2 e2 e2 e2 e2
theorem e1_ix (c : Nat) : e1.ix c = .top := match c with
  | 0 => rfl
  | 1 => rfl
  | 2 => rfl
  | 3 => rfl
  | 4 => rfl
  | 5 => rfl
  | 6 => rfl
  | n + 7 => rfl
theorem e2_ix (c : Nat) : e2.ix c = e1 := match c with
  | 0 => rfl
  | 1 => rfl
  | 2 => rfl
  | 3 => rfl
  | 4 => rfl
  | 5 => rfl
  | 6 => rfl
  | n + 7 => rfl
theorem e3_ix (c : Nat) : e3.ix c = e2 := match c with
  | 0 => rfl
  | 1 => rfl
  | 2 => rfl
  | 3 => rfl
  | 4 => rfl
  | 5 => rfl
  | 6 => rfl
  | n + 7 => rfl
theorem e3_get (i : Nat) : e3.get i = .top := by unfold E3.get; rw [e3_ix, e2_ix, e1_ix]
end Go.Abs
/- The fast interpreter: numbers. -/
namespace Go.Abs
set_option linter.unusedVariables false
set_option linter.unusedSimpArgs false

def ob (x : Option (V × AHeap)) (k : V → AHeap → ZR) : ZR := match x with
  | some (v, H) => k v H
  | none => none
def obV (x : Option V) (k : V → ZR) : ZR := match x with
  | some v => k v
  | none => none

/-! Numbers -/
noncomputable def zncas (n : Nat) (k : Nat → ZR) : ZR := @Nat.rec (fun _ => ZR) (k 0) (fun m _ => k (Nat.succ m)) n
theorem zncas_eq (n : Nat) (k : Nat → ZR) : zncas n k = k n := by cases n <;> rfl
noncomputable def zicas (n : Int) (k : Int → ZR) : ZR := @Int.rec (fun _ => ZR) (fun a => zncas a fun a => k (Int.ofNat a)) (fun a => zncas a fun a => k (Int.negSucc a)) n
theorem zicas_eq (n : Int) (k : Int → ZR) : zicas n k = k n := by cases n <;> simp [zicas, zncas_eq]
noncomputable def zif (b : Bool) (t f : ZR) : ZR := @Bool.rec (fun _ => ZR) f t b
theorem zif_true (t f : ZR) : zif true t f = t := rfl
theorem zif_false (t f : ZR) : zif false t f = f := rfl
theorem zif_eq (b : Bool) (t f : ZR) : zif b t f = match b with
  | true => t
  | false => f := by cases b <;> rfl
noncomputable def zbool (b : Bool) (k : V → ZR) : ZR := @Bool.rec (fun _ => ZR) (k (.p (.lit (.bool false)))) (k (.p (.lit (.bool true)))) b
theorem zbool_eq (b : Bool) (k : V → ZR) : zbool b k = k (.p (.lit (.bool b))) := by cases b <;> rfl
/-- What a kind of numbers has room for, from 0 on; its modulus. -/
noncomputable def zlim (kk : IntKind) : Nat := @IntKind.rec (fun _ => Nat) 128 32768 2147483648 9223372036854775808 256 65536 4294967296 18446744073709551616 kk
noncomputable def zmod (kk : IntKind) : Nat := @IntKind.rec (fun _ => Nat) 256 65536 4294967296 18446744073709551616 256 65536 4294967296 18446744073709551616 kk
noncomputable def zuns (kk : IntKind) : Bool := @IntKind.rec (fun _ => Bool) false false false false true true true true kk
noncomputable def zbits (kk : IntKind) : Nat := @IntKind.rec (fun _ => Nat) 8 16 32 64 8 16 32 64 kk
theorem wrap_small (kk : IntKind) (a : Nat) (h : a < zlim kk) : kk.wrap (a : Int) = (a : Int) := by
  cases kk <;> simp only [zlim] at h <;> simp [IntKind.wrap, IntKind.bits, IntKind.signed] <;> omega
theorem wrap_uns (kk : IntKind) (a : Nat) (h : zuns kk = true) : kk.wrap (a : Int) = ((a % zmod kk : Nat) : Int) := by
  cases kk <;> first | (exact absurd h (fun h => Bool.noConfusion h)) | simp [IntKind.wrap, IntKind.bits, IntKind.signed, zmod]
theorem lim_uns (kk : IntKind) (h : zuns kk = true) : zlim kk = zmod kk := by cases kk <;> first | rfl | exact absurd h (fun h => Bool.noConfusion h)
/-- A number from 0 on, cut to its kind. -/
noncomputable def zwN (kk : IntKind) (a : Nat) (k : V → ZR) : ZR :=
  @Bool.rec (fun _ => ZR)
    (@Bool.rec (fun _ => ZR) (zicas (kk.wrap (Int.ofNat a)) fun n => k (.p (.lit (.int kk n)))) (zncas (Nat.mod a (zmod kk)) fun a => k (.p (.lit (.int kk (Int.ofNat a))))) (zuns kk))
    (zncas a fun a => k (.p (.lit (.int kk (Int.ofNat a))))) (Nat.blt a (zlim kk))
theorem zwN_eq (kk : IntKind) (a : Nat) (k : V → ZR) : zwN kk a k = k (.p (.lit (.int kk (kk.wrap (a : Int))))) := by
  unfold zwN
  cases hb : Nat.blt a (zlim kk)
  · cases hu : zuns kk
    · simp [zicas_eq]
    · simp only [zncas_eq]
      rw [wrap_uns kk a hu]; rfl
  · simp only [zncas_eq]
    have h : a < zlim kk := by simpa [Nat.blt_eq] using hb
    rw [wrap_small kk a h]; rfl
noncomputable def zsm (m : SM V) (k : V → ZR) : ZR := obV m.get fun v => v.dcas k
theorem zsm_eq (m : SM V) (k : V → ZR) : zsm m k = obV m.get k := by
  unfold zsm obV; split <;> simp [V.dcas_eq]
/-- Two numbers from 0 on. -/
noncomputable def n_add (kk : IntKind) (a b : Nat) (k : V → ZR) : ZR := zwN kk (Nat.add a b) k
noncomputable def n_sub (kk : IntKind) (a b : Nat) (k : V → ZR) : ZR := @Bool.rec (fun _ => ZR) (zicas (kk.wrap (Int.ofNat a - Int.ofNat b)) fun n => k (.p (.lit (.int kk n)))) (zwN kk (Nat.sub a b) k) (Nat.ble b a)
noncomputable def n_mul (kk : IntKind) (a b : Nat) (k : V → ZR) : ZR := zwN kk (Nat.mul a b) k
noncomputable def n_quo (kk : IntKind) (a b : Nat) (k : V → ZR) : ZR := zsm (intBin .quo kk (Int.ofNat a) (Int.ofNat b)) k
noncomputable def n_rem (kk : IntKind) (a b : Nat) (k : V → ZR) : ZR := zsm (intBin .rem kk (Int.ofNat a) (Int.ofNat b)) k
noncomputable def n_and (kk : IntKind) (a b : Nat) (k : V → ZR) : ZR := @Bool.rec (fun _ => ZR) (zsm (intBin .and kk (Int.ofNat a) (Int.ofNat b)) k) (@Bool.rec (fun _ => ZR) (zsm (intBin .and kk (Int.ofNat a) (Int.ofNat b)) k) (zncas (Nat.land a b) fun a => k (.p (.lit (.int kk (Int.ofNat a))))) (Nat.blt b (zlim kk))) (Nat.blt a (zlim kk))
noncomputable def n_or (kk : IntKind) (a b : Nat) (k : V → ZR) : ZR := @Bool.rec (fun _ => ZR) (zsm (intBin .or kk (Int.ofNat a) (Int.ofNat b)) k) (@Bool.rec (fun _ => ZR) (zsm (intBin .or kk (Int.ofNat a) (Int.ofNat b)) k) (zncas (Nat.lor a b) fun a => k (.p (.lit (.int kk (Int.ofNat a))))) (Nat.blt b (zlim kk))) (Nat.blt a (zlim kk))
noncomputable def n_xor (kk : IntKind) (a b : Nat) (k : V → ZR) : ZR := @Bool.rec (fun _ => ZR) (zsm (intBin .xor kk (Int.ofNat a) (Int.ofNat b)) k) (@Bool.rec (fun _ => ZR) (zsm (intBin .xor kk (Int.ofNat a) (Int.ofNat b)) k) (zncas (Nat.xor a b) fun a => k (.p (.lit (.int kk (Int.ofNat a))))) (Nat.blt b (zlim kk))) (Nat.blt a (zlim kk))
noncomputable def n_shl (kk : IntKind) (a b : Nat) (k : V → ZR) : ZR := zsm (intBin .shl kk (Int.ofNat a) (Int.ofNat b)) k
noncomputable def n_shr (kk : IntKind) (a b : Nat) (k : V → ZR) : ZR := zsm (intBin .shr kk (Int.ofNat a) (Int.ofNat b)) k
noncomputable def n_andNot (kk : IntKind) (a b : Nat) (k : V → ZR) : ZR := zsm (intBin .andNot kk (Int.ofNat a) (Int.ofNat b)) k
noncomputable def n_eql (kk : IntKind) (a b : Nat) (k : V → ZR) : ZR := zbool (Nat.beq a b) k
noncomputable def n_neq (kk : IntKind) (a b : Nat) (k : V → ZR) : ZR := @Bool.rec (fun _ => ZR) (k (.p (.lit (.bool true)))) (k (.p (.lit (.bool false)))) (Nat.beq a b)
noncomputable def n_lss (kk : IntKind) (a b : Nat) (k : V → ZR) : ZR := zbool (Nat.blt a b) k
noncomputable def n_leq (kk : IntKind) (a b : Nat) (k : V → ZR) : ZR := zbool (Nat.ble a b) k
noncomputable def n_gtr (kk : IntKind) (a b : Nat) (k : V → ZR) : ZR := zbool (Nat.blt b a) k
noncomputable def n_geq (kk : IntKind) (a b : Nat) (k : V → ZR) : ZR := zbool (Nat.ble b a) k
noncomputable def zNN (op : BinOp) : IntKind → Nat → Nat → (V → ZR) → ZR :=
  @BinOp.rec (fun _ => IntKind → Nat → Nat → (V → ZR) → ZR) n_add n_sub n_mul n_quo n_rem n_and n_or n_xor n_shl n_shr n_andNot n_eql n_neq n_lss n_leq n_gtr n_geq op
theorem bv_small (w a : Nat) (h : a < 2 ^ w) : (BitVec.ofInt w (a : Int)) = BitVec.ofNat w a := by simp
theorem lim_le (kk : IntKind) : zlim kk ≤ 2 ^ kk.bits := by cases kk <;> simp [zlim, IntKind.bits]
theorem lim_pow (kk : IntKind) : ∃ n, zlim kk = 2 ^ n := by
  cases kk
  · exact ⟨7, rfl⟩
  · exact ⟨15, rfl⟩
  · exact ⟨31, rfl⟩
  · exact ⟨63, rfl⟩
  · exact ⟨8, rfl⟩
  · exact ⟨16, rfl⟩
  · exact ⟨32, rfl⟩
  · exact ⟨64, rfl⟩
theorem zand_eq (kk : IntKind) (a b : Nat) (ha : a < zlim kk) (hb : b < zlim kk) : kk.wrap ((BitVec.ofInt kk.bits (a : Int) &&& BitVec.ofInt kk.bits (b : Int)).toNat : Nat) = ((a &&& b : Nat) : Int) := by
  have ha' := Nat.lt_of_lt_of_le ha (lim_le kk)
  have hb' := Nat.lt_of_lt_of_le hb (lim_le kk)
  rw [bv_small _ _ ha', bv_small _ _ hb', BitVec.toNat_and, BitVec.toNat_ofNat, BitVec.toNat_ofNat, Nat.mod_eq_of_lt ha', Nat.mod_eq_of_lt hb']
  exact wrap_small kk _ (Nat.lt_of_le_of_lt Nat.and_le_left ha)
theorem zor_eq (kk : IntKind) (a b : Nat) (ha : a < zlim kk) (hb : b < zlim kk) : kk.wrap ((BitVec.ofInt kk.bits (a : Int) ||| BitVec.ofInt kk.bits (b : Int)).toNat : Nat) = ((a ||| b : Nat) : Int) := by
  have ha' := Nat.lt_of_lt_of_le ha (lim_le kk)
  have hb' := Nat.lt_of_lt_of_le hb (lim_le kk)
  rw [bv_small _ _ ha', bv_small _ _ hb', BitVec.toNat_or, BitVec.toNat_ofNat, BitVec.toNat_ofNat, Nat.mod_eq_of_lt ha', Nat.mod_eq_of_lt hb']
  obtain ⟨n, hn⟩ := lim_pow kk
  exact wrap_small kk _ (by rw [hn] at ha hb ⊢; exact Nat.or_lt_two_pow ha hb)
theorem zxor_eq (kk : IntKind) (a b : Nat) (ha : a < zlim kk) (hb : b < zlim kk) : kk.wrap ((BitVec.ofInt kk.bits (a : Int) ^^^ BitVec.ofInt kk.bits (b : Int)).toNat : Nat) = ((a ^^^ b : Nat) : Int) := by
  have ha' := Nat.lt_of_lt_of_le ha (lim_le kk)
  have hb' := Nat.lt_of_lt_of_le hb (lim_le kk)
  rw [bv_small _ _ ha', bv_small _ _ hb', BitVec.toNat_xor, BitVec.toNat_ofNat, BitVec.toNat_ofNat, Nat.mod_eq_of_lt ha', Nat.mod_eq_of_lt hb']
  obtain ⟨n, hn⟩ := lim_pow kk
  exact wrap_small kk _ (by rw [hn] at ha hb ⊢; exact Nat.xor_lt_two_pow ha hb)
theorem blt_dec (a b : Nat) : Nat.blt a b = decide (a < b) := by rw [Bool.eq_iff_iff]; simp [Nat.blt_eq]
theorem ble_dec (a b : Nat) : Nat.ble a b = decide (a ≤ b) := by rw [Bool.eq_iff_iff]; simp [Nat.ble_eq]
theorem zNN_eq (op : BinOp) (kk : IntKind) (a b : Nat) (k : V → ZR) : zNN op kk a b k = obV (intBin op kk (a : Int) (b : Int)).get k := by
  cases op
  case add => show zwN kk (a + b) k = _; rw [zwN_eq]; simp [intBin, il, SM.get, obV]
  case mul => show zwN kk (a * b) k = _; rw [zwN_eq]; simp [intBin, il, SM.get, obV]
  case sub =>
    simp only [zNN, n_sub]
    cases hb : Nat.ble b a
    · simp [zicas_eq, intBin, il, SM.get, obV]
    · show zwN kk (a - b) k = _
      have : b ≤ a := by simpa [Nat.ble_eq] using hb
      rw [zwN_eq]; simp [intBin, il, SM.get, obV, Int.ofNat_sub this]
  case and =>
    simp only [zNN, n_and, n_or, n_xor, zncas_eq, zsm_eq]
    cases ha : Nat.blt a (zlim kk)
    · rfl
    · cases hb : Nat.blt b (zlim kk)
      · rfl
      · have ha : a < zlim kk := by simpa [Nat.blt_eq] using ha
        have hb : b < zlim kk := by simpa [Nat.blt_eq] using hb
        simp only [intBin, il, SM.get, obV]
        rw [zand_eq kk a b ha hb]; rfl
  case or =>
    simp only [zNN, n_and, n_or, n_xor, zncas_eq, zsm_eq]
    cases ha : Nat.blt a (zlim kk)
    · rfl
    · cases hb : Nat.blt b (zlim kk)
      · rfl
      · have ha : a < zlim kk := by simpa [Nat.blt_eq] using ha
        have hb : b < zlim kk := by simpa [Nat.blt_eq] using hb
        simp only [intBin, il, SM.get, obV]
        rw [zor_eq kk a b ha hb]; rfl
  case xor =>
    simp only [zNN, n_and, n_or, n_xor, zncas_eq, zsm_eq]
    cases ha : Nat.blt a (zlim kk)
    · rfl
    · cases hb : Nat.blt b (zlim kk)
      · rfl
      · have ha : a < zlim kk := by simpa [Nat.blt_eq] using ha
        have hb : b < zlim kk := by simpa [Nat.blt_eq] using hb
        simp only [intBin, il, SM.get, obV]
        rw [zxor_eq kk a b ha hb]; rfl
  case eql => 
    simp only [zNN, n_eql, n_lss, n_leq, n_gtr, n_geq, zbool_eq, intBin, bl, SM.get, obV]
    congr 4
    rw [Bool.eq_iff_iff, Nat.beq_eq]; simp only [beq_iff_eq]; omega
  case neq =>
    simp only [zNN, n_neq, intBin, bl, SM.get, obV]
    cases h : Nat.beq a b
    · have : a ≠ b := by intro e; rw [← Nat.beq_eq] at e; simp [e] at h
      have h2 : ((a : Int) != (b : Int)) = true := by simp; omega
      rw [h2]
    · have : a = b := by rw [← Nat.beq_eq]; exact h
      subst this; simp
  case lss => simp only [zNN, n_eql, n_lss, n_leq, n_gtr, n_geq, zbool_eq, intBin, bl, SM.get, obV, blt_dec]; simp
  case leq => simp only [zNN, n_eql, n_lss, n_leq, n_gtr, n_geq, zbool_eq, intBin, bl, SM.get, obV, ble_dec]; simp
  case gtr => simp only [zNN, n_eql, n_lss, n_leq, n_gtr, n_geq, zbool_eq, intBin, bl, SM.get, obV, blt_dec]; simp
  case geq => simp only [zNN, n_eql, n_lss, n_leq, n_gtr, n_geq, zbool_eq, intBin, bl, SM.get, obV, ble_dec]; simp
  all_goals simp only [zNN, n_quo, n_rem, n_shl, n_shr, n_andNot, zsm_eq]; rfl
/-- Two numbers. -/
noncomputable def zII (f : IntKind → Nat → Nat → (V → ZR) → ZR) (op : BinOp) (kk : IntKind) (x y : Int) (k : V → ZR) : ZR :=
  @Int.rec (fun _ => ZR) (fun a => @Int.rec (fun _ => ZR) (fun b => f kk a b k) (fun b => zsm (intBin op kk (Int.ofNat a) (Int.negSucc b)) k) y) (fun a => zsm (intBin op kk (Int.negSucc a) y) k) x
theorem zII_eq (op : BinOp) (kk : IntKind) (x y : Int) (k : V → ZR) : zII (zNN op) op kk x y k = obV (intBin op kk x y).get k := by
  cases x
  · cases y
    · exact zNN_eq op kk _ _ k
    · simp [zII, zsm_eq]
  · simp [zII, zsm_eq]
noncomputable def zkeq (a b : IntKind) : Bool :=
  @IntKind.rec (fun _ => IntKind → Bool) (@IntKind.rec (fun _ => Bool) true false false false false false false false) (@IntKind.rec (fun _ => Bool) false true false false false false false false) (@IntKind.rec (fun _ => Bool) false false true false false false false false) (@IntKind.rec (fun _ => Bool) false false false true false false false false) (@IntKind.rec (fun _ => Bool) false false false false true false false false) (@IntKind.rec (fun _ => Bool) false false false false false true false false) (@IntKind.rec (fun _ => Bool) false false false false false false true false) (@IntKind.rec (fun _ => Bool) false false false false false false false true) a b
theorem zkeq_eq (a b : IntKind) : zkeq a b = decide (a = b) := by cases a <;> cases b <;> rfl
/-- Shifts of numbers from 0 on. -/
noncomputable def zshl (kk : IntKind) (x y : Int) (k : V → ZR) : ZR :=
  @Int.rec (fun _ => ZR) (fun a => @Int.rec (fun _ => ZR) (fun b => @Bool.rec (fun _ => ZR) (zsm (shiftBin .shl kk (Int.ofNat a) (Int.ofNat b)) k) (zwN kk (Nat.mul a (Nat.pow 2 b)) k) (Nat.ble b (zbits kk))) (fun b => zsm (shiftBin .shl kk (Int.ofNat a) (Int.negSucc b)) k) y) (fun a => zsm (shiftBin .shl kk (Int.negSucc a) y) k) x
theorem zbits_eq (kk : IntKind) : zbits kk = kk.bits := by cases kk <;> rfl
theorem zshl_eq (kk : IntKind) (x y : Int) (k : V → ZR) : zshl kk x y k = obV (shiftBin .shl kk x y).get k := by
  cases x
  · rename_i a
    cases y
    · rename_i b
      simp only [zshl]
      cases hb : Nat.ble b (zbits kk)
      · simp [zsm_eq]
      · have h : b ≤ kk.bits := by rw [← zbits_eq]; simpa [Nat.ble_eq] using hb
        show zwN kk (a * 2 ^ b) k = _
        rw [zwN_eq]
        have h0 : decide ((0 : Int) ≤ Int.ofNat b) = true := by simp
        have hm : min b kk.bits = b := Nat.min_eq_left h
        simp only [shiftBin, SM.get, h0, il, obV]
        show _ = k (V.p (D.lit (Value.int kk (kk.wrap ((a : Int) * 2 ^ (min b kk.bits))))))
        rw [hm]; simp
    · simp [zshl, zsm_eq]
  · simp [zshl, zsm_eq]
noncomputable def zshr (kk : IntKind) (x y : Int) (k : V → ZR) : ZR :=
  @Int.rec (fun _ => ZR) (fun a => @Int.rec (fun _ => ZR) (fun b => @Bool.rec (fun _ => ZR) (zsm (shiftBin .shr kk (Int.ofNat a) (Int.ofNat b)) k) (zncas (Nat.div a (Nat.pow 2 b)) fun a => k (.p (.lit (.int kk (Int.ofNat a))))) (Nat.ble b (zbits kk))) (fun b => zsm (shiftBin .shr kk (Int.ofNat a) (Int.negSucc b)) k) y) (fun a => zsm (shiftBin .shr kk (Int.negSucc a) y) k) x
theorem zshr_eq (kk : IntKind) (x y : Int) (k : V → ZR) : zshr kk x y k = obV (shiftBin .shr kk x y).get k := by
  cases x
  · rename_i a
    cases y
    · rename_i b
      simp only [zshr]
      cases hb : Nat.ble b (zbits kk)
      · simp [zsm_eq]
      · have h : b ≤ kk.bits := by rw [← zbits_eq]; simpa [Nat.ble_eq] using hb
        simp only [zncas_eq]
        have h0 : decide ((0 : Int) ≤ Int.ofNat b) = true := by simp
        have hm : min b kk.bits = b := Nat.min_eq_left h
        simp only [shiftBin, SM.get, h0, il, obV]
        show _ = k (V.p (D.lit (Value.int kk ((a : Int).fdiv (2 ^ (min b kk.bits))))))
        rw [hm, Int.fdiv_eq_ediv_of_nonneg _ (Int.pow_nonneg (by omega))]
        rfl
    · simp [zshr, zsm_eq]
  · simp [zshr, zsm_eq]
noncomputable def i_of (f : IntKind → Nat → Nat → (V → ZR) → ZR) (op : BinOp) (kk kk' : IntKind) (x y : Int) (k : V → ZR) : ZR := zif (zkeq kk kk') (zII f op kk x y k) none
abbrev IOp := IntKind → IntKind → Int → Int → (V → ZR) → ZR
noncomputable def i_shl : IOp := fun kk _ x y k => zshl kk x y k
noncomputable def i_shr : IOp := fun kk _ x y k => zshr kk x y k
noncomputable def zintop (op : BinOp) : IOp := @BinOp.rec (fun _ => IOp) (i_of n_add .add) (i_of n_sub .sub) (i_of n_mul .mul) (i_of n_quo .quo) (i_of n_rem .rem) (i_of n_and .and) (i_of n_or .or) (i_of n_xor .xor) i_shl i_shr (i_of n_andNot .andNot) (i_of n_eql .eql) (i_of n_neq .neq) (i_of n_lss .lss) (i_of n_leq .leq) (i_of n_gtr .gtr) (i_of n_geq .geq) op
theorem zintop_eq (C : Ctx) (t : Nat) (op : BinOp) (kk kk' : IntKind) (x y : Int) (k : V → ZR) : zintop op kk kk' x y k = obV (bin C t op (.p (.lit (.int kk x))) (.p (.lit (.int kk' y)))).get k := by
  have key : ∀ op, i_of (zNN op) op kk kk' x y k = obV (SM.chk (decide (kk = kk')) (intBin op kk x y)).get k := by
    intro op
    simp only [i_of, zII_eq, zkeq_eq, SM.get, zif_eq]
    cases decide (kk = kk') <;> rfl
  cases op
  case shl => exact zshl_eq kk x y k
  case shr => exact zshr_eq kk x y k
  case add => exact key .add
  case sub => exact key .sub
  case mul => exact key .mul
  case quo => exact key .quo
  case rem => exact key .rem
  case and => exact key .and
  case or => exact key .or
  case xor => exact key .xor
  case andNot => exact key .andNot
  case eql => exact key .eql
  case neq => exact key .neq
  case lss => exact key .lss
  case leq => exact key .leq
  case gtr => exact key .gtr
  case geq => exact key .geq
end Go.Abs
