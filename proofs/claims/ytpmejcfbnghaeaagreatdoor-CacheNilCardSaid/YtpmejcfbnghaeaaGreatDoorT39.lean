/- What the law reaches: the closed facts of the row. -/
import Derived.Test.YtpmejcfbnghaeaaGreatDoorRows
import Derived.Test.YtpmejcfbnghaeaaGreatDoorCards
import Derived.JoinedOf
import Derived.KernelRfl
namespace Go.Proofs.YtpmejcfbnghaeaaGreatDoor
open Go
/-- The walk over what is called, what was seen kept as one number's bits. -/
def visit (lead : Nat → List Nat) : Nat → List Nat → List Nat → Nat → List Nat
  | 0, _, seen, _ => seen.reverse
  | _ + 1, [], seen, _ => seen.reverse
  | n + 1, f :: todo, seen, m => match m.testBit f with
    | true => visit lead n todo seen m
    | false => visit lead n (lead f ++ todo) (f :: seen) (m ||| (1 <<< f))
theorem closureVia_visit (P : Program) : ∀ (n : Nat) (todo seen : List Nat) (m : Nat), (∀ f, m.testBit f = seen.contains f) → P.closureVia n todo seen = visit (fun f => (P.funcs[f]?).elim [] P.leadsTo) n todo seen m
  | 0, todo, seen, m, _ => by cases todo <;> rfl
  | n + 1, [], seen, m, _ => rfl
  | n + 1, f :: todo, seen, m, h => by
    unfold Program.closureVia visit
    rw [h f]
    cases hc : seen.contains f with
    | true =>
      simp only [if_true]
      exact closureVia_visit P n todo seen m h
    | false =>
      simp only [Bool.false_eq_true, if_false]
      refine closureVia_visit P n _ (f :: seen) _ fun g => ?_
      rw [Nat.testBit_or, h g, Nat.testBit_shiftLeft, List.contains_cons]
      by_cases hg : g = f
      · subst hg; simp
      · have : (g == f) = false := by simpa using hg
        rw [this]
        rcases Nat.lt_or_ge g f with hl | hl
        · simp; omega
        · have h1 : (1 : Nat).testBit (g - f) = false := Nat.testBit_lt_two_pow (Nat.one_lt_two_pow (by omega))
          simp [h1]
noncomputable def leads3 (f : Nat) : List Nat := (Tryz.prog.funcs[f]?).elim [] Tryz.prog.leadsTo
def reach3 : List Nat := [3, 4, 15, 5, 18, 40, 68, 125, 128, 126, 127, 188, 69, 129, 189, 19, 20, 41, 70, 71, 130, 190, 230, 131, 108, 177, 98, 172, 136, 198, 238, 265, 239, 266, 199, 166, 220, 250, 273, 293, 294, 205, 165, 106, 221, 251, 274, 222, 252, 223, 133, 253, 275, 42, 72, 132, 73, 62, 61, 48, 99, 100, 101, 173, 60, 119, 179, 180, 225, 254, 63, 120, 93, 121, 92, 167, 91, 162, 217, 249, 218, 163, 164, 219, 21, 43, 52, 74, 134, 191, 192, 194, 231, 232, 260, 234, 233, 193, 196, 236, 235, 195, 89, 156, 215, 157, 158, 216, 159, 22, 44, 75, 76, 135, 197, 237, 261, 262, 282, 281, 283, 263, 264, 284, 285, 300, 301, 46, 90, 160, 148, 207, 161, 94, 95, 155, 168, 169, 96, 97, 170, 171, 77, 137, 147, 139, 200, 240, 241, 201, 242, 140, 138, 78, 141, 143, 144, 142, 202, 145, 203, 243, 267, 286, 287, 302, 268, 288, 244, 269, 289, 303, 290, 291, 292, 304, 204, 146, 206, 79, 80, 149, 23, 45, 49, 102, 103, 104, 105, 81, 150, 208, 209, 245, 270, 82, 83, 151, 84, 152, 210, 211, 246, 271, 85, 86, 153, 212, 213, 247, 272, 87, 88, 154, 214, 248, 47, 16, 38, 25, 50, 51, 107, 174, 175, 176, 224, 109, 110, 65, 122, 181, 226, 185, 228, 182, 227, 255, 256, 276, 295, 305, 310, 257, 277, 296, 306, 311, 323, 330, 324, 331, 333, 335, 336, 334, 337, 338, 339, 342, 343, 344, 341, 340, 312, 67, 124, 183, 184, 66, 123, 186, 229, 258, 279, 299, 278, 297, 307, 298, 309, 322, 308, 313, 319, 314, 325, 315, 326, 327, 316, 328, 329, 332, 317, 318, 320, 321, 280, 259, 187, 17, 39, 33, 24, 58, 59, 7, 28, 27, 26, 6, 8, 30, 56, 29, 53, 55, 114, 115, 54, 111, 112, 113, 178, 31, 57, 116, 117, 118, 9, 32, 10, 34, 64, 11, 35, 12, 36, 13, 14, 37]
theorem fuel3 : (1 + (Tryz.prog.funcs.toList.map fun g => (Tryz.prog.leadsTo g).length + 1).sum) = 1021 := by kernel_rfl
theorem visit3 : visit leads3 1021 [3] [] 0 = reach3 := by kernel_rfl
theorem closure3 : Tryz.prog.closure 3 = reach3 := by
  unfold Program.closure
  rw [fuel3, closureVia_visit Tryz.prog 1021 [3] [] 0 (fun f => by simp)]
  exact visit3
end Go.Proofs.YtpmejcfbnghaeaaGreatDoor
