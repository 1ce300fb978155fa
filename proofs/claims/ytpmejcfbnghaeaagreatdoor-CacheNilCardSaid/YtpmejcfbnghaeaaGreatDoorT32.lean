/- The interpreter's texts: part of the proof that CacheNil answers true; no condition. -/
import Derived.Test.YtpmejcfbnghaeaaGreatDoorT21
namespace Go.Abs
set_option maxRecDepth 100000
/-- Turned to the right by k. -/
def rotN (x k : Nat) : Nat := (x * 2 ^ (32 - k) % 4294967296) ||| (x / 2 ^ k)
def u32 (x : Nat) : D := .lit (.int .u32 x)
theorem rotl (x k : Nat) (hx : x < 4294967296) (hk : k = 7 ∨ k = 18 ∨ k = 3 ∨ k = 17 ∨ k = 19 ∨ k = 10 ∨ k = 6 ∨ k = 11 ∨ k = 25 ∨ k = 2 ∨ k = 13 ∨ k = 22) : ACalls ctxR 275 [.p (u32 x), .p (.lit (.int .i64 (0 - k)))] [] (fun r _ => r.toD = some (u32 (rotN x k))) := by
  have fin : ∀ j i : Nat, i + j = 32 → some (D.lit (Value.int IntKind.u32 (IntKind.u32.wrap (((BitVec.ofInt IntKind.u32.bits (IntKind.u32.wrap ((x : Int) * 2 ^ j)) ||| BitVec.ofInt IntKind.u32.bits ((x : Int).fdiv (2 ^ i))).toNat : Nat) : Int)))) = some (u32 (rotN x i)) := by
    intro j i hij
    rw [shl32, shrN, or32 _ _ (Nat.mod_lt _ (by omega)) (Nat.lt_of_le_of_lt (Nat.div_le_self _ _) hx), show j = 32 - i by omega]
    rfl
  rcases hk with rfl | rfl | rfl | rfl | rfl | rfl | rfl | rfl | rfl | rfl | rfl | rfl
  all_goals
    refine ACalls_of_awp ctxOkR (fn := Go.Proofs.Tryz.f275) (Ann.none 17 0) 60 (by kernel_rfl) rfl rfl rfl rfl ?_
    conv => whnf
  · exact fin 25 7 rfl
  · exact fin 14 18 rfl
  · exact fin 29 3 rfl
  · exact fin 15 17 rfl
  · exact fin 13 19 rfl
  · exact fin 22 10 rfl
  · exact fin 26 6 rfl
  · exact fin 21 11 rfl
  · exact fin 7 25 rfl
  · exact fin 30 2 rfl
  · exact fin 19 13 rfl
  · exact fin 10 22 rfl
end Go.Abs
namespace Go.Abs
set_option maxRecDepth 100000
theorem rotN_lt (x k : Nat) (hx : x < 4294967296) : rotN x k < 4294967296 :=
  Nat.or_lt_two_pow (n := 32) (Nat.mod_lt _ (by omega)) (Nat.lt_of_le_of_lt (Nat.div_le_self _ _) hx)
def rotS (x a b c : Nat) : Nat := rotN x a ^^^ rotN x b ^^^ (x / 2 ^ c)
def rotL (x a b c : Nat) : Nat := rotN x a ^^^ rotN x b ^^^ rotN x c
theorem xor3 (a b c : Nat) (ha : a < 4294967296) (hb : b < 4294967296) (hc : c < 4294967296) : IntKind.u32.wrap (((BitVec.ofInt IntKind.u32.bits (IntKind.u32.wrap (((BitVec.ofInt IntKind.u32.bits (a : Int) ^^^ BitVec.ofInt IntKind.u32.bits (b : Int)).toNat : Nat) : Int)) ^^^ BitVec.ofInt IntKind.u32.bits (c : Int)).toNat : Nat) : Int) = ((a ^^^ b ^^^ c : Nat) : Int) := by
  rw [xor32 a b ha hb, xor32 _ _ (Nat.xor_lt_two_pow (n := 32) ha hb) hc]
theorem rotA (x : Nat) (hx : x < 4294967296) : ACalls ctxR 253 [.p (u32 x), .p (.lit (.int .i64 7)), .p (.lit (.int .i64 18)), .p (.lit (.int .i64 3)), .p (.lit (.bool true))] [] (fun r _ => r.toD = some (u32 (rotS x 7 18 3))) := by
  refine ACalls_of_awp ctxOkR (fn := Go.Proofs.Tryz.f253) (Ann.none 31 0) 60 (by kernel_rfl) rfl rfl rfl rfl ?_
  conv => whnf
  refine .inl ⟨_, rfl, (rotl x 3 hx (by simp)).mono fun r _ hr => ⟨_, hr, ?_⟩⟩
  conv => whnf
  refine .inl ⟨_, rfl, (rotl x 7 hx (by simp)).mono fun r _ hr => ⟨_, hr, ?_⟩⟩
  conv => whnf
  refine .inl ⟨_, rfl, (rotl x 18 hx (by simp)).mono fun r _ hr => ⟨_, hr, ?_⟩⟩
  conv => whnf
  show some (D.lit (Value.int IntKind.u32 (IntKind.u32.wrap (((BitVec.ofInt IntKind.u32.bits (IntKind.u32.wrap (((BitVec.ofInt IntKind.u32.bits ((rotN x 7 : Nat) : Int) ^^^ BitVec.ofInt IntKind.u32.bits ((rotN x 18 : Nat) : Int)).toNat : Nat) : Int)) ^^^ BitVec.ofInt IntKind.u32.bits ((x : Int).fdiv (2 ^ 3))).toNat : Nat) : Int)))) = _
  rw [shrN, xor3 _ _ _ (rotN_lt x _ hx) (rotN_lt x _ hx) (Nat.lt_of_le_of_lt (Nat.div_le_self _ _) hx)]
  rfl
theorem rotB (x : Nat) (hx : x < 4294967296) : ACalls ctxR 253 [.p (u32 x), .p (.lit (.int .i64 17)), .p (.lit (.int .i64 19)), .p (.lit (.int .i64 10)), .p (.lit (.bool true))] [] (fun r _ => r.toD = some (u32 (rotS x 17 19 10))) := by
  refine ACalls_of_awp ctxOkR (fn := Go.Proofs.Tryz.f253) (Ann.none 31 0) 60 (by kernel_rfl) rfl rfl rfl rfl ?_
  conv => whnf
  refine .inl ⟨_, rfl, (rotl x 10 hx (by simp)).mono fun r _ hr => ⟨_, hr, ?_⟩⟩
  conv => whnf
  refine .inl ⟨_, rfl, (rotl x 17 hx (by simp)).mono fun r _ hr => ⟨_, hr, ?_⟩⟩
  conv => whnf
  refine .inl ⟨_, rfl, (rotl x 19 hx (by simp)).mono fun r _ hr => ⟨_, hr, ?_⟩⟩
  conv => whnf
  show some (D.lit (Value.int IntKind.u32 (IntKind.u32.wrap (((BitVec.ofInt IntKind.u32.bits (IntKind.u32.wrap (((BitVec.ofInt IntKind.u32.bits ((rotN x 17 : Nat) : Int) ^^^ BitVec.ofInt IntKind.u32.bits ((rotN x 19 : Nat) : Int)).toNat : Nat) : Int)) ^^^ BitVec.ofInt IntKind.u32.bits ((x : Int).fdiv (2 ^ 10))).toNat : Nat) : Int)))) = _
  rw [shrN, xor3 _ _ _ (rotN_lt x _ hx) (rotN_lt x _ hx) (Nat.lt_of_le_of_lt (Nat.div_le_self _ _) hx)]
  rfl
theorem rotC (x : Nat) (hx : x < 4294967296) : ACalls ctxR 253 [.p (u32 x), .p (.lit (.int .i64 6)), .p (.lit (.int .i64 11)), .p (.lit (.int .i64 25)), .p (.lit (.bool false))] [] (fun r _ => r.toD = some (u32 (rotL x 6 11 25))) := by
  refine ACalls_of_awp ctxOkR (fn := Go.Proofs.Tryz.f253) (Ann.none 31 0) 60 (by kernel_rfl) rfl rfl rfl rfl ?_
  conv => whnf
  refine .inl ⟨_, rfl, (rotl x 25 hx (by simp)).mono fun r _ hr => ⟨_, hr, ?_⟩⟩
  conv => whnf
  refine .inl ⟨_, rfl, (rotl x 6 hx (by simp)).mono fun r _ hr => ⟨_, hr, ?_⟩⟩
  conv => whnf
  refine .inl ⟨_, rfl, (rotl x 11 hx (by simp)).mono fun r _ hr => ⟨_, hr, ?_⟩⟩
  conv => whnf
  show some (D.lit (Value.int IntKind.u32 (IntKind.u32.wrap (((BitVec.ofInt IntKind.u32.bits (IntKind.u32.wrap (((BitVec.ofInt IntKind.u32.bits ((rotN x 6 : Nat) : Int) ^^^ BitVec.ofInt IntKind.u32.bits ((rotN x 11 : Nat) : Int)).toNat : Nat) : Int)) ^^^ BitVec.ofInt IntKind.u32.bits ((rotN x 25 : Nat) : Int)).toNat : Nat) : Int)))) = _
  rw [xor3 _ _ _ (rotN_lt x _ hx) (rotN_lt x _ hx) (rotN_lt x _ hx)]
  rfl
theorem rotD (x : Nat) (hx : x < 4294967296) : ACalls ctxR 253 [.p (u32 x), .p (.lit (.int .i64 2)), .p (.lit (.int .i64 13)), .p (.lit (.int .i64 22)), .p (.lit (.bool false))] [] (fun r _ => r.toD = some (u32 (rotL x 2 13 22))) := by
  refine ACalls_of_awp ctxOkR (fn := Go.Proofs.Tryz.f253) (Ann.none 31 0) 60 (by kernel_rfl) rfl rfl rfl rfl ?_
  conv => whnf
  refine .inl ⟨_, rfl, (rotl x 22 hx (by simp)).mono fun r _ hr => ⟨_, hr, ?_⟩⟩
  conv => whnf
  refine .inl ⟨_, rfl, (rotl x 2 hx (by simp)).mono fun r _ hr => ⟨_, hr, ?_⟩⟩
  conv => whnf
  refine .inl ⟨_, rfl, (rotl x 13 hx (by simp)).mono fun r _ hr => ⟨_, hr, ?_⟩⟩
  conv => whnf
  show some (D.lit (Value.int IntKind.u32 (IntKind.u32.wrap (((BitVec.ofInt IntKind.u32.bits (IntKind.u32.wrap (((BitVec.ofInt IntKind.u32.bits ((rotN x 2 : Nat) : Int) ^^^ BitVec.ofInt IntKind.u32.bits ((rotN x 13 : Nat) : Int)).toNat : Nat) : Int)) ^^^ BitVec.ofInt IntKind.u32.bits ((rotN x 22 : Nat) : Int)).toNat : Nat) : Int)))) = _
  rw [xor3 _ _ _ (rotN_lt x _ hx) (rotN_lt x _ hx) (rotN_lt x _ hx)]
  rfl
end Go.Abs
namespace Go.Abs
set_option maxRecDepth 100000
def u64 (x : Nat) : D := .lit (.int .u64 x)
def i64 (x : Nat) : D := .lit (.int .i64 x)
theorem getstep (m a : Nat) (hm : m < 72057594037927936) (ha : a < 256) : IntKind.u64.wrap (((BitVec.ofInt IntKind.u64.bits (IntKind.u64.wrap ((m : Int) * 2 ^ 8)) ||| BitVec.ofInt IntKind.u64.bits (IntKind.u64.wrap (a : Int))).toNat : Nat) : Int) = ((m * 256 + a : Nat) : Int) := by
  rw [shl64, wrap64 a, Nat.mod_eq_of_lt (a := m * 2 ^ 8) (by omega), Nat.mod_eq_of_lt (a := a) (by omega), or64 _ _ (by omega) (by omega)]
  have := Nat.two_pow_add_eq_or_of_lt (i := 8) ha m
  congr 1
  rw [show m * 2 ^ 8 = 2 ^ 8 * m by omega, ← this, show 2 ^ 8 * m = m * 256 by omega]
def get4 (a b c d : Nat) : Nat := ((a * 256 + b) * 256 + c) * 256 + d
theorem get4_ok (a b c d : UInt8) : ACalls ctxR 133 [.p (.lit (.string ⟨#[a, b, c, d]⟩))] [] (fun r _ => r.toD = some (.tup [u64 (get4 a.toNat b.toNat c.toNat d.toNat), i64 0])) := by
  refine ACalls_of_awp ctxOkR (fn := Go.Proofs.Tryz.f133) (Ann.none 25 0) 60 (by kernel_rfl) rfl rfl rfl rfl ?_
  conv => whnf
  refine .inl ⟨10, ?_⟩
  conv => whnf
  have ha := a.toNat_lt; have hb := b.toNat_lt; have hc := c.toNat_lt; have hd := d.toNat_lt
  have h1 := getstep 0 a.toNat (by omega) (by omega)
  have h2 := getstep a.toNat b.toNat (by omega) (by omega)
  have h3 := getstep (a.toNat * 256 + b.toNat) c.toNat (by omega) (by omega)
  have h4 := getstep ((a.toNat * 256 + b.toNat) * 256 + c.toNat) d.toNat (by omega) (by omega)
  rw [Nat.zero_mul, Nat.zero_add] at h1
  rw [← h3, ← h2, ← h1] at h4
  show some (D.tup [D.lit (Value.int IntKind.u64 _), i64 0]) = _
  refine Eq.trans ?_ (congrArg (fun z => some (D.tup [D.lit (Value.int IntKind.u64 z), i64 0])) h4)
  rfl
end Go.Abs
namespace Go.Abs
set_option maxRecDepth 100000
def getB (t : ByteArray) : Nat := match t.data.toList with
  | [a, b, c, d] => get4 a.toNat b.toNat c.toNat d.toNat
  | _ => 0
theorem getB_ok (t : ByteArray) (ht : t.size = 4) : ACalls ctxR 133 [.p (.lit (.string t))] [] (fun r _ => r.toD = some (.tup [u64 (getB t), i64 0])) := by
  obtain ⟨⟨l⟩⟩ := t
  match l, ht with
  | [a, b, c, d], _ => exact get4_ok a b c d
def W16 (s : ByteArray) (i : Nat) : Nat := getB (s.extract (4 * i) (4 * i + 4)) % 4294967296
structure W8 where
  (a b c d e f g h : Nat)
def W8.ds (v : W8) : List D := [u32 v.a, u32 v.b, u32 v.c, u32 v.d, u32 v.e, u32 v.f, u32 v.g, u32 v.h]
def cells1 (s : ByteArray) (i : Nat) : List V := (List.range 64).map fun j => .p (u32 (if j < i then W16 s j else 0))
end Go.Abs
namespace Go.Abs
set_option maxRecDepth 100000
def W8.lt (v : W8) : Prop := v.a < 4294967296 ∧ v.b < 4294967296 ∧ v.c < 4294967296 ∧ v.d < 4294967296 ∧ v.e < 4294967296 ∧ v.f < 4294967296 ∧ v.g < 4294967296 ∧ v.h < 4294967296
def xN (v : W8) (k w : Nat) : Nat := (v.h + rotL v.e 6 11 25 + ((v.e &&& v.f) ||| ((4294967295 ^^^ v.e) &&& v.g)) + k + w) % 4294967296
def yN (v : W8) : Nat := (rotL v.a 2 13 22 + ((v.a &&& v.b) ||| (v.c &&& (v.a ||| v.b)))) % 4294967296
def round (v : W8) (k w : Nat) : W8 := ⟨(xN v k w + yN v) % 4294967296, v.a, v.b, v.c, (v.d + xN v k w) % 4294967296, v.e, v.f, v.g⟩
def bop (f : BitVec 32 → BitVec 32 → BitVec 32) (a b : Int) : Int := IntKind.u32.wrap (((f (BitVec.ofInt 32 a) (BitVec.ofInt 32 b)).toNat : Nat) : Int)
theorem bor (a b : Nat) (ha : a < 4294967296) (hb : b < 4294967296) : bop (· ||| ·) a b = ((a ||| b : Nat) : Int) := or32 a b ha hb
theorem band (a b : Nat) (ha : a < 4294967296) (hb : b < 4294967296) : bop (· &&& ·) a b = ((a &&& b : Nat) : Int) := and32 a b ha hb
theorem bxor (a b : Nat) (ha : a < 4294967296) (hb : b < 4294967296) : bop (· ^^^ ·) a b = ((a ^^^ b : Nat) : Int) := xor32 a b ha hb
def w32 (n : Int) : Int := IntKind.u32.wrap n
theorem w32_add (a b : Nat) : w32 ((a : Int) + (b : Int)) = (((a + b) % 4294967296 : Nat) : Int) := add32 a b
def xI (v : W8) (k w : Nat) : Int := w32 (w32 (w32 (w32 ((v.h : Int) + ((rotL v.e 6 11 25 : Nat) : Int)) + bop (· ||| ·) (bop (· &&& ·) v.e v.f) (bop (· &&& ·) (bop (· ^^^ ·) ((4294967295 : Nat) : Int) v.e) v.g)) + (k : Int)) + (w : Int))
def yI (v : W8) : Int := w32 (((rotL v.a 2 13 22 : Nat) : Int) + bop (· ||| ·) (bop (· &&& ·) v.a v.b) (bop (· &&& ·) v.c (bop (· ||| ·) v.a v.b)))
theorem xI_eq (v : W8) (k w : Nat) (hv : v.lt) : xI v k w = ((xN v k w : Nat) : Int) := by
  obtain ⟨ha, hb, hc, hd, he, hf, hg, hh⟩ := hv
  have h1 : v.e &&& v.f < 4294967296 := Nat.lt_of_le_of_lt Nat.and_le_left he
  have h2 : 4294967295 ^^^ v.e < 4294967296 := Nat.xor_lt_two_pow (n := 32) (by omega) he
  have h3 : (4294967295 ^^^ v.e) &&& v.g < 4294967296 := Nat.lt_of_le_of_lt Nat.and_le_right hg
  unfold xI xN
  rw [band v.e v.f he hf, bxor 4294967295 v.e (by omega) he, band _ v.g h2 hg, bor _ _ h1 h3, w32_add, w32_add, w32_add, w32_add]
  congr 1
  omega
theorem yI_eq (v : W8) (hv : v.lt) : yI v = ((yN v : Nat) : Int) := by
  obtain ⟨ha, hb, hc, hd, he, hf, hg, hh⟩ := hv
  have h1 : v.a &&& v.b < 4294967296 := Nat.lt_of_le_of_lt Nat.and_le_left ha
  have h2 : v.a ||| v.b < 4294967296 := Nat.or_lt_two_pow (n := 32) ha hb
  have h3 : v.c &&& (v.a ||| v.b) < 4294967296 := Nat.lt_of_le_of_lt Nat.and_le_left hc
  unfold yI yN
  rw [band v.a v.b ha hb, bor v.a v.b ha hb, band v.c _ hc h2, bor _ _ h1 h3, w32_add]
theorem round_lt (v : W8) (k w : Nat) (hv : v.lt) : (round v k w).lt := by
  obtain ⟨ha, hb, hc, hd, he, hf, hg, hh⟩ := hv
  exact ⟨Nat.mod_lt _ (by omega), ha, hb, hc, Nat.mod_lt _ (by omega), he, hf, hg⟩
end Go.Abs
