/- An abstract interpreter of the model's code over values without addresses: the definitions. -/
import Derived.WalkKit
import Derived.Orders
import Derived.LoopN
import Derived.ScopeJumps
import Derived.Laws.Externs
namespace Go.Abs
set_option linter.unusedVariables false

/-- Data that never changes: scalars, structs and arrays by their cells, slices by their elements, addresses of cells that never change. -/
inductive D where
  | lit (v : Value)
  | agg (l : List D)
  | sl (xs : List D) (full : Bool)
  | rp (cs : List D)
  | fn (f : Nat) (caps : List D)
  | ifc (t : Nat) (d : D)
  | tup (l : List D)
  | mp (ks vs : List D)
instance : Inhabited D := ⟨.lit undef⟩

/-- Values: data; what isn't known; a slice that may be appended to; a slice, a pointer into a block of the call's own. -/
inductive V where
  | p (d : D)
  | top
  | vec (b s : Nat) (xs : List D)
  | vptr (b s : Nat) (xs : List D)
  | row (b ver off len s : Nat)
  | own (b ver off len s : Nat) (full : Bool)
  | ptr (b ver off : Nat)
  | agg (l : List V)
  | fn (f : Nat) (caps : List V)
  | tup (l : List V)
  | mp (b : Nat)
  | bfn (f : Nat) (first : List V)
instance : Inhabited V := ⟨.top⟩

/-- A block of cells: made element by element, or one variable of a type. -/
inductive Lz where
  | z | t (T : Nat) | r (T : Nat)
/-- The call's own blocks: cells; the right to append behind n elements of s cells each; what is no more; a map's keys, and what they lead to. -/
inductive AObj where
  | cells (lz : Lz) (ver : Nat) (cs : List V)
  | tok (T s n : Nat)
  | dead (ver : Nat)
  | map (ks vs : List V)
abbrev AHeap := List AObj
abbrev Env := List (Nat × V)

inductive TK where
  | int (k : IntKind) | str | bool | slice (e : Nat) | array (n e : Nat) | struct (fs : List (Nat × Nat)) | ptr (e : Nat) | ifc | uptr | map (k e : Nat) | flt (k : FloatKind) | cpx (k : FloatKind) | other | bad
/-- A type: its kind, its cells, its bytes, its zero's cells; may two be compared cell by cell? -/
structure TI where
  kind : TK
  size : Nat
  bytes : Nat
  zero : List D
  cmp : Bool
def TI.agg (t : TI) : Bool := match t.kind with
  | .array _ _ => true
  | .struct _ => true
  | _ => false
/-- What stands in for a function that has no body. -/
inductive Xt where
  | none | idx | cnt | same
structure Ctx where
  P : Program
  ty : Nat → TI
  fns : Nat → Bool
  glob : Nat → Option (List D)
  ext : Nat → Xt
  rows : Bool

def D.cells : D → List D
  | .agg l => l
  | d => [d]
/-- A value's cells, where it is one that has some. -/
def V.flat : V → Option (List V)
  | .p d => match d with
    | .agg l => some (l.map .p)
    | .tup _ => none
    | d => some [.p d]
  | .agg l => some l
  | .tup _ => none
  | .top => none
  | v => some [v]
/-- A type that is told. -/
def tyOf (C : Ctx) (t : Nat) : Option TI := match (C.ty t).kind with
  | .bad => none
  | _ => some (C.ty t)
/-- The element type of a slice. -/
def elemTI (C : Ctx) (t : Nat) : Option TI := match (C.ty t).kind with
  | .slice e => tyOf C e
  | _ => none
def elemId (C : Ctx) (t : Nat) : Nat := match (C.ty t).kind with
  | .slice e => e
  | _ => 0
/-- An array's length, its element type. -/
def arrTI (C : Ctx) (t : Nat) : Option (Nat × TI) := match (C.ty t).kind with
  | .array n e => match tyOf C e with
    | some i => some (n, i)
    | none => none
  | _ => none

mutual
def V.toD : V → Option D
  | .p d => some d
  | .vec _ _ xs => some (.sl xs false)
  | .agg l => match toDs l with
    | some ds => some (.agg ds)
    | none => none
  | .tup l => match toDs l with
    | some ds => some (.tup ds)
    | none => none
  | .fn f l => match toDs l with
    | some ds => some (.fn f ds)
    | none => none
  | _ => none
def toDs : List V → Option (List D)
  | [] => some []
  | v :: r => match V.toD v with
    | some d => match toDs r with
      | some ds => some (d :: ds)
      | none => none
    | none => none
end

/-! Forms that a run by 'whnf' lays open -/
def V.cas {α : Type} (v : V) (k : V → α) : α := match v with
  | .p d => k (.p d)
  | .top => k .top
  | .vec b s xs => k (.vec b s xs)
  | .vptr b s xs => k (.vptr b s xs)
  | .row b ver off len s => k (.row b ver off len s)
  | .own b ver off len s full => k (.own b ver off len s full)
  | .ptr b ver off => k (.ptr b ver off)
  | .agg l => k (.agg l)
  | .fn f l => k (.fn f l)
  | .tup l => k (.tup l)
  | .mp b => k (.mp b)
  | .bfn f l => k (.bfn f l)
theorem V.cas_eq {α : Type} (v : V) (k : V → α) : v.cas k = k v := by cases v <;> rfl
def spine {α β : Type} : List α → (List α → β) → β
  | [], k => k []
  | x :: r, k => spine r fun r' => k (x :: r')
theorem spine_eq {α β : Type} : ∀ (l : List α) (k : List α → β), spine l k = k l
  | [], _ => rfl
  | x :: r, k => by rw [spine, spine_eq r]
def AObj.cas {α : Type} (o : AObj) (k : AObj → α) : α := match o with
  | .cells .z ver cs => k (.cells .z ver cs)
  | .cells (.t T) ver cs => spine cs fun cs => k (.cells (.t T) ver cs)
  | .cells (.r T) ver cs => spine cs fun cs => k (.cells (.r T) ver cs)
  | .tok T s n => k (.tok T s n)
  | .dead ver => k (.dead ver)
  | .map ks vs => spine ks fun ks => spine vs fun vs => k (.map ks vs)
theorem AObj.cas_eq {α : Type} (o : AObj) (k : AObj → α) : o.cas k = k o := by
  cases o with
  | cells lz ver cs => cases lz <;> simp [AObj.cas, spine_eq]
  | map ks vs => simp [AObj.cas, spine_eq]
  | _ => rfl
def hcas {α : Type} : AHeap → (AHeap → α) → α
  | [], k => k []
  | o :: r, k => o.cas fun o => hcas r fun r => k (o :: r)
theorem hcas_eq {α : Type} : ∀ (H : AHeap) (k : AHeap → α), hcas H k = k H
  | [], _ => rfl
  | o :: r, k => by rw [hcas, AObj.cas_eq, hcas_eq r]

/-! What an operation gives, under conditions; the conditions come to the fore when it is run -/
def chk (b : Bool) (A : Prop) : Prop := match b with
  | true => A
  | false => False
theorem chk_of {p : Prop} [Decidable p] {A : Prop} (h : p) (a : A) : chk (decide p) A := by simp [chk, h, a]
theorem chk_true {b : Bool} {A : Prop} (h : b = true) (a : A) : chk b A := by subst h; exact a
theorem chk_iff {b : Bool} {A : Prop} : chk b A ↔ b = true ∧ A := by cases b <;> simp [chk]
def optK {β : Type} (o : Option β) (k : β → Prop) : Prop := match o with
  | some d => k d
  | none => False
theorem opt_of {β : Type} {o : Option β} {d : β} {k : β → Prop} (h : o = some d) (a : k d) : optK o k := by subst h; exact a
theorem optK_iff {β : Type} {o : Option β} {k : β → Prop} : optK o k ↔ ∃ d, o = some d ∧ k d := by cases o <;> simp [optK]
def condK (b : Bool) (A B : Prop) : Prop := match b with
  | true => A
  | false => B
theorem cond_of {b : Bool} {A B : Prop} (h : b = true → A) (k : b = false → B) : condK b A B := by cases b <;> simp_all [condK]
theorem cond_pos {p : Prop} [Decidable p] {A B : Prop} (h : p) (a : A) : condK (decide p) A B := by simp [condK, h, a]
theorem cond_neg {p : Prop} [Decidable p] {A B : Prop} (h : ¬ p) (a : B) : condK (decide p) A B := by simp [condK, h, a]
theorem cond_dec {p : Prop} [Decidable p] {A B : Prop} (h : p → A) (k : ¬ p → B) : condK (decide p) A B := by
  by_cases hp : p
  · exact cond_pos hp (h hp)
  · exact cond_neg hp (k hp)
theorem cond_true {b : Bool} {A B : Prop} (h : b = true) (a : A) : condK b A B := by subst h; exact a
theorem cond_false {b : Bool} {A B : Prop} (h : b = false) (a : B) : condK b A B := by subst h; exact a
inductive SM (α : Type) where
  | ret (a : α)
  | fail
  | chk (b : Bool) (m : SM α)
  | optD (o : Option D) (f : D → SM α)
  | optB (o : Option UInt8) (f : UInt8 → SM α)
  | optL (o : Option (List UInt8)) (f : List UInt8 → SM α)
def SM.run {α : Type} : SM α → (α → Prop) → Prop
  | .ret a, k => k a
  | .fail, _ => False
  | .chk b m, k => Abs.chk b (m.run k)
  | .optD o f, k => optK o fun d => (f d).run k
  | .optB o f, k => optK o fun d => (f d).run k
  | .optL o f, k => optK o fun d => (f d).run k
/-- What a step gives. -/
def SM.out {α : Type} (m : SM α) (a : α) : Prop := m.run (· = a)
theorem SM.run_iff {α : Type} (m : SM α) (k : α → Prop) : m.run k ↔ ∃ a, m.out a ∧ k a := by
  unfold SM.out
  induction m with
  | ret a => simp [SM.run]
  | fail => simp [SM.run]
  | chk b m ih => simp only [SM.run, chk_iff, ih]; exact ⟨fun ⟨h, a, x, y⟩ => ⟨a, ⟨h, x⟩, y⟩, fun ⟨a, ⟨h, x⟩, y⟩ => ⟨h, a, x, y⟩⟩
  | optD o f ih => simp only [SM.run, optK_iff]; exact ⟨fun ⟨d, h, x⟩ => let ⟨a, y, z⟩ := (ih d).1 x; ⟨a, ⟨d, h, y⟩, z⟩, fun ⟨a, ⟨d, h, y⟩, z⟩ => ⟨d, h, (ih d).2 ⟨a, y, z⟩⟩⟩
  | optB o f ih => simp only [SM.run, optK_iff]; exact ⟨fun ⟨d, h, x⟩ => let ⟨a, y, z⟩ := (ih d).1 x; ⟨a, ⟨d, h, y⟩, z⟩, fun ⟨a, ⟨d, h, y⟩, z⟩ => ⟨d, h, (ih d).2 ⟨a, y, z⟩⟩⟩
  | optL o f ih => simp only [SM.run, optK_iff]; exact ⟨fun ⟨d, h, x⟩ => let ⟨a, y, z⟩ := (ih d).1 x; ⟨a, ⟨d, h, y⟩, z⟩, fun ⟨a, ⟨d, h, y⟩, z⟩ => ⟨d, h, (ih d).2 ⟨a, y, z⟩⟩⟩
theorem SM.out_det {α : Type} {m : SM α} {a b : α} (h : m.out a) (k : m.out b) : a = b := by
  unfold SM.out at *
  induction m with
  | ret c => simp [SM.run] at h k; exact h.symm.trans k
  | fail => exact h.elim
  | chk c m ih => simp only [SM.run, chk_iff] at h k; exact ih h.2 k.2
  | optD o f ih => simp only [SM.run, optK_iff] at h k; obtain ⟨d, e, x⟩ := h; obtain ⟨d', e', y⟩ := k; rw [e] at e'; injection e' with e'; subst e'; exact ih d x y
  | optB o f ih => simp only [SM.run, optK_iff] at h k; obtain ⟨d, e, x⟩ := h; obtain ⟨d', e', y⟩ := k; rw [e] at e'; injection e' with e'; subst e'; exact ih d x y
  | optL o f ih => simp only [SM.run, optK_iff] at h k; obtain ⟨d, e, x⟩ := h; obtain ⟨d', e', y⟩ := k; rw [e] at e'; injection e' with e'; subst e'; exact ih d x y

/-! Slots and operands -/
def lk : Env → Nat → V
  | [], _ => .top
  | (i, v) :: r, n => match Nat.beq i n with
    | true => v
    | false => lk r n
def constL : Value → Option D
  | .int k n => some (.lit (.int k n))
  | .bool b => some (.lit (.bool b))
  | .string s => some (.lit (.string s))
  | .float k n => some (.lit (.float k n))
  | .complex k m n => some (.lit (.complex k m n))
  | .pointer none => some (.lit (.pointer none))
  | .nilIface => some (.lit .nilIface)
  | .nilFunc => some (.lit .nilFunc)
  | .map none => some (.lit (.map none))
  | .slice none 0 0 => some (.sl [] true)
  | _ => none
def constLs : List Value → Option (List D)
  | [] => some []
  | v :: r => match constL v with
    | some d => match constLs r with
      | some l => some (d :: l)
      | none => none
    | none => none
def constD : Value → V
  | .int k n => .p (.lit (.int k n))
  | .bool b => .p (.lit (.bool b))
  | .string s => .p (.lit (.string s))
  | .float k n => .p (.lit (.float k n))
  | .complex k m n => .p (.lit (.complex k m n))
  | .pointer none => .p (.lit (.pointer none))
  | .nilIface => .p (.lit .nilIface)
  | .nilFunc => .p (.lit .nilFunc)
  | .map none => .p (.lit (.map none))
  | .slice none 0 0 => .p (.sl [] true)
  | .agg ⟨l⟩ => match constLs l with
    | some ds => .p (.agg ds)
    | none => .top
  | _ => .top
def ev (C : Ctx) (e : Env) : Operand → V
  | .tmp t => lk e t
  | .const v => constD v
  | .global g => match C.glob g with
    | some cs => .p (.rp cs)
    | none => .top
  | .func f => .p (.fn f [])

/-! Operations -/
def packD (agg : Bool) (l : List D) : Option D := match agg with
  | true => some (.agg l)
  | false => match l with
    | [d] => some d
    | _ => none
def packV (agg : Bool) (l : List V) : Option V := match agg with
  | true => match toDs l with
    | some ds => some (.p (.agg ds))
    | none => some (.agg l)
  | false => match l with
    | [d] => some d
    | _ => none
def setSlice (cs : List V) (off : Nat) : List V → List V
  | [] => cs
  | v :: r => setSlice (cs.set off v) (off + 1) r
def bl (b : Bool) : SM V := .ret (.p (.lit (.bool b)))
def il (k : IntKind) (n : Int) : SM V := .ret (.p (.lit (.int k n)))
def intBin (op : BinOp) (k : IntKind) (x y : Int) : SM V :=
  match op with
  | .add => il k (k.wrap (x + y))
  | .sub => il k (k.wrap (x - y))
  | .mul => il k (k.wrap (x * y))
  | .eql => bl (x == y)
  | .neq => bl (x != y)
  | .lss => bl (x < y)
  | .leq => bl (x ≤ y)
  | .gtr => bl (x > y)
  | .geq => bl (x ≥ y)
  | .and => il k (k.wrap (BitVec.ofInt k.bits x &&& BitVec.ofInt k.bits y).toNat)
  | .or => il k (k.wrap (BitVec.ofInt k.bits x ||| BitVec.ofInt k.bits y).toNat)
  | .xor => il k (k.wrap (BitVec.ofInt k.bits x ^^^ BitVec.ofInt k.bits y).toNat)
  | .andNot => il k (k.wrap (BitVec.ofInt k.bits x &&& ~~~(BitVec.ofInt k.bits y)).toNat)
  | .quo => .chk (decide (y ≠ 0)) (il k (k.wrap (x.tdiv y)))
  | .rem => .chk (decide (y ≠ 0)) (il k (x.tmod y))
  | _ => .fail
def shiftBin (op : BinOp) (k : IntKind) (x : Int) (y : Int) : SM V :=
  .chk (decide (0 ≤ y)) (match op with
  | .shl => il k (k.wrap (x * 2 ^ (min y.toNat k.bits)))
  | .shr => il k (x.fdiv (2 ^ (min y.toNat k.bits)))
  | _ => .fail)
/-- Are two texts the same? By their bytes' numbers. -/
def eqBytes : List UInt8 → List UInt8 → Bool
  | [], [] => true
  | a :: r, b :: s => match Nat.beq a.toNat b.toNat with
    | true => eqBytes r s
    | false => false
  | _, _ => false
theorem eqBytes_iff : ∀ {l m : List UInt8}, eqBytes l m = true ↔ l = m
  | [], [] => by simp [eqBytes]
  | a :: r, b :: s => by
    simp only [eqBytes]
    split
    · rename_i h
      have := UInt8.toNat_inj.1 (Nat.eq_of_beq_eq_true h)
      subst this
      simp [eqBytes_iff]
    · rename_i h
      constructor
      · intro h; cases h
      · intro h'
        injection h' with h1 h2
        subst h1
        simp at h
  | [], _ :: _ => by simp [eqBytes]
  | _ :: _, [] => by simp [eqBytes]
def beqS (x y : ByteArray) : Bool := eqBytes x.data.toList y.data.toList
theorem beqS_list (x y : ByteArray) : beqS x y = (x.toList == y.toList) := by
  rw [Go.ByteArray.toList_eq, Go.ByteArray.toList_eq]
  unfold beqS
  rw [Bool.eq_iff_iff, eqBytes_iff, beq_iff_eq]
theorem beqS_eq (x y : ByteArray) : beqS x y = (x == y) := by
  have hd : (x == y) = (x.data == y.data) := rfl
  rw [hd, Bool.eq_iff_iff, beq_iff_eq]
  unfold beqS
  rw [eqBytes_iff]
  exact ⟨fun h => Array.ext' h, fun h => by rw [h]⟩
def strBin (op : BinOp) (x y : ByteArray) : SM V :=
  match op with
  | .add => .chk (decide (x.size + y.size ≤ 9223372036854775807)) (.ret (.p (.lit (.string (x ++ y)))))
  | .eql => bl (beqS x y)
  | .neq => bl (!beqS x y)
  | .lss => bl (Op.bytesLess x.data.toList y.data.toList)
  | .leq => bl (Op.bytesLess x.data.toList y.data.toList || beqS x y)
  | .gtr => bl (!(Op.bytesLess x.data.toList y.data.toList || beqS x y))
  | .geq => bl (!Op.bytesLess x.data.toList y.data.toList)
  | _ => .fail
def eqFsR (C : Ctx) (rec : Nat → List D → List D → Option Bool) : List (Nat × Nat) → List D → List D → Option Bool
  | [], _, _ => some true
  | (off, ft) :: fs, xs, ys => match tyOf C ft with
    | some i => match Nat.ble (off + i.size) xs.length, Nat.ble (off + i.size) ys.length with
      | true, true => match rec ft ((xs.drop off).take i.size) ((ys.drop off).take i.size) with
        | some b => match eqFsR C rec fs xs ys with
          | some c => some (b && c)
          | none => none
        | none => none
      | _, _ => none
    | none => none
def eqEsR (rec : Nat → List D → List D → Option Bool) (el s : Nat) : Nat → Nat → List D → List D → Option Bool
  | 0, _, _, _ => some true
  | len + 1, i, xs, ys => match Nat.ble (i * s + s) xs.length, Nat.ble (i * s + s) ys.length with
    | true, true => match rec el ((xs.drop (i * s)).take s) ((ys.drop (i * s)).take s) with
      | some b => match eqEsR rec el s len (i + 1) xs ys with
        | some c => some (b && c)
        | none => none
      | none => none
    | _, _ => none
/-- Are two the same? By their type. -/
def eqT (C : Ctx) : Nat → Nat → List D → List D → Option Bool
  | 0, _, _, _ => none
  | n + 1, t, xs, ys => match (C.ty t).kind with
    | .int _ => match xs, ys with
      | [.lit (.int k x)], [.lit (.int k' y)] => match decide (k = k') with
        | true => some (x == y)
        | false => none
      | _, _ => none
    | .str => match xs, ys with
      | [.lit (.string x)], [.lit (.string y)] => some (beqS x y)
      | _, _ => none
    | .bool => match xs, ys with
      | [.lit (.bool x)], [.lit (.bool y)] => some (x == y)
      | _, _ => none
    | .flt _ => match xs, ys with
      | [.lit (.float k x)], [.lit (.float k' y)] => match decide (k = k') with
        | true => some (Op.floatEq k x y)
        | false => none
      | _, _ => none
    | .cpx _ => match xs, ys with
      | [.lit (.complex k x y)], [.lit (.complex k' z u)] => match decide (k = k') with
        | true => some (Op.floatEq k x z && Op.floatEq k y u)
        | false => none
      | _, _ => none
    | .struct fs => match (C.ty t).cmp with
      | true => eqFsR C (eqT C n) fs xs ys
      | false => none
    | .array len el => match (C.ty t).cmp, tyOf C el with
      | true, some i => eqEsR (eqT C n) el i.size len 0 xs ys
      | _, _ => none
    | _ => none
def optF (k : FloatKind) (o : Option Nat) : SM V := match o with
  | some r => .ret (.p (.lit (.float k r)))
  | none => .fail
def floatBin (op : BinOp) (k : FloatKind) (x y : Nat) : SM V := match op with
  | .add => optF k (k.format.add x y)
  | .sub => optF k (k.format.sub x y)
  | .mul => optF k (k.format.mul x y)
  | .quo => optF k (k.format.div x y)
  | .eql => bl (k.format.order x y == some .eq)
  | .neq => bl (k.format.order x y != some .eq)
  | .lss => bl (k.format.order x y == some .lt)
  | .leq => bl (k.format.order x y == some .lt || k.format.order x y == some .eq)
  | .gtr => bl (k.format.order x y == some .gt)
  | .geq => bl (k.format.order x y == some .gt || k.format.order x y == some .eq)
  | _ => .fail
def optC (k : FloatKind) (a b : Option Nat) : SM V := match a, b with
  | some x, some y => .ret (.p (.lit (.complex k x y)))
  | _, _ => .fail
def complexBin (op : BinOp) (k : FloatKind) (a b c d : Nat) : SM V := match op with
  | .add => optC k (k.format.add a c) (k.format.add b d)
  | .sub => optC k (k.format.sub a c) (k.format.sub b d)
  | .eql => bl (k.format.order a c == some .eq && k.format.order b d == some .eq)
  | .neq => bl (!(k.format.order a c == some .eq && k.format.order b d == some .eq))
  | _ => .fail
def optBl (neg : Bool) (o : Option Bool) : SM V := match o with
  | some b => match neg with
    | true => .ret (.p (.lit (.bool !b)))
    | false => .ret (.p (.lit (.bool b)))
  | none => .fail
def nilK : Operand → Nat
  | .const .nilIface => 1
  | .const (.slice none 0 0) => 2
  | _ => 0
def eqlV (op : BinOp) (b : Bool) : SM V := match op with
  | .eql => bl b
  | .neq => bl (!b)
  | _ => .fail
def bin (C : Ctx) (t : Nat) (op : BinOp) (a b : V) : SM V := match op, a, b with
  | .shl, .p (.lit (.int k x)), .p (.lit (.int _ y)) => shiftBin .shl k x y
  | .shr, .p (.lit (.int k x)), .p (.lit (.int _ y)) => shiftBin .shr k x y
  | op, .p (.lit (.int k x)), .p (.lit (.int k' y)) => .chk (decide (k = k')) (intBin op k x y)
  | op, .p (.lit (.string x)), .p (.lit (.string y)) => strBin op x y
  | op, .p (.lit (.float k x)), .p (.lit (.float k' y)) => .chk (decide (k = k')) (floatBin op k x y)
  | op, .p (.lit (.complex k a b)), .p (.lit (.complex k' c d)) => .chk (decide (k = k')) (complexBin op k a b c d)
  | op, .p (.lit (.bool x)), .p (.lit (.bool y)) => match op, (C.ty t).kind with
    | .eql, .bool => bl (x == y)
    | .neq, .bool => bl (!(x == y))
    | _, _ => .fail
  | op, .ptr _ _ _, .p (.lit (.pointer none)) => match op, (C.ty t).kind with
    | .eql, .ptr _ => bl false
    | .neq, .ptr _ => bl true
    | _, _ => .fail
  | op, .p (.lit (.pointer none)), .p (.lit (.pointer none)) => match op, (C.ty t).kind with
    | .eql, .ptr _ => bl true
    | .neq, .ptr _ => bl false
    | _, _ => .fail
  | op, .ptr b v o, .ptr b' v' o' => match (C.ty t).kind, Nat.beq b b' && Nat.beq v v' && Nat.beq o o' with
    | .ptr el, true => match tyOf C el with
      | some i => match Nat.beq i.size 0 with
        | true => .fail
        | false => eqlV op true
      | none => .fail
    | _, _ => .fail
  | op, .p (.rp _), .p (.lit (.pointer none)) => match (C.ty t).kind with
    | .ptr _ => eqlV op false
    | _ => .fail
  | op, .p (.agg xs), .p (.agg ys) => match tyOf C t with
    | some i => match i.agg, i.cmp with
      | true, true => match op with
        | .eql => optBl false (eqT C 100 t xs ys)
        | .neq => optBl true (eqT C 100 t xs ys)
        | _ => .fail
      | _, _ => .fail
    | none => .fail
  | _, _, _ => .fail
/-- An interface value, a slice, against nil. -/
def ifcNil (op : BinOp) (k : TK) (v : V) : SM V := match k, v with
  | .ifc, .p (.lit .nilIface) => eqlV op true
  | .ifc, .p (.ifc _ _) => eqlV op false
  | _, _ => .fail
def slcNil (op : BinOp) (k : TK) (v : V) : SM V := match k, v with
  | .slice _, .p (.sl (_ :: _) _) => eqlV op false
  | .slice _, .vec _ _ (_ :: _) => eqlV op false
  | .slice _, .own _ _ _ (_ + 1) _ _ => eqlV op false
  | .slice _, .row _ _ _ (_ + 1) _ => eqlV op false
  | _, _ => .fail
def objCells : Option AObj → Nat → Option (Lz × List V)
  | some (.cells lz v cs), ver => match Nat.beq v ver with
    | true => some (lz, cs)
    | false => none
  | _, _ => none
def ofO {α : Type} (o : Option α) : SM α := match o with
  | some a => .ret a
  | none => .fail
def loadAt (C : Ctx) (H : AHeap) (t : Nat) (a : V) : Option V := match tyOf C t with
  | some i => match a with
    | .ptr b ver off => match objCells H[b]? ver with
      | some (_, cs) => match Nat.ble (off + i.size) cs.length with
        | true => packV i.agg ((cs.drop off).take i.size)
        | false => none
      | none => none
    | .p (.rp cs) => match Nat.ble i.size cs.length with
      | true => match packD i.agg (cs.take i.size) with
        | some d => some (.p d)
        | none => none
      | false => none
    | _ => none
  | none => none
def storeAt (H : AHeap) (l : List V) : V → SM AHeap
  | .ptr b ver off => match objCells H[b]? ver with
    | some (lz, cs) => .chk (decide (off + l.length ≤ cs.length)) (.ret (H.set b (.cells lz ver (setSlice cs off l))))
    | none => .fail
  | _ => .fail
/-- Element i of a list. -/
def nth (xs : List D) (i : Int) : SM V := .chk (decide (0 ≤ i)) (.optD xs[i.toNat]? fun d => .ret (.p (.rp d.cells)))
def indexAddr (C : Ctx) (t : Nat) (i : Int) : V → SM V
  | .p (.sl xs _) => match elemTI C t with
    | some ti => .chk (decide (0 ≤ i)) (.optD xs[i.toNat]? fun d => match Nat.beq d.cells.length ti.size with
      | true => .ret (.p (.rp d.cells))
      | false => .fail)
    | none => .fail
  | .vec _ _ xs => match elemTI C t with
    | some ti => .chk (decide (0 ≤ i)) (.optD xs[i.toNat]? fun d => match Nat.beq d.cells.length ti.size with
      | true => .ret (.p (.rp d.cells))
      | false => .fail)
    | none => .fail
  | .own b ver off len _ _ => match elemTI C t with
    | some ti => .chk (decide (0 ≤ i ∧ i < len)) (.ret (.ptr b ver (off + i.toNat * ti.size)))
    | none => .fail
  | .row b ver off len _ => match elemTI C t with
    | some ti => .chk (decide (0 ≤ i ∧ i < len)) (.ret (.ptr b ver (off + i.toNat * ti.size)))
    | none => .fail
  | .ptr b ver off => match arrTI C t with
    | some (n, ti) => .chk (decide (0 ≤ i ∧ i < n)) (.ret (.ptr b ver (off + i.toNat * ti.size)))
    | none => .fail
  | .p (.rp cs) => match arrTI C t with
    | some (n, ti) => .chk (decide (0 ≤ i ∧ i < n)) (.ret (.p (.rp (cs.drop (i.toNat * ti.size)))))
    | none => .fail
  | _ => .fail
def index (C : Ctx) (t : Nat) (i : Int) : V → SM V
  | .p (.lit (.string s)) => match (C.ty t).kind with
    | .str => .chk (decide (0 ≤ i)) (.optB s.data.toList[i.toNat]? fun b => il .u8 b.toNat)
    | _ => .fail
  | .p (.agg l) => match arrTI C t with
    | some (n, ti) => .chk (decide (0 ≤ i ∧ i < n ∧ i.toNat * ti.size + ti.size ≤ l.length)) (.optD (packD ti.agg ((l.drop (i.toNat * ti.size)).take ti.size)) fun d => .ret (.p d))
    | none => .fail
  | _ => .fail
def fieldOf (C : Ctx) (t k : Nat) : Option (Nat × TI) := match (C.ty t).kind with
  | .struct fs => match fs[k]? with
    | some (off, ft) => match tyOf C ft with
      | some i => some (off, i)
      | none => none
    | none => none
  | _ => none
def lenV (C : Ctx) (t : Nat) (v : V) : Option Nat := match (C.ty t).kind with
  | .slice _ => match v with
    | .p (.sl xs _) => some xs.length
    | .vec _ _ xs => some xs.length
    | .own _ _ _ n _ _ => some n
    | .row _ _ _ n _ => some n
    | _ => none
  | .str => match v with
    | .p (.lit (.string s)) => some s.size
    | _ => none
  | .array n _ => some n
  | _ => none
def floatMax (k : FloatKind) (x y : Nat) : SM V := match k.format.order x y with
  | none => .fail
  | some .lt => .ret (.p (.lit (.float k y)))
  | some .gt => .ret (.p (.lit (.float k x)))
  | some .eq => .ret (.p (.lit (.float k (if (k.decode x).neg then y else x))))
def floatMin (k : FloatKind) (x y : Nat) : SM V := match k.format.order x y with
  | none => .fail
  | some .lt => .ret (.p (.lit (.float k x)))
  | some .gt => .ret (.p (.lit (.float k y)))
  | some .eq => .ret (.p (.lit (.float k (if (k.decode x).neg then x else y))))
def max2 : V → V → SM V
  | .p (.lit (.float k x)), .p (.lit (.float _ y)) => floatMax k x y
  | .p (.lit (.int k x)), .p (.lit (.int _ y)) => il k (if y > x then y else x)
  | _, _ => .fail
def min2 : V → V → SM V
  | .p (.lit (.float k x)), .p (.lit (.float _ y)) => floatMin k x y
  | .p (.lit (.int k x)), .p (.lit (.int _ y)) => il k (if y < x then y else x)
  | _, _ => .fail
/-- Parts laid into cells. -/
def fillV (place : Nat → Option (Nat × Nat)) (cs : List V) : List (Nat × V) → Option (List V)
  | [] => some cs
  | (i, v) :: r => match place i with
    | some (off, size) => match v.flat with
      | some l => match Nat.beq l.length size with
        | true => match Nat.ble (off + l.length) cs.length with
          | true => fillV place (setSlice cs off l) r
          | false => none
        | false => none
      | none => none
    | none => none
/-- n times the same cells. -/
def zeros (n : Nat) (zs : List D) : List D := (List.range (n * zs.length)).map fun i => zs.getD (i % zs.length) (.lit undef)
theorem zeros_one (n : Nat) (z : D) : zeros n [z] = List.replicate n z := by
  unfold zeros
  apply List.ext_getElem
  · simp
  · intro i h1 h2; simp [Nat.mod_one]
def evParts (C : Ctx) (e : Env) : List (Nat × Operand) → List (Nat × V)
  | [] => []
  | (i, x) :: r => (i, ev C e x) :: evParts C e r
def packs (agg : Bool) (s : Nat) : Nat → List D → Option (List D)
  | 0, _ => some []
  | n + 1, l => match packD agg (l.take s) with
    | some d => match packs agg s n (l.drop s) with
      | some ds => some (d :: ds)
      | none => none
    | none => none
def evInt (C : Ctx) (e : Env) : Option Operand → Option (Option Int)
  | none => some none
  | some o => match ev C e o with
    | .p (.lit (.int _ n)) => some (some n)
    | _ => none
/-- A slice's, a text's bounds: low, high, the end of what may be used. -/
def bounds (len : Nat) (cap : Nat) (lo hi mx : Option Int) (k : Nat → Nat → Option Nat → SM V) : SM V := match mx with
  | none => match hi with
    | none => match lo with
      | none => k 0 len none
      | some l => .chk (decide (0 ≤ l ∧ l ≤ len)) (k l.toNat len none)
    | some h => match lo with
      | none => .chk (decide (0 ≤ h ∧ h ≤ cap)) (k 0 h.toNat none)
      | some l => .chk (decide (0 ≤ l ∧ l ≤ h ∧ h ≤ cap)) (k l.toNat h.toNat none)
  | some m => match hi with
    | none => .fail
    | some h => match lo with
      | none => .chk (decide (0 ≤ h ∧ h ≤ m ∧ m ≤ cap)) (k 0 h.toNat (some m.toNat))
      | some l => .chk (decide (0 ≤ l ∧ l ≤ h ∧ h ≤ m ∧ m ≤ cap)) (k l.toNat h.toNat (some m.toNat))
def allSize (s : Nat) : List D → Bool
  | [] => true
  | d :: r => match Nat.beq d.cells.length s with
    | true => allSize s r
    | false => false
/-- So many elements at the least has a row's block room for. -/
def rowCap (H : AHeap) (b ver off len s : Nat) : Nat := match objCells H[b]? ver with
  | some (_, cs) => match Nat.blt 0 s && Nat.ble (off + len * s) cs.length with
    | true => (cs.length - off) / s
    | false => len
  | none => len
/-- Ends a slice's room with it? -/
def fullOf (m : Option Nat) (h : Nat) (hi : Option Int) (full : Bool) : Bool := match m with
  | some m => Nat.beq m h
  | none => match hi with
    | none => full
    | some _ => false
def sliceOp (C : Ctx) (H : AHeap) (t : Nat) (lo hi mx : Option Int) (v : V) : SM V := match v with
  | .p (.lit (.string s)) => match (C.ty t).kind, mx with
    | .str, none => bounds s.size s.size lo hi none fun l h _ => .ret (.p (.lit (.string (s.extract l h))))
    | _, _ => .fail
  | .p (.sl xs full) => match elemTI C t with
    | some ti => .chk (allSize ti.size xs) (bounds xs.length xs.length lo hi mx fun l h m => .ret (.p (.sl ((xs.take h).drop l) (match m with
      | some m => Nat.beq m h
      | none => match hi with
        | none => full
        | some _ => false))))
    | none => .fail
  | .vec b s xs => match elemTI C t with
    | some ti => .chk (allSize ti.size xs) (bounds xs.length xs.length lo hi mx fun l h m => .ret (.p (.sl ((xs.take h).drop l) (match m with
      | some m => Nat.beq m h
      | none => false))))
    | none => .fail
  | .own b ver off len s full => match elemTI C t with
    | some ti => bounds len len lo hi mx fun l h m => .ret (.own b ver (off + l * ti.size) (h - l) ti.size (fullOf m h hi full))
    | none => .fail
  | .row b ver off len s => match elemTI C t with
    | some ti => match Nat.beq ti.size s with
      | true => bounds len (rowCap H b ver off len s) lo hi mx fun l h m => .ret (match m with
        | some m => .own b ver (off + l * s) (h - l) s (Nat.beq m h)
        | none => .row b ver (off + l * s) (h - l) s)
      | false => .fail
    | none => .fail
  | .ptr b ver off => match mx with
    | none => match arrTI C t with
      | some (n, ti) => bounds n n lo hi none fun l h _ => .ret (.own b ver (off + l * ti.size) (h - l) ti.size (Nat.beq h n))
      | none => .fail
    | some _ => .fail
  | _ => .fail
def byteOf : V → Option UInt8
  | .p (.lit (.int .u8 n)) => some (UInt8.ofNat n.toNat)
  | _ => none
def bytesOf : List V → Option (List UInt8)
  | [] => some []
  | v :: r => match byteOf v with
    | some b => match bytesOf r with
      | some bs => some (b :: bs)
      | none => none
    | none => none
def byteV (b : UInt8) : D := .lit (.int .u8 (b.toNat : Int))
def strOf (H : AHeap) (bs : List UInt8) : SM (V × AHeap) := .ret (.p (.lit (.string ⟨bs.toArray⟩)), H)
/-- Is a type one of slices of bytes? -/
def isBytes (C : Ctx) (t : Nat) : Bool := match elemTI C t with
  | some ti => match ti.kind with
    | .int .u8 => true
    | _ => false
  | none => false
/-- A row that is read. -/
def rowOwn : V → V
  | .row b ver off len s => .own b ver off len s false
  | x => x
def convertOp1 (C : Ctx) (H : AHeap) (src dst : Nat) (x : V) : SM (V × AHeap) :=
  match tyOf C src with
  | none => .fail
  | some si => match (C.ty dst).kind, x with
  | .int k, .p (.lit (.int _ n)) => .ret (.p (.lit (.int k (k.wrap n))), H)
  | .flt k, .p (.lit (.int _ n)) => .ret (.p (.lit (.float k (k.nearest n))), H)
  | .str, .p (.lit (.string s)) => .ret (.p (.lit (.string s)), H)
  | .str, .own b ver off len _ _ => match isBytes C src, objCells H[b]? ver with
    | true, some (_, cs) => .chk (decide (off + len ≤ cs.length)) (.optL (bytesOf ((cs.drop off).take len)) (strOf H))
    | _, _ => .fail
  | .str, .p (.sl xs _) => match isBytes C src with
    | true => .optL (bytesOf (xs.map .p)) (strOf H)
    | false => .fail
  | .str, .vec _ _ xs => match isBytes C src with
    | true => .optL (bytesOf (xs.map .p)) (strOf H)
    | false => .fail
  | .uptr, .ptr b ver off => match si.kind, objCells H[b]? ver with
    | .ptr el, some (_, cs) => match tyOf C el with
      | some i => match Nat.beq i.size 0 with
        | true => .fail
        | false => .chk (decide (off < cs.length)) (.ret (.ptr b ver off, H))
      | none => .fail
    | _, _ => .fail
  | .ptr el, .ptr b ver off => match si.kind, objCells H[b]? ver with
    | .uptr, some (.t T, cs) => match tyOf C el with
      | some i => match Nat.beq T el && Nat.beq off 0 && (!Nat.beq i.size 0 && Nat.ble i.size cs.length) with
        | true => .ret (.ptr b ver off, H)
        | false => .fail
      | none => .fail
    | _, _ => .fail
  | .slice _, .p (.lit (.string s)) => match isBytes C dst with
    | true => .ret (.row H.length 0 0 s.size 1, H ++ [.cells (.r (elemId C dst)) 0 (s.data.toList.map fun b => .p (byteV b))])
    | false => .fail
  | _, _ => .fail
def convertOp (C : Ctx) (H : AHeap) (src dst : Nat) (x : V) : SM (V × AHeap) := convertOp1 C H src dst (rowOwn x)
/-- Is a row of its own to be made of a few known numbers? -/
def rowLit (C : Ctx) (ti : TI) (len : Nat) : Bool := match C.rows, ti.kind with
  | true, .int .u32 => Nat.ble len 8
  | _, _ => false
def toDsIf (b : Bool) (cs : List V) : Option (List D) := match b with
  | true => none
  | false => toDs cs
theorem toDsIf_some {b : Bool} {cs : List V} {ds : List D} (h : toDsIf b cs = some ds) : toDs cs = some ds := by
  cases b
  · exact h
  · cases h
def appended : V → Option (List D)
  | .p (.sl ys _) => some ys
  | .vec _ _ ys => some ys
  | .p (.lit (.string z)) => some (z.data.toList.map byteV)
  | _ => none
/-- Do so many elements have room? -/
def room (ti : TI) (n : Nat) : Bool := decide (n * (ti.bytes + 1) ≤ 70368744177664 ∧ ti.bytes ≤ 68719476736)
def appOk : TK → Bool
  | .slice _ => true
  | .str => true
  | _ => false
def appendOp (C : Ctx) (H : AHeap) (t u : Nat) (s x : V) : SM (V × AHeap) :=
  match appOk (C.ty u).kind, elemTI C t, appended x with
  | true, some ti, some ys => .chk (allSize ti.size ys) (match s with
      | .p (.sl xs full) => match full with
        | true => .chk (xs.isEmpty || !ys.isEmpty) (.chk (allSize ti.size xs) (.chk (room ti (xs.length + ys.length))
            (.ret (.vec H.length ti.size (xs ++ ys), H ++ [.tok (elemId C t) ti.size (xs ++ ys).length]))))
        | false => .fail
      | .vec b sz xs => match H[b]? with
        | some (.tok T sz' n) => match Nat.beq T (elemId C t) with
          | true => .chk (decide (n = xs.length ∧ sz' = sz ∧ sz = ti.size)) (.chk (room ti (xs.length + ys.length))
            (.ret (.vec b sz (xs ++ ys), H.set b (.tok T sz (xs ++ ys).length))))
          | false => .fail
        | _ => .fail
      | _ => .fail)
  | _, _, _ => .fail
/-- What is appended, by its cells. -/
def srcOwn (H : AHeap) (s : Nat) (b ver off n : Nat) : Option (Nat × List V) := match objCells H[b]? ver with
  | some (_, cs) => match Nat.ble (off + n * s) cs.length with
    | true => some (n, (cs.drop off).take (n * s))
    | false => none
  | none => none
def srcCells (H : AHeap) (ti : TI) (x : V) : Option (Nat × List V) := match x with
  | .own b ver off n _ _ => srcOwn H ti.size b ver off n
  | .row b ver off n _ => srcOwn H ti.size b ver off n
  | x => match appended x with
    | some ys => match allSize ti.size ys with
      | true => some (ys.length, (ys.flatMap D.cells).map .p)
      | false => none
    | none => none
/-- Is append to go on a row that may be written? -/
def rowWise (C : Ctx) (t : Nat) (v : V) : Bool := match v with
  | .row _ _ _ _ _ => true
  | .own _ _ _ _ _ true => true
  | _ => match C.rows, elemTI C t with
    | true, some ti => match ti.kind with
      | .int .u8 => false
      | _ => true
    | _, _ => false
def isSl : V → Bool
  | .p (.sl _ _) => true
  | .vec _ _ _ => true
  | .own _ _ _ _ _ _ => true
  | .row _ _ _ _ _ => true
  | _ => false
def appendRow (C : Ctx) (H : AHeap) (t u : Nat) (s x : V) : SM (V × AHeap) :=
  match appOk (C.ty u).kind, elemTI C t with
  | true, some ti => match srcCells H ti x with
    | some (0, _) => match isSl s with
      | true => .ret (s, H)
      | false => .fail
    | some (m + 1, ys) => match s with
      | .p (.sl xs true) => .chk (allSize ti.size xs) (.chk (room ti (xs.length + (m + 1)))
          (.ret (.row H.length 0 0 (xs.length + (m + 1)) ti.size, H ++ [.cells (.r (elemId C t)) 0 ((xs.flatMap D.cells).map .p ++ ys)])))
      | .row b ver off len sz => match objCells H[b]? ver with
        | some (.r T, cs) => match Nat.beq T (elemId C t) && (Nat.beq sz ti.size && !Nat.beq sz 0) with
          | true => match Nat.ble (off + (len + (m + 1)) * sz) cs.length with
            | true => .ret (.row b ver off (len + (m + 1)) sz, H.set b (.cells (.r T) ver (setSlice cs (off + len * sz) ys)))
            | false => match Nat.beq off 0 && Nat.ble (len * sz) cs.length with
              | true => .chk (room ti (len + (m + 1))) (.ret (.row b (ver + 1) 0 (len + (m + 1)) sz, H.set b (.cells (.r T) (ver + 1) (cs.take (len * sz) ++ ys))))
              | false => .fail
          | false => .fail
        | _ => .fail
      | .own b ver off len _ true => match srcOwn H ti.size b ver off len with
        | some (_, zs) => .chk (room ti (len + (m + 1))) (.ret (.row H.length 0 0 (len + (m + 1)) ti.size, H ++ [.cells (.r (elemId C t)) 0 (zs ++ ys)]))
        | none => .fail
      | _ => .fail
    | none => .fail
  | _, _ => .fail
/-- The text of a row's elements. -/
def unsafeStr (C : Ctx) (H : AHeap) (t : Nat) (x n : V) : SM (V × AHeap) := match x, n with
  | .vptr b s xs, .p (.lit (.int .i64 n)) => match (C.ty t).kind, H[b]? with
    | .ptr u, some (.tok T s' m) => match tyOf C u with
      | some i => match i.kind, Nat.beq T u with
        | .int .u8, true => .chk (decide (n = xs.length ∧ m = xs.length ∧ s = 1 ∧ s' = 1 ∧ xs.length ≤ 9223372036854775807)) (.optL (bytesOf (xs.map .p)) (strOf H))
        | _, _ => .fail
      | none => .fail
    | _, _ => .fail
  | .ptr b ver off, .p (.lit (.int .i64 n)) => match (C.ty t).kind, objCells H[b]? ver with
    | .ptr u, some (.r T, cs) => match tyOf C u with
      | some i => match i.kind, Nat.beq T u with
        | .int .u8, true => .chk (decide (0 < n ∧ n ≤ 9223372036854775807 ∧ n.toNat ≤ cs.length ∧ off = 0)) (.optL (bytesOf (cs.take n.toNat)) fun bs => strOf (H.set b (.dead ver)) bs)
        | _, _ => .fail
      | none => .fail
    | _, _ => .fail
  | _, _ => .fail
def SM.bind {α β : Type} : SM α → (α → SM β) → SM β
  | .ret a, f => f a
  | .fail, _ => .fail
  | .chk b m, f => .chk b (m.bind f)
  | .optD o g, f => .optD o fun d => (g d).bind f
  | .optB o g, f => .optB o fun d => (g d).bind f
  | .optL o g, f => .optL o fun d => (g d).bind f
def folds (f : V → V → SM V) : V → List V → SM V
  | x, [] => .ret x
  | x, y :: r => (f x y).bind fun z => folds f z r
def pair (H : AHeap) (m : SM V) : SM (V × AHeap) := m.bind fun v => .ret (v, H)
def placesOf (C : Ctx) : List (Nat × Nat) → Option (List (Nat × Nat))
  | [] => some []
  | (off, ft) :: r => match tyOf C ft with
    | some i => match placesOf C r with
      | some l => some ((off, i.size) :: l)
      | none => none
    | none => none
/-- Where parts of a struct, of an array lie. -/
def placeOf (C : Ctx) (k : TK) : Option (Nat → Option (Nat × Nat)) := match k with
  | .struct fs => match placesOf C fs with
    | some l => some fun k => l[k]?
    | none => none
  | .array _ el => match tyOf C el with
    | some i => some fun k => some (k * i.size, i.size)
    | none => none
  | _ => none
def countB (s : ByteArray) (c : UInt8) : Int := s.foldl (fun n x => if x == c then n + 1 else n) ((0 : Nat) : Int)
def extop : Xt → List V → SM V
  | .idx, [.p (.lit (.string s)), .p (.lit (.int .u8 c))] => .ret (.p (.lit (.int .i64 (firstIdx s c.toNat.toUInt8))))
  | .cnt, [.p (.lit (.string s)), .p (.lit (.int .u8 c))] => .ret (.p (.lit (.int .i64 (countB s c.toNat.toUInt8))))
  | .same, [v] => .ret v
  | _, _ => .fail
/-! Maps -/
/-- Does a pointer lead to a block whose kind is told? -/
def liveP (H : AHeap) (b ver : Nat) : Bool := match objCells H[b]? ver with
  | some (.t _, _) => true
  | _ => false
/-- Are two keys the same? By their type. -/
def keyEq (C : Ctx) (H : AHeap) (kt : Nat) (a b : V) : Option Bool := match (C.ty kt).kind, a, b with
  | .int _, .p (.lit (.int k x)), .p (.lit (.int k' y)) => match decide (k = k') with
    | true => some (x == y)
    | false => none
  | .str, .p (.lit (.string x)), .p (.lit (.string y)) => some (beqS x y)
  | .bool, .p (.lit (.bool x)), .p (.lit (.bool y)) => some (x == y)
  | .ptr el, .ptr b v o, .ptr b' v' o' => match tyOf C el, liveP H b v, liveP H b' v' with
    | some i, true, true => match Nat.beq i.size 0 with
      | true => none
      | false => some (Nat.beq b b' && Nat.beq o o')
    | _, _, _ => none
  | _, _, _ => none
/-- Where a key is; all are looked at. -/
def kfind (C : Ctx) (H : AHeap) (kt : Nat) (k : V) : List V → Option (Option Nat)
  | [] => some none
  | x :: r => match keyEq C H kt k x with
    | some true => match kfind C H kt k r with
      | some _ => some (some 0)
      | none => none
    | some false => match kfind C H kt k r with
      | some (some i) => some (some (i + 1))
      | some none => some none
      | none => none
    | none => none
def mapAt (H : AHeap) : V → Option (List V × List V)
  | .mp b => match H[b]? with
    | some (.map ks vs) => some (ks, vs)
    | _ => none
  | .p (.lit (.map none)) => some ([], [])
  | .p (.mp ks vs) => some (ks.map .p, vs.map .p)
  | _ => none
def mapTI (C : Ctx) (t : Nat) : Option (Nat × TI) := match (C.ty t).kind with
  | .map k e => match tyOf C e with
    | some i => some (k, i)
    | none => none
  | _ => none
def pack2 (v : V) (b : Bool) : V := match v.toD with
  | some d => .p (.tup [d, .lit (.bool b)])
  | none => .tup [v, .p (.lit (.bool b))]
def okKey (C : Ctx) (H : AHeap) (kt : Nat) (k : V) : Bool := match keyEq C H kt k k with
  | some true => true
  | _ => false
def kfindK (C : Ctx) (H : AHeap) (kt : Nat) (k : V) (ks : List V) : Option (Option Nat) := match okKey C H kt k with
  | true => kfind C H kt k ks
  | false => none
def lookupOp (C : Ctx) (H : AHeap) (t : Nat) (m k : V) (ok : Bool) : SM V := match mapTI C t, mapAt H m with
  | some (kt, ei), some (ks, vs) => match kfindK C H kt k ks with
    | some (some i) => match vs[i]? with
      | some v => .ret (match ok with
        | true => pack2 v true
        | false => v)
      | none => .fail
    | some none => match packV ei.agg (ei.zero.map .p) with
      | some v => .ret (match ok with
        | true => pack2 v false
        | false => v)
      | none => .fail
    | none => .fail
  | _, _ => .fail
def mapPut (C : Ctx) (H : AHeap) (t : Nat) (m k v : V) : SM AHeap := match mapTI C t, m with
  | some (kt, ei), .mp b => match H[b]? with
    | some (.map ks vs) => match kfindK C H kt k ks with
      | some (some i) => .ret (H.set b (.map (ks.set i k) (vs.set i v)))
      | some none => .ret (H.set b (.map (ks ++ [k]) (vs ++ [v])))
      | none => .fail
    | _ => .fail
  | _, _ => .fail
def mapDrop (C : Ctx) (H : AHeap) (t : Nat) (m k : V) : SM AHeap := match mapTI C t, m with
  | some (kt, ei), .mp b => match H[b]? with
    | some (.map ks vs) => match kfindK C H kt k ks with
      | some (some i) => .ret (H.set b (.map (ks.eraseIdx i) (vs.eraseIdx i)))
      | some none => .ret (H.set b (.map ks vs))
      | none => .fail
    | _ => .fail
  | _, _ => .fail
/-! Cells copied, cleared -/
def rowOfV (v : V) : Option (Nat × Nat × Nat × Nat) := match v with
  | .own b ver off n _ _ => some (b, ver, off, n)
  | .row b ver off n _ => some (b, ver, off, n)
  | _ => none
def copyOp (C : Ctx) (H : AHeap) (t u : Nat) (d x : V) : SM (V × AHeap) := match appOk (C.ty u).kind, elemTI C t with
  | true, some ti => match srcCells H ti x with
    | some (n, ys) => match rowOfV d with
      | some (b, ver, off, m) => match min n m with
        | 0 => .ret (.p (.lit (.int .i64 (0 : Nat))), H)
        | k + 1 => (storeAt H (ys.take ((k + 1) * ti.size)) (.ptr b ver off)).bind fun H' => .ret (.p (.lit (.int .i64 (k + 1 : Nat))), H')
      | none => match d with
        | .p (.sl [] _) => .ret (.p (.lit (.int .i64 (0 : Nat))), H)
        | _ => .fail
    | none => .fail
  | _, _ => .fail
def clearOp (C : Ctx) (H : AHeap) (t : Nat) (d : V) : SM (V × AHeap) := match elemTI C t with
  | some ti => match rowOfV d with
    | some (b, ver, off, n) => match n with
      | 0 => .ret (.p (.tup []), H)
      | n + 1 => (storeAt H ((zeros (n + 1) ti.zero).map .p) (.ptr b ver off)).bind fun H' => .ret (.p (.tup []), H')
    | none => match d with
      | .p (.sl [] _) => .ret (.p (.tup []), H)
      | _ => .fail
  | none => .fail
/-- The place of an array whose elements are a slice's first. -/
def arrayAt (C : Ctx) (t : Nat) (v : V) : SM V := match arrTI C t with
  | some (n, _) => match v with
    | .own b ver off m _ _ => .chk (decide (n ≤ m ∧ 0 < m)) (.ret (.ptr b ver off))
    | .row b ver off m _ => .chk (decide (n ≤ m ∧ 0 < m)) (.ret (.ptr b ver off))
    | .vec _ _ xs => .chk (decide (n ≤ xs.length ∧ 0 < xs.length)) (.ret (.p (.rp (xs.flatMap D.cells))))
    | .p (.sl xs _) => .chk (decide (n ≤ xs.length ∧ 0 < xs.length)) (.ret (.p (.rp (xs.flatMap D.cells))))
    | _ => .fail
  | none => .fail
def aggOf : V → Option (List V)
  | .p (.agg l) => some (l.map .p)
  | .agg l => some l
  | _ => none
def fop (C : Ctx) (e : Env) (H : AHeap) : Op → SM (V × AHeap)
  | .move x => .ret (ev C e x, H)
  | .assign x => .ret (ev C e x, H)
  | .pick c a b => match ev C e c with
    | .p (.lit (.bool t)) => match t with
      | true => .ret (ev C e a, H)
      | false => .ret (ev C e b, H)
    | _ => .fail
  | .alloc t => match tyOf C t with
    | some i => .ret (.ptr H.length 0 0, H ++ [.cells (.t t) 0 (i.zero.map .p)])
    | none => .fail
  | .box t x => match (ev C e x).flat with
    | some l => .ret (.ptr H.length 0 0, H ++ [.cells (.t t) 0 l])
    | none => .fail
  | .build t parts => match tyOf C t with
    | some i => match placeOf C i.kind with
      | some pl => match fillV pl (i.zero.map .p) (evParts C e parts.toList) with
        | some cs => match packV true cs with
          | some v => .ret (v, H)
          | none => .fail
        | none => .fail
      | none => .fail
    | none => .fail
  | .buildSlice t len parts => match elemTI C t with
    | some ti => match fillV (fun k => some (k * ti.size, ti.size)) ((zeros len ti.zero).map .p) (evParts C e parts.toList) with
      | some cs => match toDsIf (rowLit C ti len) cs with
        | some ds => match packs ti.agg ti.size len ds with
          | some xs => .chk (decide (len * ti.size ≤ 16777216)) (.ret (.p (.sl xs true), H))
          | none => .fail
        | none => .chk (decide (len * ti.size ≤ 16777216)) (.ret (.row H.length 0 0 len ti.size, H ++ [.cells (.r (elemId C t)) 0 cs]))
      | none => .fail
    | none => .fail
  | .load t a => match loadAt C H t (ev C e a) with
    | some v => .ret (v, H)
    | none => .fail
  | .store t a x => match tyOf C t with
    | some i => match (ev C e x).flat with
      | some l => match Nat.beq l.length i.size with
        | true => (storeAt H l (ev C e a)).bind fun H' => .ret (.top, H')
        | false => .fail
      | none => .fail
    | none => .fail
  | .nilCheck x => match ev C e x with
    | .ptr b ver off => .ret (.ptr b ver off, H)
    | .p (.rp cs) => .ret (.p (.rp cs), H)
    | _ => .fail
  | .binOp op t x y _ => match nilK y with
    | 0 => pair H (bin C t op (ev C e x) (ev C e y))
    | 1 => pair H (ifcNil op (C.ty t).kind (ev C e x))
    | _ => pair H (slcNil op (C.ty t).kind (ev C e x))
  | .unOp op _ x => match op, ev C e x with
    | .not, .p (.lit (.bool b)) => .ret (.p (.lit (.bool !b)), H)
    | .neg, .p (.lit (.int k n)) => .ret (.p (.lit (.int k (k.wrap (0 - n)))), H)
    | .neg, .p (.lit (.float k b)) => .ret (.p (.lit (.float k (Op.negFloat k b))), H)
    | .xor, .p (.lit (.int k n)) => .ret (.p (.lit (.int k (k.wrap (BitVec.ofInt k.bits (if k.signed then -1 else k.max) ^^^ BitVec.ofInt k.bits n).toNat))), H)
    | _, _ => .fail
  | .convert src dst x => convertOp C H src dst (ev C e x)
  | .makeFunc (.func f) first captured => match first.toList with
    | x :: r => match captured.toList with
      | [] => .ret (.bfn f (ev C e x :: r.map (ev C e)), H)
      | _ => .fail
    | [] => match toDs (captured.toList.map (ev C e)) with
      | some ds => .ret (.p (.fn f ds), H)
      | none => .ret (.fn f (captured.toList.map (ev C e)), H)
  | .makeSlice t l c => match elemTI C t, ev C e l, ev C e c with
    | some ti, .p (.lit (.int _ n)), .p (.lit (.int _ m)) => .chk (decide (0 ≤ n ∧ n ≤ m ∧ (ti.bytes : Int) * m ≤ 140737488355328 ∧ m ≤ 140737488355328))
        (.ret (.own H.length 0 0 n.toNat ti.size (n == m), H ++ [.cells (.r (elemId C t)) 0 ((zeros n.toNat ti.zero).map .p)]))
    | _, _, _ => .fail
  | .slice t x lo hi mx => match evInt C e lo, evInt C e hi, evInt C e mx with
    | some lo, some hi, some mx => pair H (sliceOp C H t lo hi mx (ev C e x))
    | _, _, _ => .fail
  | .fieldAddr t x k => match fieldOf C t k with
    | some (off, fi) => match Nat.beq fi.size 0 with
      | true => .fail
      | false => match ev C e x with
        | .ptr b ver o => .ret (.ptr b ver (o + off), H)
        | .p (.rp cs) => .ret (.p (.rp (cs.drop off)), H)
        | _ => .fail
    | none => .fail
  | .field t x k => match fieldOf C t k with
    | some (off, fi) => match aggOf (ev C e x) with
      | some l => match Nat.ble (off + fi.size) l.length with
        | true => match packV fi.agg ((l.drop off).take fi.size) with
          | some v => .ret (v, H)
          | none => .fail
        | false => .fail
      | none => .fail
    | none => .fail
  | .indexAddr t x i => match ev C e i with
    | .p (.lit (.int _ i)) => pair H (indexAddr C t i (ev C e x))
    | _ => .fail
  | .index t x i => match ev C e i with
    | .p (.lit (.int _ i)) => pair H (index C t i (ev C e x))
    | _ => .fail
  | .extract x i => match ev C e x with
    | .p (.tup l) => match l[i]? with
      | some d => .ret (.p d, H)
      | none => .fail
    | .tup l => match l[i]? with
      | some v => .ret (v, H)
      | none => .fail
    | _ => .fail
  | .call { callee := .builtin .len, args := ⟨[x]⟩, argTypes := ⟨[t]⟩ } => match lenV C t (ev C e x) with
    | some n => .ret (.p (.lit (.int .i64 n)), H)
    | none => match (C.ty t).kind, mapAt H (ev C e x) with
      | .map _ _, some (ks, _) => .ret (.p (.lit (.int .i64 ks.length)), H)
      | _, _ => .fail
  | .makeInterface t x => match (C.ty t).kind, (ev C e x).toD with
    | .ifc, _ => .fail
    | .bad, _ => .fail
    | _, some d => .ret (.p (.ifc t d), H)
    | _, none => .fail
  | .call { callee := .builtin .cap, args := ⟨[x]⟩, argTypes := ⟨[t]⟩ } => match (C.ty t).kind, ev C e x with
    | .slice _, .p (.sl xs true) => .ret (.p (.lit (.int .i64 xs.length)), H)
    | _, _ => .fail
  | .call { callee := .builtin .unsafeSliceData, args := ⟨[x]⟩, .. } => match ev C e x with
    | .vec b s (y :: ys) => .ret (.vptr b s (y :: ys), H)
    | _ => .fail
  | .call { callee := .builtin .unsafeString, args := ⟨[x, n]⟩, argTypes := ⟨[t, _]⟩ } => unsafeStr C H t (ev C e x) (ev C e n)
  | .makeMap t none => match mapTI C t with
    | some _ => .ret (.mp H.length, H ++ [.map [] []])
    | none => .fail
  | .lookup t m k ok => pair H (lookupOp C H t (ev C e m) (ev C e k) ok)
  | .mapUpdate t m k x => (mapPut C H t (ev C e m) (ev C e k) (ev C e x)).bind fun H' => .ret (.top, H')
  | .insert t m k x => (mapPut C H t (ev C e m) (ev C e k) (ev C e x)).bind fun H' => .ret (.top, H')
  | .call { callee := .builtin .delete, args := ⟨[m, k]⟩, argTypes := ⟨[t, _]⟩ } => (mapDrop C H t (ev C e m) (ev C e k)).bind fun H' => .ret (.p (.tup []), H')
  | .call { callee := .builtin .copy, args := ⟨[d, x]⟩, argTypes := ⟨[t, u]⟩ } => copyOp C H t u (ev C e d) (ev C e x)
  | .call { callee := .builtin .clear, args := ⟨[d]⟩, argTypes := ⟨[t]⟩ } => clearOp C H t (ev C e d)
  | .call { callee := .builtin .complex, args := ⟨[x, y]⟩, .. } => match ev C e x, ev C e y with
    | .p (.lit (.float k a)), .p (.lit (.float k' b)) => .chk (decide (k = k')) (.ret (.p (.lit (.complex k a b)), H))
    | _, _ => .fail
  | .call { callee := .builtin .real, args := ⟨[x]⟩, .. } => match ev C e x with
    | .p (.lit (.complex k a _)) => .ret (.p (.lit (.float k a)), H)
    | _ => .fail
  | .call { callee := .builtin .imag, args := ⟨[x]⟩, .. } => match ev C e x with
    | .p (.lit (.complex k _ b)) => .ret (.p (.lit (.float k b)), H)
    | _ => .fail
  | .sliceToArrayPointer t x => pair H (arrayAt C t (ev C e x))
  | .call { callee := .builtin .max, args := ⟨x :: r⟩, .. } => pair H (folds max2 (ev C e x) (r.map (ev C e)))
  | .call { callee := .builtin .min, args := ⟨x :: r⟩, .. } => pair H (folds min2 (ev C e x) (r.map (ev C e)))
  | .call { callee := .builtin .append, args := ⟨[s, x]⟩, argTypes := ⟨[t, u]⟩ } => match rowWise C t (ev C e s) with
    | true => appendRow C H t u (ev C e s) (ev C e x)
    | false => appendOp C H t u (ev C e s) (ev C e x)
  | _ => .fail
end Go.Abs
