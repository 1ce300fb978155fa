/- The fast interpreter: shapes of values. Printed by gen_y3.py. -/
import Derived.Test.YtpmejcfbnghaeaaGreatDoorT22
namespace Go.Abs
set_option linter.unusedVariables false
noncomputable def wInt (v : Value) (y : IntKind → Int → ZR) (n : ZR) : ZR := @Value.rec (fun _ => (IntKind → Int → ZR) → (ZR) → ZR) (fun _ => PUnit) (fun _ => PUnit) (fun _ y n => n) (fun k n_ y n => y k n_) (fun _ _ y n => n) (fun _ _ _ y n => n) (fun _ y n => n) (fun _ y n => n) (fun _ _ _ y n => n) (fun _ y n => n) (fun _ y n => n) (fun _ _ _ _ _ y n => n) (fun y n => n) (fun _ _ _ y n => n) (fun y n => n) (fun _ _ y n => n) (fun _ _ y n => n) (fun _ _ => PUnit.unit) PUnit.unit (fun _ _ _ _ => PUnit.unit) v y n
noncomputable def dInt (v : D) (y : IntKind → Int → ZR) (n : ZR) : ZR := @D.rec (fun _ => (IntKind → Int → ZR) → (ZR) → ZR) (fun _ => PUnit) (fun v y n => wInt v y n) (fun _ _ y n => n) (fun _ _ _ y n => n) (fun _ _ y n => n) (fun _ _ _ y n => n) (fun _ _ _ y n => n) (fun _ _ y n => n) (fun _ _ _ _ y n => n) PUnit.unit (fun _ _ _ _ => PUnit.unit) v y n
noncomputable def zasInt (v : V) (y : IntKind → Int → ZR) (n : ZR) : ZR := @V.rec (fun _ => (IntKind → Int → ZR) → (ZR) → ZR) (fun _ => PUnit) (fun d y n => dInt d y n) (fun y n => n) (fun _ _ _ y n => n) (fun _ _ _ y n => n) (fun _ _ _ _ _ y n => n) (fun _ _ _ _ _ _ y n => n) (fun _ _ _ y n => n) (fun _ _ y n => n) (fun _ _ _ y n => n) (fun _ _ y n => n) (fun _ y n => n) (fun _ _ _ y n => n) PUnit.unit (fun _ _ _ _ => PUnit.unit) v y n
noncomputable def wBool (v : Value) (y : Bool → ZR) (n : ZR) : ZR := @Value.rec (fun _ => (Bool → ZR) → (ZR) → ZR) (fun _ => PUnit) (fun _ => PUnit) (fun b y n => y b) (fun _ _ y n => n) (fun _ _ y n => n) (fun _ _ _ y n => n) (fun _ y n => n) (fun _ y n => n) (fun _ _ _ y n => n) (fun _ y n => n) (fun _ y n => n) (fun _ _ _ _ _ y n => n) (fun y n => n) (fun _ _ _ y n => n) (fun y n => n) (fun _ _ y n => n) (fun _ _ y n => n) (fun _ _ => PUnit.unit) PUnit.unit (fun _ _ _ _ => PUnit.unit) v y n
noncomputable def dBool (v : D) (y : Bool → ZR) (n : ZR) : ZR := @D.rec (fun _ => (Bool → ZR) → (ZR) → ZR) (fun _ => PUnit) (fun v y n => wBool v y n) (fun _ _ y n => n) (fun _ _ _ y n => n) (fun _ _ y n => n) (fun _ _ _ y n => n) (fun _ _ _ y n => n) (fun _ _ y n => n) (fun _ _ _ _ y n => n) PUnit.unit (fun _ _ _ _ => PUnit.unit) v y n
noncomputable def zasBool (v : V) (y : Bool → ZR) (n : ZR) : ZR := @V.rec (fun _ => (Bool → ZR) → (ZR) → ZR) (fun _ => PUnit) (fun d y n => dBool d y n) (fun y n => n) (fun _ _ _ y n => n) (fun _ _ _ y n => n) (fun _ _ _ _ _ y n => n) (fun _ _ _ _ _ _ y n => n) (fun _ _ _ y n => n) (fun _ _ y n => n) (fun _ _ _ y n => n) (fun _ _ y n => n) (fun _ y n => n) (fun _ _ _ y n => n) PUnit.unit (fun _ _ _ _ => PUnit.unit) v y n
noncomputable def wStr (v : Value) (y : ByteArray → ZR) (n : ZR) : ZR := @Value.rec (fun _ => (ByteArray → ZR) → (ZR) → ZR) (fun _ => PUnit) (fun _ => PUnit) (fun _ y n => n) (fun _ _ y n => n) (fun _ _ y n => n) (fun _ _ _ y n => n) (fun s y n => y s) (fun _ y n => n) (fun _ _ _ y n => n) (fun _ y n => n) (fun _ y n => n) (fun _ _ _ _ _ y n => n) (fun y n => n) (fun _ _ _ y n => n) (fun y n => n) (fun _ _ y n => n) (fun _ _ y n => n) (fun _ _ => PUnit.unit) PUnit.unit (fun _ _ _ _ => PUnit.unit) v y n
noncomputable def dStr (v : D) (y : ByteArray → ZR) (n : ZR) : ZR := @D.rec (fun _ => (ByteArray → ZR) → (ZR) → ZR) (fun _ => PUnit) (fun v y n => wStr v y n) (fun _ _ y n => n) (fun _ _ _ y n => n) (fun _ _ y n => n) (fun _ _ _ y n => n) (fun _ _ _ y n => n) (fun _ _ y n => n) (fun _ _ _ _ y n => n) PUnit.unit (fun _ _ _ _ => PUnit.unit) v y n
noncomputable def zstr (v : V) (y : ByteArray → ZR) (n : ZR) : ZR := @V.rec (fun _ => (ByteArray → ZR) → (ZR) → ZR) (fun _ => PUnit) (fun d y n => dStr d y n) (fun y n => n) (fun _ _ _ y n => n) (fun _ _ _ y n => n) (fun _ _ _ _ _ y n => n) (fun _ _ _ _ _ _ y n => n) (fun _ _ _ y n => n) (fun _ _ y n => n) (fun _ _ _ y n => n) (fun _ _ y n => n) (fun _ y n => n) (fun _ _ _ y n => n) PUnit.unit (fun _ _ _ _ => PUnit.unit) v y n
noncomputable def dRp (v : D) (y : List D → ZR) (n : ZR) : ZR := @D.rec (fun _ => (List D → ZR) → (ZR) → ZR) (fun _ => PUnit) (fun _ y n => n) (fun _ _ y n => n) (fun _ _ _ y n => n) (fun cs _ y n => y cs) (fun _ _ _ y n => n) (fun _ _ _ y n => n) (fun _ _ y n => n) (fun _ _ _ _ y n => n) PUnit.unit (fun _ _ _ _ => PUnit.unit) v y n
noncomputable def zaddr (v : V) (y : Nat → Nat → Nat → ZR) (z : List D → ZR) (n : ZR) : ZR := @V.rec (fun _ => (Nat → Nat → Nat → ZR) → (List D → ZR) → (ZR) → ZR) (fun _ => PUnit) (fun d y z n => dRp d z n) (fun y z n => n) (fun _ _ _ y z n => n) (fun _ _ _ y z n => n) (fun _ _ _ _ _ y z n => n) (fun _ _ _ _ _ _ y z n => n) (fun b ver off y z n => y b ver off) (fun _ _ y z n => n) (fun _ _ _ y z n => n) (fun _ _ y z n => n) (fun _ y z n => n) (fun _ _ _ y z n => n) PUnit.unit (fun _ _ _ _ => PUnit.unit) v y z n
noncomputable def dOne (v : D) (y : V → ZR) (n : ZR) : ZR := @D.rec (fun _ => (V → ZR) → (ZR) → ZR) (fun _ => PUnit) (fun v y n => y (.p (.lit v))) (fun _ _ y n => n) (fun xs full _ y n => y (.p (.sl xs full))) (fun cs _ y n => y (.p (.rp cs))) (fun f caps _ y n => y (.p (.fn f caps))) (fun t d _ y n => y (.p (.ifc t d))) (fun _ _ y n => n) (fun ks vs _ _ y n => y (.p (.mp ks vs))) PUnit.unit (fun _ _ _ _ => PUnit.unit) v y n
noncomputable def zone (v : V) (y : V → ZR) (n : ZR) : ZR := @V.rec (fun _ => (V → ZR) → (ZR) → ZR) (fun _ => PUnit) (fun d y n => dOne d y n) (fun y n => n) (fun b s xs y n => y (.vec b s xs)) (fun b s xs y n => y (.vptr b s xs)) (fun b ver off len s y n => y (.row b ver off len s)) (fun b ver off len s full y n => y (.own b ver off len s full)) (fun b ver off y n => y (.ptr b ver off)) (fun _ _ y n => n) (fun f caps _ y n => y (.fn f caps)) (fun _ _ y n => n) (fun b y n => y (.mp b)) (fun f first _ y n => y (.bfn f first)) PUnit.unit (fun _ _ _ _ => PUnit.unit) v y n
noncomputable def dTup (v : D) (y : List D → ZR) (n : ZR) : ZR := @D.rec (fun _ => (List D → ZR) → (ZR) → ZR) (fun _ => PUnit) (fun _ y n => n) (fun _ _ y n => n) (fun _ _ _ y n => n) (fun _ _ y n => n) (fun _ _ _ y n => n) (fun _ _ _ y n => n) (fun l _ y n => y l) (fun _ _ _ _ y n => n) PUnit.unit (fun _ _ _ _ => PUnit.unit) v y n
noncomputable def ztup (v : V) (y : List V → ZR) (z : List D → ZR) (n : ZR) : ZR := @V.rec (fun _ => (List V → ZR) → (List D → ZR) → (ZR) → ZR) (fun _ => PUnit) (fun d y z n => dTup d z n) (fun y z n => n) (fun _ _ _ y z n => n) (fun _ _ _ y z n => n) (fun _ _ _ _ _ y z n => n) (fun _ _ _ _ _ _ y z n => n) (fun _ _ _ y z n => n) (fun _ _ y z n => n) (fun _ _ _ y z n => n) (fun l _ y z n => y l) (fun _ y z n => n) (fun _ _ _ y z n => n) PUnit.unit (fun _ _ _ _ => PUnit.unit) v y z n
noncomputable def zrowv (v : V) (y : Nat → Nat → Nat → Nat → ZR) (n : ZR) : ZR := @V.rec (fun _ => (Nat → Nat → Nat → Nat → ZR) → (ZR) → ZR) (fun _ => PUnit) (fun _ y n => n) (fun y n => n) (fun _ _ _ y n => n) (fun _ _ _ y n => n) (fun b ver off len s y n => y b ver off len) (fun b ver off len s full y n => y b ver off len) (fun _ _ _ y n => n) (fun _ _ y n => n) (fun _ _ _ y n => n) (fun _ _ y n => n) (fun _ y n => n) (fun _ _ _ y n => n) PUnit.unit (fun _ _ _ _ => PUnit.unit) v y n
noncomputable def zncasV (n : Nat) (k : Nat → ZR) : ZR := zncas n k
noncomputable def zbytes (l : List UInt8) : (List UInt8 → ZR) → ZR := @List.rec UInt8 (fun _ => (List UInt8 → ZR) → ZR) (fun k => k []) (fun b _ ih k => zncas b.toNat fun n => ih fun r => k (UInt8.ofNat n :: r)) l
theorem zbytes_eq (l : List UInt8) (k : List UInt8 → ZR) : zbytes l k = k l := by
  induction l generalizing k with
  | nil => rfl
  | cons b r ih =>
    show (zncas b.toNat fun n => zbytes r fun r => k (UInt8.ofNat n :: r)) = _
    rw [zncas_eq, ih]; simp
noncomputable def zspD (l : List D) : (List D → ZR) → ZR := @List.rec D (fun _ => (List D → ZR) → ZR) (fun k => k []) (fun b _ ih k => ih fun r => k (b :: r)) l
theorem zspD_eq (l : List D) (k : List D → ZR) : zspD l k = k l := by
  induction l generalizing k with
  | nil => rfl
  | cons b r ih => exact ih _
noncomputable def zspV (l : List V) : (List V → ZR) → ZR := @List.rec V (fun _ => (List V → ZR) → ZR) (fun k => k []) (fun b _ ih k => ih fun r => k (b :: r)) l
theorem zspV_eq (l : List V) (k : List V → ZR) : zspV l k = k l := by
  induction l generalizing k with
  | nil => rfl
  | cons b r ih => exact ih _
noncomputable def zspH (l : AHeap) : (AHeap → ZR) → ZR := @List.rec AObj (fun _ => (AHeap → ZR) → ZR) (fun k => k []) (fun b _ ih k => ih fun r => k (b :: r)) l
theorem zspH_eq (l : AHeap) (k : AHeap → ZR) : zspH l k = k l := by
  induction l generalizing k with
  | nil => rfl
  | cons b r ih => exact ih _
noncomputable def zspS (s : ByteArray) (k : ByteArray → ZR) : ZR := zbytes s.data.toList fun l => k ⟨⟨l⟩⟩
theorem zspS_eq (s : ByteArray) (k : ByteArray → ZR) : zspS s k = k s := by
  unfold zspS; rw [zbytes_eq]
noncomputable def wdc (v : Value) (k : Value → ZR) : ZR := @Value.rec (fun _ => (Value → ZR) → ZR) (fun _ => PUnit) (fun _ => PUnit) (fun b k => @Bool.rec (fun _ => ZR) (k (.bool false)) (k (.bool true)) b) (fun k_ n k => zicas n fun n => k (.int k_ n)) (fun k_ bits k => k (.float k_ bits)) (fun k_ re im k => k (.complex k_ re im)) (fun s k => zspS s fun s => k (.string s)) (fun a k => k (.pointer a)) (fun a len cap k => k (.slice a len cap)) (fun r k => k (.map r)) (fun r k => k (.chan r)) (fun fn first captured _ _ k => k (.func fn first captured)) (fun k => k .nilFunc) (fun t v _ k => k (.iface t v)) (fun k => k .nilIface) (fun cells _ k => k (.agg cells)) (fun vs _ k => k (.tuple vs)) (fun _ _ => PUnit.unit) PUnit.unit (fun _ _ _ _ => PUnit.unit) v k
noncomputable def ddc (v : D) (k : D → ZR) : ZR := @D.rec (fun _ => (D → ZR) → ZR) (fun _ => PUnit) (fun v k => wdc v fun v => k (.lit v)) (fun l _ k => zspD l fun l => k (.agg l)) (fun xs full _ k => zspD xs fun xs => @Bool.rec (fun _ => ZR) (k (.sl xs false)) (k (.sl xs true)) full) (fun cs _ k => k (.rp cs)) (fun f caps _ k => k (.fn f caps)) (fun t d _ k => k (.ifc t d)) (fun l _ k => zspD l fun l => k (.tup l)) (fun ks vs _ _ k => zspD ks fun ks => zspD vs fun vs => k (.mp ks vs)) PUnit.unit (fun _ _ _ _ => PUnit.unit) v k
noncomputable def vdc (v : V) (k : V → ZR) : ZR := @V.rec (fun _ => (V → ZR) → ZR) (fun _ => PUnit) (fun d k => ddc d fun d => k (.p d)) (fun k => k .top) (fun b s xs k => zncas b fun b => zspD xs fun xs => k (.vec b s xs)) (fun b s xs k => zncas b fun b => zspD xs fun xs => k (.vptr b s xs)) (fun b ver off len s k => zncas b fun b => zncas ver fun ver => zncas off fun off => zncas len fun len => k (.row b ver off len s)) (fun b ver off len s full k => zncas b fun b => zncas ver fun ver => zncas off fun off => zncas len fun len => @Bool.rec (fun _ => ZR) (k (.own b ver off len s false)) (k (.own b ver off len s true)) full) (fun b ver off k => zncas b fun b => zncas ver fun ver => zncas off fun off => k (.ptr b ver off)) (fun l _ k => zspV l fun l => k (.agg l)) (fun f caps _ k => zspV caps fun l => k (.fn f l)) (fun l _ k => zspV l fun l => k (.tup l)) (fun b k => zncas b fun b => k (.mp b)) (fun f first _ k => zspV first fun l => k (.bfn f l)) PUnit.unit (fun _ _ _ _ => PUnit.unit) v k
theorem wdc_eq (v : Value) (k : Value → ZR) : wdc v k = k v := by
  cases v with
  | bool b => cases b <;> rfl
  | int q n => exact zicas_eq n fun n => k (.int q n)
  | string s => exact zspS_eq s fun s => k (.string s)
  | _ => rfl
theorem ddc_eq (d : D) (k : D → ZR) : ddc d k = k d := by
  cases d with
  | lit v => exact wdc_eq v _
  | agg l => exact zspD_eq l _
  | sl xs full =>
    show zspD xs _ = _
    rw [zspD_eq]; cases full <;> rfl
  | tup l => exact zspD_eq l _
  | mp ks vs =>
    show zspD ks _ = _
    rw [zspD_eq, zspD_eq]
  | _ => rfl
theorem vdc_eq (v : V) (k : V → ZR) : vdc v k = k v := by
  cases v with
  | p d => exact ddc_eq d _
  | top => rfl
  | vec b s xs => show (zncas b fun b => zspD xs fun xs => k (.vec b s xs)) = _; rw [zncas_eq, zspD_eq]
  | vptr b s xs => show (zncas b fun b => zspD xs fun xs => k (.vptr b s xs)) = _; rw [zncas_eq, zspD_eq]
  | row b ver off len s => show (zncas b fun b => zncas ver fun ver => zncas off fun off => zncas len fun len => k (.row b ver off len s)) = _; rw [zncas_eq, zncas_eq, zncas_eq, zncas_eq]
  | own b ver off len s full => show (zncas b fun b => zncas ver fun ver => zncas off fun off => zncas len fun len => @Bool.rec (fun _ => ZR) (k (.own b ver off len s false)) (k (.own b ver off len s true)) full) = _; rw [zncas_eq, zncas_eq, zncas_eq, zncas_eq]; cases full <;> rfl
  | ptr b ver off => show (zncas b fun b => zncas ver fun ver => zncas off fun off => k (.ptr b ver off)) = _; rw [zncas_eq, zncas_eq, zncas_eq]
  | agg l => exact zspV_eq l _
  | fn f l => exact zspV_eq l _
  | tup l => exact zspV_eq l _
  | mp b => exact zncas_eq b fun b => k (.mp b)
  | bfn f l => exact zspV_eq l _
theorem zasInt_cases (v : V) (y : IntKind → Int → ZR) (n : ZR) : (∃ kk x, v = .p (.lit (.int kk x)) ∧ zasInt v y n = y kk x) ∨ (zasInt v y n = n ∧ ∀ kk x, v ≠ .p (.lit (.int kk x))) := by
  cases v with
  | p d =>
    cases d with
    | lit w =>
      cases w with
      | int kk x => exact .inl ⟨kk, x, rfl, rfl⟩
      | _ => exact .inr ⟨rfl, fun _ _ h => by cases h⟩
    | _ => exact .inr ⟨rfl, fun _ _ h => by cases h⟩
  | _ => exact .inr ⟨rfl, fun _ _ h => by cases h⟩
theorem zone_cases (v : V) (y : V → ZR) (n : ZR) : (v.flat = some [v] ∧ zone v y n = y v) ∨ zone v y n = n := by
  cases v with
  | p d => cases d <;> first | exact .inl ⟨rfl, rfl⟩ | exact .inr rfl
  | agg l => exact .inr rfl
  | tup l => exact .inr rfl
  | top => exact .inr rfl
  | _ => exact .inl ⟨rfl, rfl⟩
end Go.Abs
/- The fast interpreter: operations. -/
namespace Go.Abs
set_option linter.unusedVariables false
set_option linter.unusedSimpArgs false

/-- Slots by a tree, as an environment has them. -/
def Rp (x : E3) (e : Env) : Prop := (∀ i, i < 512 → x.get i = lk e i) ∧ ∀ i, 512 ≤ i → lk e i = .top
noncomputable def sTop : Sel := fun _ k => k .top
noncomputable def sV (v : V) : Sel := fun _ k => k v
noncomputable def selZ (t : Nat) : Sel := @Bool.rec (fun _ => Sel) sTop (selOf t) (Nat.blt t 512)
theorem selZ_eq {x : E3} {e : Env} (h : Rp x e) (t : Nat) (k : V → ZR) : selZ t x k = k (lk e t) := by
  unfold selZ
  cases hb : Nat.blt t 512
  · have : 512 ≤ t := by
      rw [blt_dec] at hb; simpa using hb
    show k .top = _
    rw [h.2 t this]
  · have : t < 512 := by simpa [Nat.blt_eq] using hb
    show selOf t x k = _
    rw [selOf_eq t this, h.1 t this]
def zglob (o : Option (List D)) : V := match o with
  | some cs => .p (.rp cs)
  | none => .top
noncomputable def zs (C : Ctx) (x : Operand) : Sel :=
  @Operand.rec (fun _ => Ctx → Sel) (fun t _ => selZ t) (fun v _ => sV (constD v)) (fun g C => sV (zglob (C.glob g))) (fun f _ => sV (.p (.fn f []))) x C
theorem zs_eq (C : Ctx) {x : E3} {e : Env} (h : Rp x e) (o : Operand) (k : V → ZR) : zs C o x k = k (ev C e o) := by
  cases o with
  | tmp t => exact selZ_eq h t k
  | const v => rfl
  | global g => show k (zglob (C.glob g)) = _; simp only [zglob, ev]; cases C.glob g <;> rfl
  | func f => rfl
/-! Blocks -/
noncomputable def zget (H : AHeap) : Nat → (AObj → ZR) → ZR :=
  @List.rec AObj (fun _ => Nat → (AObj → ZR) → ZR) (fun _ _ => none) (fun o _ ih b k => @Nat.rec (fun _ => ZR) (k o) (fun m _ => ih m k) b) H
theorem zget_eq (H : AHeap) (b : Nat) (k : AObj → ZR) : zget H b k = match H[b]? with
    | some o => k o
    | none => none := by
  induction H generalizing b with
  | nil => rfl
  | cons o r ih =>
    cases b with
    | zero => rfl
    | succ m => exact ih m
noncomputable def zcells (H : AHeap) (b ver : Nat) (k : Lz → List V → ZR) : ZR := zget H b fun o =>
  @AObj.rec (fun _ => Nat → (Lz → List V → ZR) → ZR) (fun lz v cs ver k => @Bool.rec (fun _ => ZR) none (k lz cs) (Nat.beq v ver)) (fun _ _ _ _ _ => none) (fun _ _ _ => none) (fun _ _ _ _ => none) o ver k
theorem zcells_eq (H : AHeap) (b ver : Nat) (k : Lz → List V → ZR) : zcells H b ver k = match objCells H[b]? ver with
    | some (lz, cs) => k lz cs
    | none => none := by
  unfold zcells
  rw [zget_eq]
  cases hb : H[b]? with
  | none => rfl
  | some o =>
    cases o with
    | cells lz v cs =>
      simp only [objCells]
      cases Nat.beq v ver <;> rfl
    | _ => rfl
noncomputable def znth (l : List V) : Nat → (V → ZR) → ZR :=
  @List.rec V (fun _ => Nat → (V → ZR) → ZR) (fun _ _ => none) (fun o _ ih b k => @Nat.rec (fun _ => ZR) (k o) (fun m _ => ih m k) b) l
theorem znth_eq (l : List V) (b : Nat) (k : V → ZR) : znth l b k = match l[b]? with
    | some o => k o
    | none => none := by
  induction l generalizing b with
  | nil => rfl
  | cons o r ih =>
    cases b with
    | zero => rfl
    | succ m => exact ih m
noncomputable def znthD (l : List D) : Nat → (D → ZR) → ZR :=
  @List.rec D (fun _ => Nat → (D → ZR) → ZR) (fun _ _ => none) (fun o _ ih b k => @Nat.rec (fun _ => ZR) (k o) (fun m _ => ih m k) b) l
theorem znthD_eq (l : List D) (b : Nat) (k : D → ZR) : znthD l b k = match l[b]? with
    | some o => k o
    | none => none := by
  induction l generalizing b with
  | nil => rfl
  | cons o r ih =>
    cases b with
    | zero => rfl
    | succ m => exact ih m
noncomputable def znthB (l : List UInt8) : Nat → (UInt8 → ZR) → ZR :=
  @List.rec UInt8 (fun _ => Nat → (UInt8 → ZR) → ZR) (fun _ _ => none) (fun o _ ih b k => @Nat.rec (fun _ => ZR) (k o) (fun m _ => ih m k) b) l
theorem znthB_eq (l : List UInt8) (b : Nat) (k : UInt8 → ZR) : znthB l b k = match l[b]? with
    | some o => k o
    | none => none := by
  induction l generalizing b with
  | nil => rfl
  | cons o r ih =>
    cases b with
    | zero => rfl
    | succ m => exact ih m
noncomputable def zset (l : List V) : Nat → V → (List V → ZR) → ZR :=
  @List.rec V (fun _ => Nat → V → (List V → ZR) → ZR) (fun _ _ _ => none) (fun o r ih b v k => @Nat.rec (fun _ => ZR) (k (v :: r)) (fun m _ => ih m v fun r' => k (o :: r')) b) l
theorem zset_eq (l : List V) (b : Nat) (v : V) (k : List V → ZR) : zset l b v k = match decide (b + 1 ≤ l.length) with
    | true => k (l.set b v)
    | false => none := by
  induction l generalizing b k with
  | nil => simp [zset]
  | cons o r ih =>
    cases b with
    | zero => show k (v :: r) = _; simp
    | succ m =>
      show zset r m v (fun r' => k (o :: r')) = _
      rw [ih]
      simp
noncomputable def zhset (H : AHeap) : Nat → AObj → (AHeap → ZR) → ZR :=
  @List.rec AObj (fun _ => Nat → AObj → (AHeap → ZR) → ZR) (fun _ _ k => k []) (fun o r ih b v k => @Nat.rec (fun _ => ZR) (k (v :: r)) (fun m _ => ih m v fun r' => k (o :: r')) b) H
theorem zhset_eq (H : AHeap) (b : Nat) (v : AObj) (k : AHeap → ZR) : zhset H b v k = k (H.set b v) := by
  induction H generalizing b k with
  | nil => rfl
  | cons o r ih =>
    cases b with
    | zero => rfl
    | succ m =>
      show zhset r m v (fun r' => k (o :: r')) = _
      rw [ih]; rfl
/-- A block more; its number. -/
noncomputable def zpush (H : AHeap) : AObj → Nat → (Nat → AHeap → ZR) → ZR :=
  @List.rec AObj (fun _ => AObj → Nat → (Nat → AHeap → ZR) → ZR) (fun o n k => zncas n fun n => k n [o]) (fun x r ih o n k => ih o (Nat.succ n) fun m r' => k m (x :: r')) H
theorem zpush_eq' (H : AHeap) (o : AObj) (n : Nat) (k : Nat → AHeap → ZR) : zpush H o n k = k (n + H.length) (H ++ [o]) := by
  induction H generalizing n k with
  | nil => simp [zpush, zncas_eq]
  | cons x r ih =>
    show zpush r o (n + 1) (fun m r' => k m (x :: r')) = _
    rw [ih]; simp only [List.length_cons, List.cons_append]; congr 1; omega
theorem zpush_eq (H : AHeap) (o : AObj) (k : Nat → AHeap → ZR) : zpush H o 0 k = k H.length (H ++ [o]) := by rw [zpush_eq']; simp
/-- An object's cells laid open. -/
noncomputable def zobj (o : AObj) (k : AObj → ZR) : ZR := @AObj.rec (fun _ => (AObj → ZR) → ZR) (fun lz v cs k => zspV cs fun cs => k (.cells lz v cs)) (fun t s n k => zncas n fun n => k (.tok t s n)) (fun v k => k (.dead v)) (fun ks vs k => zspV ks fun ks => zspV vs fun vs => k (.map ks vs)) o k
theorem zobj_eq (o : AObj) (k : AObj → ZR) : zobj o k = k o := by
  cases o with
  | cells lz v cs => exact zspV_eq cs fun cs => k (.cells lz v cs)
  | tok t s n => exact zncas_eq n fun n => k (.tok t s n)
  | dead v => rfl
  | map ks vs => show (zspV ks fun ks => zspV vs fun vs => k (.map ks vs)) = _; rw [zspV_eq, zspV_eq]
/-- The blocks laid open, and of them the one with a number. -/
noncomputable def zhp (H : AHeap) (b : Nat) (k : AHeap → ZR) : ZR := @List.rec AObj (fun _ => Nat → (AHeap → ZR) → ZR) (fun _ k => k []) (fun o r ih b k => @Nat.rec (fun _ => ZR) (zobj o fun o => zspH r fun r => k (o :: r)) (fun m _ => ih m fun r => k (o :: r)) b) H b k
theorem zhp_eq (H : AHeap) (b : Nat) (k : AHeap → ZR) : zhp H b k = k H := by
  unfold zhp
  induction H generalizing b k with
  | nil => rfl
  | cons o r ih =>
    cases b with
    | zero => show (zobj o fun o => zspH r fun r => k (o :: r)) = _; rw [zobj_eq, zspH_eq]
    | succ m => exact ih m _
/-- The block of a value. -/
noncomputable def vblk (v : V) : Nat := @V.rec (fun _ => Nat) (fun _ => PUnit) (fun _ => 0) 0 (fun b _ _ => b) (fun b _ _ => b) (fun b _ _ _ _ => b) (fun b _ _ _ _ _ => b) (fun b _ _ => b) (fun _ _ => 0) (fun _ _ _ => 0) (fun _ _ => 0) (fun b => b) (fun _ _ _ => 0) PUnit.unit (fun _ _ _ _ => PUnit.unit) v
/-- What comes of an operation that changes blocks. -/
noncomputable def zkH (x : Option (V × AHeap)) (k : V → AHeap → ZR) : ZR := ob x fun v H' => vdc v fun v => zhp H' (vblk v) fun H' => k v H'
theorem zkH_eq (x : Option (V × AHeap)) (k : V → AHeap → ZR) : zkH x k = ob x k := by
  unfold zkH ob; split
  · show (vdc _ fun v => zhp _ (vblk v) fun H' => k v H') = _; rw [vdc_eq, zhp_eq]
  · rfl
noncomputable def ysm (m : SM V) (k : V → ZR) : ZR := obV m.get fun v => vdc v k
theorem ysm_eq (m : SM V) (k : V → ZR) : ysm m k = obV m.get k := by
  unfold ysm obV; split
  · exact vdc_eq _ _
  · rfl
theorem pair_get (H : AHeap) (m : SM V) : (pair H m).get = match m.get with
    | some v => some (v, H)
    | none => none := by
  unfold pair
  induction m with
  | ret a => rfl
  | fail => rfl
  | chk b m ih =>
    show (match b with
      | true => (m.bind fun v => .ret (v, H)).get
      | false => none) = match (match b with
      | true => m.get
      | false => none) with
        | some v => some (v, H)
        | none => none
    cases b
    · rfl
    · exact ih
  | optD o f ih =>
    cases o with
    | none => rfl
    | some d => exact ih d
  | optB o f ih =>
    cases o with
    | none => rfl
    | some d => exact ih d
  | optL o f ih =>
    cases o with
    | none => rfl
    | some d => exact ih d
theorem ob_pair (H : AHeap) (m : SM V) (k : V → AHeap → ZR) : ob (pair H m).get k = obV m.get fun v => k v H := by
  rw [pair_get]; cases m.get <;> rfl
/-! Operations; each with the slots that it reads -/
abbrev K2 := V → AHeap → ZR
abbrev YH := XCall → E3 → AHeap → K2 → ZR
noncomputable def y_move (s : Sel) : YH := fun _ e H k => s e fun v => k v H
noncomputable def y_slow (op : Op) (C : Ctx) (l : E3 → Env) : YH := fun _ e H k => zkH (fop C (l e) H op).get k
/-- Two texts. -/
theorem bytes_app (x y : ByteArray) : (⟨⟨x.data.toList ++ y.data.toList⟩⟩ : ByteArray) = x ++ y := by
  apply ByteArray.ext
  rw [ByteArray.data_append]
  apply Array.ext'
  simp
noncomputable def zcat (x : List UInt8) (y : List UInt8) : (List UInt8 → ZR) → ZR := @List.rec UInt8 (fun _ => (List UInt8 → ZR) → ZR) (fun k => k y) (fun b _ ih k => ih fun r => k (b :: r)) x
theorem zcat_eq (x y : List UInt8) (k : List UInt8 → ZR) : zcat x y k = k (x ++ y) := by
  induction x generalizing k with
  | nil => rfl
  | cons b r ih => exact ih _
noncomputable def n_str (op : BinOp) (x y : ByteArray) (k : V → ZR) : ZR := ysm (strBin op x y) k
noncomputable def n_stradd (x y : ByteArray) (k : V → ZR) : ZR := zif (decide (x.size + y.size ≤ 9223372036854775807)) (zcat x.data.toList y.data.toList fun l => k (.p (.lit (.string ⟨⟨l⟩⟩)))) none
noncomputable def n_streql (x y : ByteArray) (k : V → ZR) : ZR := zbool (eqBytes x.data.toList y.data.toList) k
abbrev SOp := ByteArray → ByteArray → (V → ZR) → ZR
noncomputable def zstrop (op : BinOp) : SOp := @BinOp.rec (fun _ => SOp) n_stradd (n_str .sub) (n_str .mul) (n_str .quo) (n_str .rem) (n_str .and) (n_str .or) (n_str .xor) (n_str .shl) (n_str .shr) (n_str .andNot) n_streql (n_str .neq) (n_str .lss) (n_str .leq) (n_str .gtr) (n_str .geq) op
theorem zstrop_eq (op : BinOp) (x y : ByteArray) (k : V → ZR) : zstrop op x y k = obV (strBin op x y).get k := by
  cases op
  case add =>
    show zif (decide (x.size + y.size ≤ 9223372036854775807)) (zcat x.data.toList y.data.toList fun l => k (.p (.lit (.string ⟨⟨l⟩⟩)))) none = _
    simp only [zif_eq, zcat_eq, strBin, SM.get, bytes_app]
    cases decide (x.size + y.size ≤ 9223372036854775807) <;> rfl
  case eql => show zbool (beqS x y) k = _; rw [zbool_eq]; rfl
  case sub => exact ysm_eq (strBin .sub x y) k
  case mul => exact ysm_eq (strBin .mul x y) k
  case quo => exact ysm_eq (strBin .quo x y) k
  case rem => exact ysm_eq (strBin .rem x y) k
  case and => exact ysm_eq (strBin .and x y) k
  case or => exact ysm_eq (strBin .or x y) k
  case xor => exact ysm_eq (strBin .xor x y) k
  case shl => exact ysm_eq (strBin .shl x y) k
  case shr => exact ysm_eq (strBin .shr x y) k
  case andNot => exact ysm_eq (strBin .andNot x y) k
  case neq => exact ysm_eq (strBin .neq x y) k
  case lss => exact ysm_eq (strBin .lss x y) k
  case leq => exact ysm_eq (strBin .leq x y) k
  case gtr => exact ysm_eq (strBin .gtr x y) k
  case geq => exact ysm_eq (strBin .geq x y) k
noncomputable def y_bin (C : Ctx) (t : Nat) (op : BinOp) (f : IOp) (g : SOp) (sa sb : Sel) : YH := fun _ e H k => sa e fun a => sb e fun b =>
  zasInt a (fun kk x => zasInt b (fun kk' y => f kk kk' x y fun v => k v H) (ysm (bin C t op a b) fun v => k v H))
    (zstr a (fun x => zstr b (fun y => g x y fun v => k v H) (ysm (bin C t op a b) fun v => k v H)) (ysm (bin C t op a b) fun v => k v H))
theorem zstr_cases (v : V) (y : ByteArray → ZR) (n : ZR) : (∃ x, v = .p (.lit (.string x)) ∧ zstr v y n = y x) ∨ zstr v y n = n := by
  cases v with
  | p d =>
    cases d with
    | lit w =>
      cases w with
      | string x => exact .inl ⟨x, rfl, rfl⟩
      | _ => exact .inr rfl
    | _ => exact .inr rfl
  | _ => exact .inr rfl
theorem bin_str (C : Ctx) (t : Nat) (op : BinOp) (x y : ByteArray) : bin C t op (.p (.lit (.string x))) (.p (.lit (.string y))) = strBin op x y := by cases op <;> rfl
section
variable {C : Ctx} {x : E3} {e : Env} (call : XCall) (H : AHeap) (k : K2)
theorem y_move_eq (o : Operand) {sa : Sel} (hsa : ∀ k, sa x k = k (ev C e o)) : y_move sa call x H k = ob (fop C e H (.move o)).get k := by
  show sa x _ = _
  rw [hsa]; rfl
theorem y_bin_eq (t u : Nat) (op : BinOp) (a b : Operand) (hn : nilK b = 0) {sa : Sel} (hsa : ∀ k, sa x k = k (ev C e a)) {sb : Sel} (hsb : ∀ k, sb x k = k (ev C e b)) : y_bin C t op (zintop op) (zstrop op) sa sb call x H k = ob (fop C e H (.binOp op t a b u)).get k := by
  unfold y_bin
  simp only [hsa, hsb, fop, hn, ob_pair, ysm_eq]
  generalize ev C e a = va
  generalize ev C e b = vb
  rcases zasInt_cases va (fun kk x => zasInt vb (fun kk' y => zintop op kk kk' x y fun v => k v H) (obV (bin C t op va vb).get fun v => k v H)) (zstr va (fun x => zstr vb (fun y => zstrop op x y fun v => k v H) (obV (bin C t op va vb).get fun v => k v H)) (obV (bin C t op va vb).get fun v => k v H)) with ⟨kk, x, rfl, h1⟩ | ⟨h1, _⟩
  · rw [h1]
    rcases zasInt_cases vb (fun kk' y => zintop op kk kk' x y fun v => k v H) (obV (bin C t op (.p (.lit (.int kk x))) vb).get fun v => k v H) with ⟨kk', y, rfl, h2⟩ | ⟨h2, _⟩
    · rw [h2, zintop_eq C t]
    · rw [h2]
  · rw [h1]
    rcases zstr_cases va (fun x => zstr vb (fun y => zstrop op x y fun v => k v H) (obV (bin C t op va vb).get fun v => k v H)) (obV (bin C t op va vb).get fun v => k v H) with ⟨x, rfl, h2⟩ | h2
    · rw [h2]
      rcases zstr_cases vb (fun y => zstrop op x y fun v => k v H) (obV (bin C t op (.p (.lit (.string x))) vb).get fun v => k v H) with ⟨y, rfl, h3⟩ | h3
      · rw [h3, zstrop_eq, bin_str]
      · rw [h3]
    · rw [h2]
end
noncomputable def y_ifcNil (C : Ctx) (t : Nat) (op : BinOp) (sa : Sel) : YH := fun _ e H k => sa e fun a => ysm (ifcNil op (C.ty t).kind a) fun v => k v H
noncomputable def y_slcNil (C : Ctx) (t : Nat) (op : BinOp) (sa : Sel) : YH := fun _ e H k => sa e fun a => ysm (slcNil op (C.ty t).kind a) fun v => k v H
/-- Is a type's value one cell? -/
def ld1 (C : Ctx) (t : Nat) : Bool := match tyOf C t with
  | some i => !i.agg && Nat.beq i.size 1
  | none => false
theorem ld1_spec {C : Ctx} {t : Nat} (h : ld1 C t = true) : ∃ i, tyOf C t = some i ∧ i.agg = false ∧ i.size = 1 := by
  unfold ld1 at h
  split at h
  · rename_i i hi
    simp at h
    exact ⟨i, hi, h.1, h.2⟩
  · cases h
theorem take1 {α : Type} (l : List α) (n : Nat) (h : n + 1 ≤ l.length) : (l.drop n).take 1 = [l[n]] := by
  rw [List.take_one]
  simp [List.getElem?_eq_getElem (show n < l.length by omega)]
/-- A value of one cell. -/
noncomputable def y_load1 (s : Sel) : YH := fun _ e H k => s e fun av => zaddr av (fun b ver off => zcells H b ver fun _ cs => znth cs off fun v => k v H) (fun cs => znthD cs 0 fun d => k (.p d) H) none
noncomputable def y_loadA (C : Ctx) (t : Nat) (s : Sel) : YH := fun _ e H k => s e fun av => obV (loadAt C H t av) fun v => vdc v fun v => k v H
noncomputable def y_load (C : Ctx) (t : Nat) (s : Sel) : YH := @Bool.rec (fun _ => YH) (y_loadA C t s) (y_load1 s) (ld1 C t)
theorem fop_load (C : Ctx) (e : Env) (H : AHeap) (t : Nat) (a : Operand) (k : K2) : ob (fop C e H (.load t a)).get k = obV (loadAt C H t (ev C e a)) fun v => k v H := by
  simp only [fop]
  cases loadAt C H t (ev C e a) <;> rfl
theorem load1_eq {C : Ctx} {t : Nat} (hl : ld1 C t = true) (H : AHeap) (av : V) (k : K2) : zaddr av (fun b ver off => zcells H b ver fun _ cs => znth cs off fun v => k v H) (fun cs => znthD cs 0 fun d => k (.p d) H) none = obV (loadAt C H t av) fun v => k v H := by
  obtain ⟨i, hi, hg, hs⟩ := ld1_spec hl
  unfold loadAt
  rw [hi]
  simp only [hs, hg]
  cases av with
  | ptr b ver off =>
    show (zcells H b ver fun _ cs => znth cs off fun v => k v H) = _
    simp only [zcells_eq, znth_eq]
    cases objCells H[b]? ver with
    | none => rfl
    | some r =>
      obtain ⟨lz, cs⟩ := r
      simp only
      cases hb : Nat.ble (off + 1) cs.length
      · have : cs[off]? = none := List.getElem?_eq_none (by
          have : ¬ off + 1 ≤ cs.length := by intro h; rw [← Nat.ble_eq] at h; simp [h] at hb
          omega)
        rw [this]; rfl
      · have h : off + 1 ≤ cs.length := by simpa [Nat.ble_eq] using hb
        simp only [take1 cs off h, packV]
        rw [List.getElem?_eq_getElem (show off < cs.length by omega)]; rfl
  | p d =>
    cases d with
    | rp cs =>
      show (znthD cs 0 fun d => k (.p d) H) = _
      simp only [znthD_eq]
      cases cs with
      | nil => rfl
      | cons c r => simp [packD, obV, Nat.ble]
    | _ => rfl
  | _ => rfl
/-- One cell stored. -/
noncomputable def zstore1 (av v : V) (H : AHeap) (k : AHeap → ZR) : ZR := zaddr av (fun b ver off => zcells H b ver fun lz cs => zset cs off v fun cs => zhset H b (.cells lz ver cs) fun H' => k H') (fun _ => none) none
def f_store (C : Ctx) (t : Nat) (H : AHeap) (av xv : V) : SM (V × AHeap) := match tyOf C t with
    | some i => match xv.flat with
      | some l => match Nat.beq l.length i.size with
        | true => (storeAt H l av).bind fun H' => .ret (.top, H')
        | false => .fail
      | none => .fail
    | none => .fail
noncomputable def y_store1 (C : Ctx) (t : Nat) (sa sx : Sel) : YH := fun _ e H k => sa e fun av => sx e fun xv => zone xv (fun v => zstore1 av v H fun H' => k .top H') (ob (f_store C t H av xv).get fun v H' => zhp H' (vblk av) fun H' => k v H')
noncomputable def y_storeA (C : Ctx) (t : Nat) (sa sx : Sel) : YH := fun _ e H k => sa e fun av => sx e fun xv => ob (f_store C t H av xv).get fun v H' => zhp H' (vblk av) fun H' => k v H'
noncomputable def y_store (C : Ctx) (t : Nat) (sa sx : Sel) : YH := @Bool.rec (fun _ => YH) (y_storeA C t sa sx) (y_store1 C t sa sx) (ld1 C t)
theorem store_slow (C : Ctx) (t : Nat) (H : AHeap) (av xv : V) (k : K2) : (ob (f_store C t H av xv).get fun v H' => zhp H' (vblk av) fun H' => k v H') = ob (f_store C t H av xv).get k := by
  unfold ob; split
  · show zhp _ (vblk av) _ = _; rw [zhp_eq]
  · rfl
theorem store1_eq {C : Ctx} {t : Nat} (hl : ld1 C t = true) (H : AHeap) (av xv : V) (k : K2) : zone xv (fun v => zstore1 av v H fun H' => k .top H') (ob (f_store C t H av xv).get k) = ob (f_store C t H av xv).get k := by
  obtain ⟨i, hi, hg, hs⟩ := ld1_spec hl
  rcases zone_cases xv (fun v => zstore1 av v H fun H' => k .top H') (ob (f_store C t H av xv).get k) with ⟨hf, h⟩ | h
  · rw [h]
    unfold f_store zstore1
    simp only [hi, hf, hs, List.length_cons, List.length_nil]
    cases av with
    | ptr b ver off =>
      show (zcells H b ver fun lz cs => zset cs off xv fun cs => zhset H b (.cells lz ver cs) fun H' => k .top H') = _
      simp only [storeAt, List.length_cons, List.length_nil, zcells_eq]
      cases objCells H[b]? ver with
      | none => rfl
      | some r =>
        obtain ⟨lz, cs⟩ := r
        simp only [zset_eq, zhset_eq, SM.bind, SM.get, setSlice, Nat.zero_add]
        cases decide (off + 1 ≤ cs.length) <;> rfl
    | p d => cases d <;> rfl
    | _ => rfl
  · rw [h]
noncomputable def zdropD (l : List D) : Nat → (List D → ZR) → ZR :=
  @List.rec D (fun _ => Nat → (List D → ZR) → ZR) (fun _ k => k []) (fun o r ih b k => @Nat.rec (fun _ => ZR) (k (o :: r)) (fun m _ => ih m k) b) l
theorem zdropD_eq (l : List D) (b : Nat) (k : List D → ZR) : zdropD l b k = k (l.drop b) := by
  induction l generalizing b with
  | nil => simp [zdropD]
  | cons o r ih =>
    cases b with
    | zero => rfl
    | succ m => exact ih m
noncomputable def y_none : YH := fun _ _ _ _ => none
noncomputable def y_faddr (off : Nat) (s : Sel) : YH := fun _ e H k => s e fun xv => zaddr xv (fun b ver o => zncas (Nat.add o off) fun o => k (.ptr b ver o) H) (fun cs => zdropD cs off fun cs => k (.p (.rp cs)) H) none
noncomputable def y_fieldAddr (C : Ctx) (t f : Nat) (s : Sel) : YH := @Option.rec (Nat × TI) (fun _ => YH) y_none (fun p => @Prod.rec Nat TI (fun _ => YH) (fun off fi => @Bool.rec (fun _ => YH) (y_faddr off s) y_none (Nat.beq fi.size 0)) p) (fieldOf C t f)
/-- An index from 0 on. -/
noncomputable def zidx (i : Int) (k : Nat → ZR) : ZR := @Int.rec (fun _ => ZR) (fun a => k a) (fun _ => none) i
noncomputable def zfield (o : Option (Nat × TI)) (k : Nat → TI → ZR) : ZR := @Option.rec (Nat × TI) (fun _ => ZR) none (fun p => @Prod.rec Nat TI (fun _ => ZR) (fun off fi => k off fi) p) o
theorem zfield_eq (o : Option (Nat × TI)) (k : Nat → TI → ZR) : zfield o k = match o with
    | some (off, fi) => k off fi
    | none => none := by cases o <;> rfl
noncomputable def zti (o : Option TI) (k : TI → ZR) : ZR := @Option.rec TI (fun _ => ZR) none k o
theorem zti_eq (o : Option TI) (k : TI → ZR) : zti o k = match o with
    | some i => k i
    | none => none := by cases o <;> rfl
noncomputable def zindexAddr (C : Ctx) (t : Nat) (i : Int) (v : V) (k : V → ZR) : ZR :=
  zaddr v (fun b ver off => zfield (arrTI C t) fun n ti => zidx i fun a => @Bool.rec (fun _ => ZR) none (zncas (Nat.add off (Nat.mul a ti.size)) fun o => k (.ptr b ver o)) (Nat.blt a n)) (fun _ => ysm (indexAddr C t i v) k)
    (zrowv v (fun b ver off len => zti (elemTI C t) fun ti => zidx i fun a => @Bool.rec (fun _ => ZR) none (zncas (Nat.add off (Nat.mul a ti.size)) fun o => k (.ptr b ver o)) (Nat.blt a len)) (ysm (indexAddr C t i v) k))
theorem zindexAddr_eq (C : Ctx) (t : Nat) (i : Int) (v : V) (k : V → ZR) : zindexAddr C t i v k = obV (indexAddr C t i v).get k := by
  have key : ∀ (b ver off n s : Nat), (zidx i fun a => @Bool.rec (fun _ => ZR) none (zncas (Nat.add off (Nat.mul a s)) fun o => k (.ptr b ver o)) (Nat.blt a n)) = obV (SM.chk (decide (0 ≤ i ∧ i < n)) (.ret (.ptr b ver (off + i.toNat * s)))).get k := by
    intro b ver off n s
    cases i with
    | ofNat a =>
      show @Bool.rec (fun _ => ZR) none (zncas (off + a * s) fun o => k (.ptr b ver o)) (Nat.blt a n) = _
      rw [blt_dec]
      have : decide (0 ≤ Int.ofNat a ∧ Int.ofNat a < (n : Int)) = decide (a < n) := by
        rw [Bool.eq_iff_iff]; simp
      rw [this]
      cases decide (a < n)
      · rfl
      · simp [zncas_eq, SM.get, obV]
    | negSucc a =>
      have : decide (0 ≤ Int.negSucc a ∧ Int.negSucc a < (n : Int)) = false := by
        rw [decide_eq_false_iff_not]; intro h; have := h.1; omega
      rw [this]; rfl
  unfold zindexAddr
  have ys := ysm_eq (indexAddr C t i v) k
  cases v with
  | ptr b ver off =>
    show (zfield (arrTI C t) fun n ti => zidx i fun a => @Bool.rec (fun _ => ZR) none (zncas (Nat.add off (Nat.mul a ti.size)) fun o => k (.ptr b ver o)) (Nat.blt a n)) = _
    simp only [zfield_eq, indexAddr]
    cases arrTI C t with
    | none => rfl
    | some r => exact key b ver off r.1 r.2.size
  | own b ver off len s full =>
    show (zti (elemTI C t) fun ti => zidx i fun a => @Bool.rec (fun _ => ZR) none (zncas (Nat.add off (Nat.mul a ti.size)) fun o => k (.ptr b ver o)) (Nat.blt a len)) = _
    simp only [zti_eq, indexAddr]
    cases elemTI C t with
    | none => rfl
    | some r => exact key b ver off len r.size
  | row b ver off len s =>
    show (zti (elemTI C t) fun ti => zidx i fun a => @Bool.rec (fun _ => ZR) none (zncas (Nat.add off (Nat.mul a ti.size)) fun o => k (.ptr b ver o)) (Nat.blt a len)) = _
    simp only [zti_eq, indexAddr]
    cases elemTI C t with
    | none => rfl
    | some r => exact key b ver off len r.size
  | p d => cases d <;> exact ys
  | top => exact ys
  | vec => exact ys
  | vptr => exact ys
  | agg => exact ys
  | fn => exact ys
  | tup => exact ys
  | mp => exact ys
  | bfn => exact ys
noncomputable def y_indexAddr (C : Ctx) (t : Nat) (sx si : Sel) : YH := fun _ e H k => si e fun iv => zasInt iv (fun _ n => sx e fun xv => zindexAddr C t n xv fun v => k v H) none
def isStr (C : Ctx) (t : Nat) : Bool := match (C.ty t).kind with
  | .str => true
  | _ => false
noncomputable def zindex (C : Ctx) (t : Nat) (i : Int) (v : V) (k : V → ZR) : ZR :=
  zstr v (fun s => @Bool.rec (fun _ => ZR) none (zidx i fun a => znthB s.data.toList a fun b => zncas b.toNat fun n => k (.p (.lit (.int .u8 (Int.ofNat n))))) (isStr C t)) (ysm (index C t i v) k)
theorem zindex_eq (C : Ctx) (t : Nat) (i : Int) (v : V) (k : V → ZR) : zindex C t i v k = obV (index C t i v).get k := by
  unfold zindex
  have ys := ysm_eq (index C t i v) k
  cases v with
  | p d =>
    cases d with
    | lit w =>
      cases w with
      | string s =>
        show @Bool.rec (fun _ => ZR) none (zidx i fun a => znthB s.data.toList a fun b => zncas b.toNat fun n => k (.p (.lit (.int .u8 (Int.ofNat n))))) (isStr C t) = _
        simp only [index, isStr]
        cases (C.ty t).kind with
        | str =>
          simp only []
          cases i with
          | ofNat a =>
            simp only [zidx, znthB_eq, zncas_eq, SM.get]
            have h0 : decide ((0 : Int) ≤ Int.ofNat a) = true := by simp
            have h1 : (Int.ofNat a).toNat = a := rfl
            rw [h0, h1]
            cases s.data.toList[a]? <;> rfl
          | negSucc a => rfl
        | _ => rfl
      | _ => exact ys
    | _ => exact ys
  | _ => exact ys
noncomputable def y_index (C : Ctx) (t : Nat) (sx si : Sel) : YH := fun _ e H k => si e fun iv => zasInt iv (fun _ n => sx e fun xv => zindex C t n xv fun v => k v H) none
noncomputable def y_extract (s : Sel) (i : Nat) : YH := fun _ e H k => s e fun v => ztup v (fun l => znth l i fun v => k v H) (fun l => znthD l i fun d => k (.p d) H) none
noncomputable def y_allocT (t : Nat) (z : List V) : YH := fun _ _ H k => zpush H (.cells (.t t) 0 z) 0 fun n H' => k (.ptr n 0 0) H'
noncomputable def y_alloc (C : Ctx) (t : Nat) : YH := @Option.rec TI (fun _ => YH) y_none (fun i => y_allocT t (i.zero.map .p)) (tyOf C t)
noncomputable def zflat (v : V) (k : List V → ZR) : ZR := zone v (fun v => k [v]) (match v.flat with
  | some l => zspV l k
  | none => none)
theorem zflat_eq (v : V) (k : List V → ZR) : zflat v k = match v.flat with
    | some l => k l
    | none => none := by
  unfold zflat
  rcases zone_cases v (fun v => k [v]) (match v.flat with
    | some l => zspV l k
    | none => none) with ⟨hf, h⟩ | h
  · rw [h, hf]
  · rw [h]; simp only [zspV_eq]
noncomputable def y_box (t : Nat) (s : Sel) : YH := fun _ e H k => s e fun v => zflat v fun l => zpush H (.cells (.t t) 0 l) 0 fun n H' => k (.ptr n 0 0) H'
noncomputable def y_nilCheck (s : Sel) : YH := fun _ e H k => s e fun v => zaddr v (fun b ver off => k (.ptr b ver off) H) (fun cs => k (.p (.rp cs)) H) none
noncomputable def zwI (kk : IntKind) (x : Int) (k : V → ZR) : ZR := @Int.rec (fun _ => ZR) (fun a => zwN kk a k) (fun a => zicas (kk.wrap (Int.negSucc a)) fun n => k (.p (.lit (.int kk n)))) x
theorem zwI_eq (kk : IntKind) (x : Int) (k : V → ZR) : zwI kk x k = k (.p (.lit (.int kk (kk.wrap x)))) := by
  cases x
  · exact zwN_eq kk _ k
  · simp [zwI, zicas_eq]
noncomputable def y_convI (C : Ctx) (s d : Nat) (kk : IntKind) (sx : Sel) : YH := fun _ e H k => sx e fun v => zasInt v (fun _ x => zwI kk x fun v => k v H) none
noncomputable def y_convS (C : Ctx) (s d : Nat) (sx : Sel) : YH := fun _ e H k => sx e fun v => zkH (convertOp C H s d v).get k
noncomputable def intK (C : Ctx) (d : Nat) (y : IntKind → YH) (n : YH) : YH := match (C.ty d).kind with
  | .int kk => y kk
  | _ => n
noncomputable def y_conv (C : Ctx) (s d : Nat) (sx : Sel) : YH := @Option.rec TI (fun _ => YH) y_none (fun _ => intK C d (fun kk => y_convI C s d kk sx) (y_convS C s d sx)) (tyOf C s)
noncomputable def y_not (s : Sel) : YH := fun _ e H k => s e fun v => zasBool v (fun b => @Bool.rec (fun _ => ZR) (k (.p (.lit (.bool true))) H) (k (.p (.lit (.bool false))) H) b) none
def f_un (op : UnOp) (v : V) : Option V := match op, v with
    | .not, .p (.lit (.bool b)) => some (.p (.lit (.bool !b)))
    | .neg, .p (.lit (.int k n)) => some (.p (.lit (.int k (k.wrap (0 - n)))))
    | .neg, .p (.lit (.float k b)) => some (.p (.lit (.float k (Op.negFloat k b))))
    | .xor, .p (.lit (.int k n)) => some (.p (.lit (.int k (k.wrap (BitVec.ofInt k.bits (if k.signed then -1 else k.max) ^^^ BitVec.ofInt k.bits n).toNat))))
    | _, _ => none
noncomputable def y_un (op : UnOp) (s : Sel) : YH := fun _ e H k => s e fun v => obV (f_un op v) fun v => vdc v fun v => k v H
section
variable {C : Ctx} {x : E3} {e : Env} (call : XCall) (H : AHeap) (k : K2)
theorem y_ifcNil_eq (t u : Nat) (op : BinOp) (a b : Operand) (hn : nilK b = 1) {sa : Sel} (hsa : ∀ k, sa x k = k (ev C e a)) : y_ifcNil C t op sa call x H k = ob (fop C e H (.binOp op t a b u)).get k := by
  unfold y_ifcNil
  simp only [hsa, fop, hn, ob_pair, ysm_eq]
theorem y_slcNil_eq (t u : Nat) (op : BinOp) (a b : Operand) (hn : ∃ m, nilK b = m + 2) {sa : Sel} (hsa : ∀ k, sa x k = k (ev C e a)) : y_slcNil C t op sa call x H k = ob (fop C e H (.binOp op t a b u)).get k := by
  obtain ⟨m, hn⟩ := hn
  unfold y_slcNil
  simp only [hsa, fop, hn, ob_pair, ysm_eq]
theorem y_load_eq (t : Nat) (a : Operand) {sa : Sel} (hsa : ∀ k, sa x k = k (ev C e a)) : y_load C t sa call x H k = ob (fop C e H (.load t a)).get k := by
  rw [fop_load]
  unfold y_load
  cases hl : ld1 C t
  · show sa x _ = _
    rw [hsa]
    simp only [vdc_eq]
  · show sa x _ = _
    rw [hsa]
    exact load1_eq hl H _ k
theorem y_store_eq (t : Nat) (a b : Operand) {sa : Sel} (hsa : ∀ k, sa x k = k (ev C e a)) {sb : Sel} (hsb : ∀ k, sb x k = k (ev C e b)) : y_store C t sa sb call x H k = ob (fop C e H (.store t a b)).get k := by
  unfold y_store
  have hf : fop C e H (.store t a b) = f_store C t H (ev C e a) (ev C e b) := rfl
  rw [hf]
  cases hl : ld1 C t
  · show sa x _ = _
    rw [hsa, hsb]
    exact store_slow C t H _ _ k
  · show sa x _ = _
    rw [hsa, hsb]
    rw [store_slow]
    exact store1_eq hl H _ _ k
theorem y_fieldAddr_eq (t f : Nat) (a : Operand) {sa : Sel} (hsa : ∀ k, sa x k = k (ev C e a)) : y_fieldAddr C t f sa call x H k = ob (fop C e H (.fieldAddr t a f)).get k := by
  unfold y_fieldAddr
  simp only [fop]
  cases fieldOf C t f with
  | none => rfl
  | some r =>
    obtain ⟨off, fi⟩ := r
    simp only
    cases hz : Nat.beq fi.size 0
    · show sa x _ = _
      rw [hsa]
      simp only [zncas_eq, zdropD_eq]
      cases ev C e a with
      | p d => cases d <;> rfl
      | _ => rfl
    · rfl
theorem y_indexAddr_eq (t : Nat) (a b : Operand) {sa : Sel} (hsa : ∀ k, sa x k = k (ev C e a)) {sb : Sel} (hsb : ∀ k, sb x k = k (ev C e b)) : y_indexAddr C t sa sb call x H k = ob (fop C e H (.indexAddr t a b)).get k := by
  unfold y_indexAddr
  simp only [hsa, hsb, zindexAddr_eq, fop]
  cases ev C e b with
  | p d =>
    cases d with
    | lit w =>
      cases w with
      | int kk n => exact (ob_pair _ _ _).symm
      | _ => rfl
    | _ => rfl
  | _ => rfl
theorem y_index_eq (t : Nat) (a b : Operand) {sa : Sel} (hsa : ∀ k, sa x k = k (ev C e a)) {sb : Sel} (hsb : ∀ k, sb x k = k (ev C e b)) : y_index C t sa sb call x H k = ob (fop C e H (.index t a b)).get k := by
  unfold y_index
  simp only [hsa, hsb, zindex_eq, fop]
  cases ev C e b with
  | p d =>
    cases d with
    | lit w =>
      cases w with
      | int kk n => exact (ob_pair _ _ _).symm
      | _ => rfl
    | _ => rfl
  | _ => rfl
theorem y_extract_eq (a : Operand) (i : Nat) {sa : Sel} (hsa : ∀ k, sa x k = k (ev C e a)) : y_extract sa i call x H k = ob (fop C e H (.extract a i)).get k := by
  unfold y_extract
  simp only [hsa, fop]
  cases ev C e a with
  | p d =>
    cases d with
    | tup l =>
      show (znthD l i fun d => k (.p d) H) = _
      simp only [znthD_eq]
      cases l[i]? <;> rfl
    | _ => rfl
  | tup l =>
    show (znth l i fun v => k v H) = _
    simp only [znth_eq]
    cases l[i]? <;> rfl
  | _ => rfl
theorem y_alloc_eq (t : Nat) : y_alloc C t call x H k = ob (fop C e H (.alloc t)).get k := by
  unfold y_alloc
  simp only [fop]
  cases tyOf C t with
  | none => rfl
  | some i => show zpush H _ 0 _ = _; rw [zpush_eq]; rfl
theorem y_box_eq (t : Nat) (a : Operand) {sa : Sel} (hsa : ∀ k, sa x k = k (ev C e a)) : y_box t sa call x H k = ob (fop C e H (.box t a)).get k := by
  unfold y_box
  simp only [hsa, zflat_eq, fop, zpush_eq]
  cases (ev C e a).flat <;> rfl
theorem y_nilCheck_eq (a : Operand) {sa : Sel} (hsa : ∀ k, sa x k = k (ev C e a)) : y_nilCheck sa call x H k = ob (fop C e H (.nilCheck a)).get k := by
  unfold y_nilCheck
  simp only [hsa, fop]
  cases ev C e a with
  | p d => cases d <;> rfl
  | _ => rfl
theorem y_conv_eq (s d : Nat) (a : Operand) {sa : Sel} (hsa : ∀ k, sa x k = k (ev C e a)) : y_conv C s d sa call x H k = none ∨ y_conv C s d sa call x H k = ob (fop C e H (.convert s d a)).get k := by
  unfold y_conv
  simp only [fop]
  cases hs : tyOf C s with
  | none => exact .inl rfl
  | some i =>
    simp only [intK]
    cases hk : (C.ty d).kind with
    | int kk =>
      show y_convI C s d kk sa call x H k = _ ∨ y_convI C s d kk sa call x H k = _
      unfold y_convI
      simp only [hsa]
      rcases zasInt_cases (ev C e a) (fun _ x => zwI kk x fun v => k v H) none with ⟨kk', n, hv, h1⟩ | ⟨h1, _⟩
      · right
        rw [h1, hv]
        simp only [zwI_eq, convertOp, convertOp1, rowOwn, hk, hs]; rfl
      · left; rw [h1]
    | _ =>
      right
      show sa x _ = _
      rw [hsa, zkH_eq]
theorem y_not_eq (t : Nat) (a : Operand) {sa : Sel} (hsa : ∀ k, sa x k = k (ev C e a)) : y_not sa call x H k = ob (fop C e H (.unOp .not t a)).get k := by
  unfold y_not
  simp only [hsa, fop]
  cases ev C e a with
  | p d =>
    cases d with
    | lit w =>
      cases w with
      | bool b => cases b <;> rfl
      | _ => rfl
    | _ => rfl
  | _ => rfl
theorem y_un_eq (op : UnOp) (t : Nat) (a : Operand) {sa : Sel} (hsa : ∀ k, sa x k = k (ev C e a)) : y_un op sa call x H k = ob (fop C e H (.unOp op t a)).get k := by
  unfold y_un f_un
  simp only [hsa, fop, vdc_eq]
  generalize ev C e a = v
  split
  · rfl
  · rfl
  · rfl
  · rfl
  · rename_i h1 h2 h3 h4
    split
    · exact absurd rfl (h1 _ rfl)
    · exact absurd rfl (h2 _ _ rfl)
    · exact absurd rfl (h3 _ _ rfl)
    · exact absurd rfl (h4 _ _ rfl)
    · rfl
end
end Go.Abs
