/- The abstract interpreter as a function: for runs on values that are known. Definitions. -/
import Derived.Test.YtpmejcfbnghaeaaGreatDoorT17
namespace Go.Abs
set_option linter.unusedVariables false

def SM.get {α : Type} : SM α → Option α
  | .ret a => some a
  | .fail => none
  | .chk b m => match b with
    | true => m.get
    | false => none
  | .optD o f => match o with
    | some d => (f d).get
    | none => none
  | .optB o f => match o with
    | some d => (f d).get
    | none => none
  | .optL o f => match o with
    | some d => (f d).get
    | none => none
/-! Forms that lay values open while a run goes on -/
def ncas {α : Type} (n : Nat) (k : Nat → α) : α := match n with
  | 0 => k 0
  | m + 1 => k (m + 1)
theorem ncas_eq {α : Type} (n : Nat) (k : Nat → α) : ncas n k = k n := by cases n <;> rfl
def icas {α : Type} (n : Int) (k : Int → α) : α := match n with
  | .ofNat m => ncas m fun m => k (.ofNat m)
  | .negSucc m => ncas m fun m => k (.negSucc m)
theorem icas_eq {α : Type} (n : Int) (k : Int → α) : icas n k = k n := by cases n <;> simp [icas, ncas_eq]
def bcas {α : Type} : List UInt8 → (List UInt8 → α) → α
  | [], k => k []
  | b :: r, k => ncas b.toNat fun n => bcas r fun r => k (UInt8.ofNat n :: r)
theorem bcas_eq {α : Type} : ∀ (l : List UInt8) (k : List UInt8 → α), bcas l k = k l
  | [], _ => rfl
  | b :: r, k => by rw [bcas, ncas_eq, bcas_eq r]; simp
def scas {α : Type} (s : ByteArray) (k : ByteArray → α) : α := match s with
  | ⟨⟨l⟩⟩ => bcas l fun l => k ⟨⟨l⟩⟩
theorem scas_eq {α : Type} (s : ByteArray) (k : ByteArray → α) : scas s k = k s := by
  obtain ⟨⟨l⟩⟩ := s; simp [scas, bcas_eq]
def litcas {α : Type} (v : Value) (k : Value → α) : α := match v with
  | .int q n => icas n fun n => k (.int q n)
  | .string s => scas s fun s => k (.string s)
  | .bool b => match b with
    | true => k (.bool true)
    | false => k (.bool false)
  | v => k v
theorem litcas_eq {α : Type} (v : Value) (k : Value → α) : litcas v k = k v := by
  cases v with
  | bool b => cases b <;> rfl
  | int q n => simp [litcas, icas_eq]
  | string t => simp [litcas, scas_eq]
  | _ => rfl
def D.cas {α : Type} (d : D) (k : D → α) : α := match d with
  | .lit v => litcas v fun v => k (.lit v)
  | .agg l => spine l fun l => k (.agg l)
  | .sl xs full => spine xs fun xs => match full with
    | true => k (.sl xs true)
    | false => k (.sl xs false)
  | .tup l => spine l fun l => k (.tup l)
  | .mp ks vs => spine ks fun ks => spine vs fun vs => k (.mp ks vs)
  | d => k d
theorem D.cas_eq {α : Type} (d : D) (k : D → α) : d.cas k = k d := by
  cases d with
  | lit v => simp [D.cas, litcas_eq]
  | agg l => simp [D.cas, spine_eq]
  | sl xs full => unfold D.cas; simp only [spine_eq]; cases full <;> rfl
  | tup l => simp [D.cas, spine_eq]
  | mp ks vs => simp [D.cas, spine_eq]
  | _ => rfl
/-- A value laid open as deep as an operation makes it. -/
def V.dcas {α : Type} (v : V) (k : V → α) : α := match v with
  | .p d => d.cas fun d => k (.p d)
  | .own b ver off len s full => ncas b fun b => ncas ver fun ver => ncas off fun off => ncas len fun len => match full with
    | true => k (.own b ver off len s true)
    | false => k (.own b ver off len s false)
  | .mp b => ncas b fun b => k (.mp b)
  | .bfn f l => spine l fun l => k (.bfn f l)
  | .ptr b ver off => ncas b fun b => ncas ver fun ver => ncas off fun off => k (.ptr b ver off)
  | .vec b s xs => ncas b fun b => spine xs fun xs => k (.vec b s xs)
  | .vptr b s xs => ncas b fun b => spine xs fun xs => k (.vptr b s xs)
  | .row b ver off len s => ncas b fun b => ncas ver fun ver => ncas off fun off => ncas len fun len => k (.row b ver off len s)
  | .agg l => spine l fun l => k (.agg l)
  | .tup l => spine l fun l => k (.tup l)
  | .fn f l => spine l fun l => k (.fn f l)
  | .top => k .top
theorem V.dcas_eq {α : Type} (v : V) (k : V → α) : v.dcas k = k v := by
  unfold V.dcas; split <;> first | (simp only [ncas_eq]; split <;> rfl) | simp [ncas_eq, spine_eq, D.cas_eq]
/-- Is it told by an operation's kind alone that it leaves the blocks be? -/
def stable (C : Ctx) : Op → Bool
  | .load _ _ => true
  | .convert _ t _ => match (C.ty t).kind with
    | .str => true
    | _ => false
  | _ => false
/-- Does it make a block, and nothing more? -/
def appOp : Op → Bool
  | .box _ _ => true
  | .buildSlice _ _ _ => true
  | .makeMap _ none => true
  | .makeSlice _ _ _ => true
  | _ => false
def makes : Op → Bool
  | .alloc _ => true
  | .box _ _ => true
  | .store _ _ _ => true
  | .makeSlice _ _ _ => true
  | .buildSlice _ _ _ => true
  | .makeMap _ _ => true
  | .mapUpdate _ _ _ _ => true
  | .insert _ _ _ _ => true
  | .convert _ _ _ => true
  | .call _ => true
  | _ => false
def setE (d : Nat) (v : V) : Env → Env
  | [] => [(d, v)]
  | (i, x) :: r => match Nat.beq i d with
    | true => (d, v) :: r
    | false => (i, x) :: setE d v r
def xwr {α : Type} (nt : Nat) (dst : Option Nat) (v : V) (e : Env) (k : Env → Option α) : Option α := match dst with
  | some d => match Nat.blt d nt with
    | true => v.dcas fun v => spine (setE d v e) k
    | false => none
  | none => k e
abbrev XCall := Nat → List V → AHeap → Option (V × AHeap)
def xop (call : XCall) (C : Ctx) (o : Oper) (e : Env) (H : AHeap) : Option (V × AHeap) := match callOf o.op with
  | some (f, args) => match fnOf (ev C e f) with
    | some (g, caps) => match C.fns g with
      | true => spine (caps (args.map (ev C e))) fun l => call g l H
      | false => match (extop (C.ext g) (caps (args.map (ev C e)))).get with
        | some v => some (v, H)
        | none => none
    | none => none
  | none => (fop C e H o.op).get
def heapC {α : Type} (op : Op) (H : AHeap) (k : AHeap → α) : α := match makes op with
  | true => hcas H k
  | false => k H
theorem heapC_eq {α : Type} (op : Op) (H : AHeap) (k : AHeap → α) : heapC op H k = k H := by unfold heapC; split <;> simp [hcas_eq]
def xops (call : XCall) (C : Ctx) (nt : Nat) (all : List Oper) : List Oper → Env → AHeap → Option (Env × AHeap)
  | [], e, H => some (e, H)
  | o :: r, e, H => match wantB all o e with
    | some true => match xop call C o e H with
      | some (v, H') => heapC o.op H' fun H' => xwr nt o.dst v e fun e => xops call C nt all r e H'
      | none => none
    | some false => xwr nt o.dst (.p (.tup [])) e fun e => xops call C nt all r e H
    | none => none
/-! The blocks that values lead to -/
def idIn (sel : List Nat) (b : Nat) : Bool := match sel with
  | [] => false
  | c :: r => match Nat.beq c b with
    | true => true
    | false => idIn r b
mutual
def V.idsIn (sel : List Nat) : V → Bool
  | .p _ => true
  | .top => true
  | .vec b _ _ => idIn sel b
  | .vptr b _ _ => idIn sel b
  | .row b _ _ _ _ => idIn sel b
  | .own b _ _ _ _ _ => idIn sel b
  | .mp b => idIn sel b
  | .bfn _ l => idsIns sel l
  | .ptr b _ _ => idIn sel b
  | .agg l => idsIns sel l
  | .fn _ l => idsIns sel l
  | .tup l => idsIns sel l
def idsIns (sel : List Nat) : List V → Bool
  | [] => true
  | v :: r => match V.idsIn sel v with
    | true => idsIns sel r
    | false => false
end
def AObj.idsIn (sel : List Nat) : AObj → Bool
  | .cells _ _ cs => idsIns sel cs
  | .map ks vs => match idsIns sel ks with
    | true => idsIns sel vs
    | false => false
  | _ => true
mutual
def V.ids : V → List Nat → List Nat
  | .p _, l => l
  | .top, l => l
  | .vec b _ _, l => b :: l
  | .vptr b _ _, l => b :: l
  | .row b _ _ _ _, l => b :: l
  | .own b _ _ _ _ _, l => b :: l
  | .mp b, l => b :: l
  | .bfn _ r, l => idsOf r l
  | .ptr b _ _, l => b :: l
  | .agg r, l => idsOf r l
  | .fn _ r, l => idsOf r l
  | .tup r, l => idsOf r l
def idsOf : List V → List Nat → List Nat
  | [], l => l
  | v :: r, l => V.ids v (idsOf r l)
end
def AObj.ids : AObj → List Nat → List Nat
  | .cells _ _ cs, l => idsOf cs l
  | .map ks vs, l => idsOf ks (idsOf vs l)
  | _, l => l
def reach : Nat → AHeap → List Nat → List Nat → List Nat
  | 0, _, _, sel => sel
  | _, _, [], sel => sel
  | n + 1, H, b :: todo, sel => match idIn sel b with
    | true => reach n H todo sel
    | false => match H[b]? with
      | some o => reach n H (o.ids todo) (b :: sel)
      | none => reach n H todo sel
def inv : List Nat → Nat → Nat
  | [], _ => 0
  | c :: r, b => match Nat.beq c b with
    | true => 0
    | false => inv r b + 1
def nodupB : List Nat → Bool
  | [] => true
  | b :: r => match idIn r b with
    | true => false
    | false => nodupB r
def vspine {α : Type} : List V → (List V → α) → α
  | [], k => k []
  | v :: r, k => v.dcas fun v => vspine r fun r => k (v :: r)
theorem vspine_eq {α : Type} : ∀ (l : List V) (k : List V → α), vspine l k = k l
  | [], _ => rfl
  | v :: r, k => by rw [vspine, V.dcas_eq, vspine_eq r]
def AObj.dcas {α : Type} (o : AObj) (k : AObj → α) : α := match o with
  | .cells lz ver cs => vspine cs fun cs => k (.cells lz ver cs)
  | .map ks vs => vspine ks fun ks => vspine vs fun vs => k (.map ks vs)
  | .tok T s n => k (.tok T s n)
  | .dead ver => k (.dead ver)
theorem AObj.dcas_eq {α : Type} (o : AObj) (k : AObj → α) : o.dcas k = k o := by cases o <;> simp [AObj.dcas, vspine_eq]
def hdcas {α : Type} : AHeap → (AHeap → α) → α
  | [], k => k []
  | o :: r, k => o.dcas fun o => hdcas r fun r => k (o :: r)
theorem hdcas_eq {α : Type} : ∀ (H : AHeap) (k : AHeap → α), hdcas H k = k H
  | [], _ => rfl
  | o :: r, k => by rw [hdcas, AObj.dcas_eq, hdcas_eq r]
/-! Two ends that are alike -/
def litB : Value → Value → Bool
  | .int k n, .int k' m => decide (k = k') && decide (n = m)
  | .bool b, .bool c => b == c
  | .string s, .string t => decide (s.data.toList = t.data.toList)
  | .float a b, .float c d => decide (a = c) && decide (b = d)
  | .complex a b c, .complex d e f => decide (a = d) && decide (b = e) && decide (c = f)
  | .pointer none, .pointer none => true
  | .map none, .map none => true
  | .nilFunc, .nilFunc => true
  | .nilIface, .nilIface => true
  | _, _ => false
mutual
def dB : D → D → Bool
  | .lit v, .lit w => litB v w
  | .agg l, .agg m => dsB l m
  | .sl l f, .sl m g => match f == g with
    | true => dsB l m
    | false => false
  | .rp l, .rp m => dsB l m
  | .fn f l, .fn g m => match Nat.beq f g with
    | true => dsB l m
    | false => false
  | .ifc t d, .ifc u c => match Nat.beq t u with
    | true => dB d c
    | false => false
  | .tup l, .tup m => dsB l m
  | .mp a b, .mp c d => match dsB a c with
    | true => dsB b d
    | false => false
  | _, _ => false
def dsB : List D → List D → Bool
  | [], [] => true
  | d :: r, c :: s => match dB d c with
    | true => dsB r s
    | false => false
  | _, _ => false
end
mutual
def vB : V → V → Bool
  | .p d, .p c => dB d c
  | .top, .top => true
  | .vec b s xs, .vec c t ys => match Nat.beq b c && Nat.beq s t with
    | true => dsB xs ys
    | false => false
  | .vptr b s xs, .vptr c t ys => match Nat.beq b c && Nat.beq s t with
    | true => dsB xs ys
    | false => false
  | .row a b c d e, .row f g h i j => Nat.beq a f && Nat.beq b g && Nat.beq c h && Nat.beq d i && Nat.beq e j
  | .own a b c d e p, .own f g h i j q => Nat.beq a f && Nat.beq b g && Nat.beq c h && Nat.beq d i && Nat.beq e j && p == q
  | .ptr a b c, .ptr d e f => Nat.beq a d && Nat.beq b e && Nat.beq c f
  | .agg l, .agg m => vsB l m
  | .fn f l, .fn g m => match Nat.beq f g with
    | true => vsB l m
    | false => false
  | .tup l, .tup m => vsB l m
  | .mp b, .mp c => Nat.beq b c
  | .bfn f l, .bfn g m => match Nat.beq f g with
    | true => vsB l m
    | false => false
  | _, _ => false
def vsB : List V → List V → Bool
  | [], [] => true
  | d :: r, c :: s => match vB d c with
    | true => vsB r s
    | false => false
  | _, _ => false
end
def lzB : Lz → Lz → Bool
  | .z, .z => true
  | .t a, .t b => Nat.beq a b
  | .r a, .r b => Nat.beq a b
  | _, _ => false
def oB : AObj → AObj → Bool
  | .cells a b c, .cells d e f => match lzB a d && Nat.beq b e with
    | true => vsB c f
    | false => false
  | .tok a b c, .tok d e f => Nat.beq a d && Nat.beq b e && Nat.beq c f
  | .dead a, .dead b => Nat.beq a b
  | .map a b, .map c d => match vsB a c with
    | true => vsB b d
    | false => false
  | _, _ => false
def hB : AHeap → AHeap → Bool
  | [], [] => true
  | d :: r, c :: s => match oB d c with
    | true => hB r s
    | false => false
  | _, _ => false
/-- Which of the blocks met are as they were, which have changed; to what. -/
def chg : List Nat → AHeap → AHeap → List Nat × List Nat
  | b :: F, o :: O, n :: N => match chg F O N with
    | (R, W) => match oB o n with
      | true => (b :: R, W)
      | false => (R, b :: W)
  | _, _, _ => ([], [])
def chgN : AHeap → AHeap → AHeap
  | o :: O, n :: N => match oB o n with
    | true => chgN O N
    | false => n :: chgN O N
  | _, _ => []
/-- A call over the blocks alone that its arguments lead to. -/
def xlent (call : XCall) (g : Nat) (args : List V) (H : AHeap) : Option (Md × V × AHeap) :=
  spine (reach 2000 H (idsOf args []) []) fun sel => match picks H sel with
    | some O => match nodupB sel && idsIns sel args && O.all (AObj.idsIn sel) with
      | true => vspine (rens (inv sel) args) fun l => hdcas (O.map (AObj.ren (inv sel))) fun O0 => match call g l O0 with
        | some (r, H1) => match Nat.ble sel.length H1.length with
          | true => hdcas (H1.map (AObj.ren (place sel H.length))) fun H2 => match chg sel O (H2.take sel.length) with
            | (R, W) => spine R fun R => spine W fun W => spine (patch sel (H2.take sel.length) H ++ H2.drop sel.length) fun K => some (.loc R W true H.length, r.ren (place sel H.length), K)
          | false => none
        | none => none
      | false => none
    | none => none
def allP : List V → Bool
  | [] => true
  | .p _ :: r => allP r
  | _ => false
/-- How an operation is taken, what it gives. -/
def xmode (call : XCall) (C : Ctx) (loose : Bool) (slot : Nat) (o : Oper) (e : Env) (H : AHeap) : Option (Md × V × AHeap) := match loose with
  | false => match xop call C o e H with
    | some (v, H') => some (.old 2, v, H')
    | none => none
  | true => match callOf o.op with
    | some (f, args) => match fnOf (ev C e f) with
      | some (g, caps) => match C.fns g with
        | true => match toDs (caps (args.map (ev C e))) with
          | some ds => match call g (ds.map .p) [] with
            | some (r, K) => match r.toD with
              | some d => some (.old 0, .p d, H)
              | none => match allP (caps (args.map (ev C e))) with
                | true => hdcas (H ++ K.map (AObj.ren (place [] H.length))) fun K => some (.loc [] [] true H.length, r.ren (place [] H.length), K)
                | false => xlent call g (caps (args.map (ev C e))) H
            | none => none
          | none => xlent call g (caps (args.map (ev C e))) H
        | false => match (extop (C.ext g) (caps (args.map (ev C e)))).get with
          | some v => some (.old 0, v, H)
          | none => none
      | none => none
    | none => match (fop C e [] o.op).get with
      | some (v, []) => some (.old 0, v, H)
      | _ => match o.op with
        | .alloc t => match tyOf C t, H[slot]? with
          | some i, some (.dead 0) => some (.loc [] [slot] false 0, .ptr slot 1 0, H.set slot (.cells (.t t) 1 (i.zero.map .p)))
          | _, _ => none
        | .load t x => match ev C e x with
          | .ptr b ver off => match loadAt C H t (.ptr b ver off) with
            | some v => some (.loc [b] [] false 0, v, H)
            | none => none
          | _ => none
        | .store t x y => match ev C e x with
          | .ptr b ver off => match (fop C e H (.store t x y)).get with
            | some (v, H') => some (.loc [] [b] false 0, v, H')
            | none => none
          | _ => none
        | op => match (fop C e H op).get with
          | some (v, H') => match stable C op with
            | true => some (.old 1, v, H)
            | false => match appOp op with
              | true => some (.loc [] [] true H.length, v, H')
              | false => some (.old 2, v, H')
          | none => none
def isAlloc : Op → Bool
  | .alloc _ => true
  | _ => false
def xdops (call : XCall) (C : Ctx) (nt : Nat) (all : List Oper) : Nat → List Bool → List Oper → Env → AHeap → Option (List Md × Env × AHeap)
  | _, _, [], e, H => some ([], e, H)
  | slot, ls, o :: r, e, H => match wantB all o e with
    | some true => match xmode call C (ls.headD true) slot o e H with
      | some (m, v, H') => heapC o.op H' fun H' => xwr nt o.dst v e fun e => match xdops call C nt all (match isAlloc o.op with
          | true => slot + 1
          | false => slot) ls.tail r e H' with
        | some (ms, e, H) => some (m :: ms, e, H)
        | none => none
      | none => none
    | some false => xwr nt o.dst (.p (.tup [])) e fun e => match xdops call C nt all slot ls.tail r e H with
      | some (ms, e, H) => some (.old 0 :: ms, e, H)
      | none => none
    | none => none
def looses (ops : List Oper) : List Bool :=
  let ms := masks [] ops
  (List.range ops.length).map fun i => (List.range ops.length).any fun j => !(Nat.beq i j || (ms.getD i 0).testBit j || (ms.getD j 0).testBit i)
abbrev XRes := Option (AExit × Env × AHeap)
def xloop (body : Env → AHeap → XRes) : Nat → Env → AHeap → XRes
  | 0, _, _ => none
  | n + 1, e, H => match body e H with
    | some (.normal, e', H') => xloop body n e' H'
    | r => r
def xscope (run : Code → Env → AHeap → XRes) (whole : Code) : Nat → Code → Env → AHeap → XRes
  | 0, _, _, _ => none
  | n + 1, c, e, H => match run c e H with
    | some (.goto l, e', H') => match findLabel whole l with
      | some rest => xscope run whole n rest e' H'
      | none => some (.goto l, e', H')
    | r => r
/-- Does nothing of the first n blocks, nor a value, lead to the others? -/
def closedB (n : Nat) : Nat → AHeap → Bool
  | 0, _ => true
  | _, [] => true
  | k + 1, o :: r => match o with
    | .cells _ _ cs => match idsLts n cs with
      | true => closedB n k r
      | false => false
    | .map ks vs => match (AObj.map ks vs).idsLt n with
      | true => closedB n k r
      | false => false
    | _ => closedB n k r
/-- What both tell. -/
def meetE (f : Env) : Env → Env
  | [] => []
  | (i, v) :: r => match vB v (lk f i) with
    | true => (i, v) :: meetE f r
    | false => (i, .top) :: meetE f r
def xtrim (n : Nat) (v : V) (H : AHeap) : V × AHeap := match Nat.ble H.length n with
  | true => (v, H)
  | false => match v.idsLt n with
    | true => match closedB n n H with
      | true => (v, H.take n)
      | false => (v, H)
    | false => (v, H)
def xcallW (run : Nat → Code → Env → AHeap → XRes) (L : XCall) (C : Ctx) (f : Nat) (args : List V) (H : AHeap) : Option (V × AHeap) := match L f args H with
  | some r => some r
  | none => match C.P.funcs[f]? with
  | some fn => match fn.body with
    | some c => match Nat.ble args.length fn.ntmps with
      | true => match spine (enum 0 args) fun e => run fn.ntmps c e H with
        | some (x, e, H') => match x with
          | .exit _ => none
          | .goto _ => none
          | _ => match resOf C e H' fn.results.toList with
            | some l => some (xtrim H.length (retV l) H')
            | none => none
        | none => none
      | false => none
    | none => none
  | none => none
def slotsOf (ops : List Oper) : Nat := (ops.filter fun o => isAlloc o.op).length
def tossAt (C : Ctx) (nt : Nat) : Code → Option (Nat × Nat)
  | .region _ ops true => tossOf C nt ops.toList
  | _ => none
/-- Both ways from a toss, to one end; the second may make one block more ahead of the others, which none uses. -/
def xboth (t f : Env → AHeap → XRes) (a0 d : Nat) (e : Env) (H : AHeap) : XRes :=
  spine (setE a0 .top e) fun e => hcas (H ++ [.dead 0]) fun H => match spine (setE d (.p (.lit (.bool false))) e) fun e => f e H with
    | some (.normal, e2, H2) => match spine (setE d (.p (.lit (.bool true))) e) fun e => t e H with
      | some (.normal, e1, H1) => match hB H1 H2 with
        | true => spine (meetE e2 e1) fun e => some (.normal, e, H1)
        | false => match H2[H.length]? with
          | some (.cells _ 0 _) => match spine (setE d (.p (.lit (.bool true))) e) fun e => hcas (H ++ [.dead 0]) fun H => t e H with
            | some (.normal, e1, H1) => match hB H1 (H2.set H.length (.dead 0)) with
              | true => spine (meetE e2 e1) fun e => some (.normal, e, H1)
              | false => none
            | _ => none
          | _ => none
      | _ => none
    | _ => none
/-- A region whose last operation asks whether a slice is nil. -/
def nilTest (nt : Nat) : Code → Option (List Oper × List Oper × Oper × Nat)
  | .region _ ops false => match ops.toList.reverse with
    | o :: r => match o with
      | ⟨some d, .binOp .eql _ _ (.const (.slice none 0 0)) _, _, _, _, none⟩ => match Nat.blt d nt with
        | true => some (ops.toList, r.reverse, o, d)
        | false => none
      | ⟨some d, .binOp .neq _ _ (.const (.slice none 0 0)) _, _, _, _, none⟩ => match Nat.blt d nt with
        | true => some (ops.toList, r.reverse, o, d)
        | false => none
      | _ => none
    | [] => none
  | _ => none
def exitB : AExit → AExit → Bool
  | .normal, .normal => true
  | .ret, .ret => true
  | _, _ => false
/-- Two roads to one end. -/
def xroads (run : Env → AHeap → XRes) (d : Nat) (e : Env) (H : AHeap) : XRes := match spine (setE d (.p (.lit (.bool true))) e) fun e => run e H with
  | some (x1, e1, H1) => match spine (setE d (.p (.lit (.bool false))) e) fun e => run e H with
    | some (x2, e2, H2) => match exitB x1 x2 && hB H1 H2 with
      | true => spine (meetE e2 e1) fun e => some (x1, e, H1)
      | false => none
    | none => none
  | none => none
def xcode (C : Ctx) (L : XCall) : Nat → Nat → Code → Env → AHeap → XRes
  | 0, _, _, _, _ => none
  | n + 1, nt, c, e, H => match c with
    | .skip => some (.normal, e, H)
    | .region id ops draw => match draw with
      | false => match xops (xcallW (xcode C L n) L C) C nt ops.toList ops.toList e H with
        | some (e', H') => some (.normal, e', H')
        | none => none
      | true => match xdops (xcallW (xcode C L n) L C) C nt ops.toList H.length (looses ops.toList) ops.toList e (H ++ List.replicate (slotsOf ops.toList) (.dead 0)) with
        | some (ms, e', H') => match drawOk (fun i => ms.getD i (.old 2)) ops.toList with
          | true => some (.normal, e', H')
          | false => none
        | none => none
    | .seq a b => match tossAt C nt a with
      | some (a0, d) => match b with
        | .cond (.tmp c) t f => match Nat.beq c d with
          | true => xboth (xcode C L n nt t) (xcode C L n nt f) a0 d e H
          | false => none
        | .seq (.cond (.tmp c) t f) r => match Nat.beq c d with
          | true => match xboth (xcode C L n nt t) (xcode C L n nt f) a0 d e H with
            | some (.normal, e', H') => xcode C L n nt r e' H'
            | _ => none
          | false => none
        | _ => none
      | none => match nilTest nt a with
        | some (all, pre, o, d) => match xops (xcallW (xcode C L n) L C) C nt all pre e H with
          | some (e1, H1) => match asksNil C e1 o.op with
            | true => xroads (fun e H => xcode C L n nt b e H) d e1 H1
            | false => match xops (xcallW (xcode C L n) L C) C nt all [o] e1 H1 with
              | some (e', H') => xcode C L n nt b e' H'
              | none => none
          | none => none
        | none => match xcode C L n nt a e H with
          | some (.normal, e', H') => xcode C L n nt b e' H'
          | r => r
    | .cond c t f => match ev C e c with
      | .p (.lit (.bool b)) => match b with
        | true => xcode C L n nt t e H
        | false => xcode C L n nt f e H
      | _ => none
    | .block id c => match xcode C L n nt c e H with
      | some (.exit i, e', H') => match Nat.beq i id with
        | true => some (.normal, e', H')
        | false => some (.exit i, e', H')
      | r => r
    | .loop c => xloop (fun e H => xcode C L n nt c e H) n e H
    | .exit id => some (.exit id, e, H)
    | .label _ => some (.normal, e, H)
    | .goto l => some (.goto l, e, H)
    | .ret => some (.ret, e, H)
    | .scope c => xscope (fun c e H => xcode C L n nt c e H) c n c e H
    | _ => none
def xcall (C : Ctx) (L : XCall) (n : Nat) : XCall := xcallW (xcode C L n) L C
def noLib : XCall := fun _ _ _ => none
end Go.Abs
