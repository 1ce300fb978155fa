/- What the abstract values and the abstract heap mean in a world of the model; how such meanings last. -/
import Derived.Test.YtpmejcfbnghaeaaGreatDoorT00
import Derived.Laws.IdiomCopy
namespace Go.Abs
set_option linter.unusedVariables false
set_option linter.unusedSectionVars false

def Scalar : Value → Bool
  | .bool _ => true
  | .int _ _ => true
  | .float _ _ => true
  | .complex _ _ _ => true
  | .string _ => true
  | .pointer none => true
  | .map none => true
  | .nilFunc => true
  | .nilIface => true
  | _ => false
def D.leaf : D → Bool
  | .agg _ => false
  | .tup _ => false
  | _ => true
def V.leaf : V → Bool
  | .p d => d.leaf
  | .agg _ => false
  | .tup _ => false
  | .top => false
  | _ => true

abbrev Cells := Nat → Nat → Prop
def CellsAt (w : World) (Fz : Cells) (b off : Nat) (vs : List Value) : Prop :=
  ∀ i v, vs[i]? = some v → Fz b (off + i) ∧ w.cell? ⟨b, off + i, none⟩ = some v
/-- A map's entries: unlike keys, unlike births, all ahead of the clock. -/
structure MapOk (es : List MapEntry) (clock : Nat) : Prop where
  keys : es.Pairwise fun a b => a.key ≠ b.key
  births : es.Pairwise fun a b => a.born ≠ b.born
  clock : ∀ e ∈ es, e.born < clock
mutual
inductive RepD (w : World) (Fz : Cells) : D → Value → Prop
  | lit {v : Value} (h : Scalar v = true) : RepD w Fz (.lit v) v
  | agg {l : List D} {vs : List Value} (hl : ∀ d ∈ l, d.leaf = true) (h : RepDs w Fz l vs) : RepD w Fz (.agg l) (.agg ⟨vs⟩)
  | sl {xs : List D} {full : Bool} {b off c s : Nat} {vs : List Value} (hc : xs.length ≤ c) (hf : full = true → c = xs.length)
      (hs : ∀ x ∈ xs, x.cells.length = s) (hl : ∀ d ∈ xs.flatMap D.cells, d.leaf = true) (hr : CellsAt w Fz b off vs) (h : RepDs w Fz (xs.flatMap D.cells) vs) :
      RepD w Fz (.sl xs full) (.slice (some ⟨b, off, none⟩) xs.length c)
  | sl0 {a : Option Addr} {c : Nat} {full : Bool} (hf : full = true → c = 0) : RepD w Fz (.sl [] full) (.slice a 0 c)
  | rp {cs : List D} {b off : Nat} {vs : List Value} (hl : ∀ d ∈ cs, d.leaf = true) (hr : CellsAt w Fz b off vs) (h : RepDs w Fz cs vs) : RepD w Fz (.rp cs) (.pointer (some ⟨b, off, none⟩))
  | fn {f : Nat} {caps : List D} {vs : List Value} (h : RepDs w Fz caps vs) : RepD w Fz (.fn f caps) (.func (.func f) #[] ⟨vs⟩)
  | ifc {t : Nat} {d : D} {v : Value} (h : RepD w Fz d v) : RepD w Fz (.ifc t d) (.iface t v)
  | tup {l : List D} {vs : List Value} (h : RepDs w Fz l vs) : RepD w Fz (.tup l) (.tuple ⟨vs⟩)
  | mp {ks vs : List D} {j clock : Nat} {es : Array MapEntry} {kv vv : List Value} (l : List MapEntry) (hf : ∀ o, Fz j o) (hh : w.heap[j]? = some (.map es clock)) (ho : MapOk es.toList clock)
      (hp : l.Perm es.toList) (ek : l.map MapEntry.key = kv) (ev : l.map MapEntry.val = vv) (hk : RepDs w Fz ks kv) (hv : RepDs w Fz vs vv) : RepD w Fz (.mp ks vs) (.map (some j))
inductive RepDs (w : World) (Fz : Cells) : List D → List Value → Prop
  | nil : RepDs w Fz [] []
  | cons {d : D} {v : Value} {l : List D} {vs : List Value} (h : RepD w Fz d v) (t : RepDs w Fz l vs) : RepDs w Fz (d :: l) (v :: vs)
end

def AObj.ver : AObj → Nat
  | .cells _ v _ => v
  | .tok _ _ n => n
  | .dead v => v
  | .map _ _ => 0
/-- A state: a world, what never changes, where the blocks lie, what they own, the abstract heap. -/
structure St where
  w : World
  Fz : Cells
  ι : Nat → Nat → Nat
  O : Nat → Cells
  H : AHeap
def St.vb (σ : St) (b : Nat) : Option Nat := (σ.H[b]?).map AObj.ver
def St.has (σ : St) (b ver : Nat) : Prop := ∃ m, σ.vb b = some m ∧ ver ≤ m
mutual
inductive RepV (σ : St) : V → Value → Prop
  | p {d : D} {v : Value} (h : RepD σ.w σ.Fz d v) : RepV σ (.p d) v
  | top {v : Value} : RepV σ .top v
  | vec {b s : Nat} {xs : List D} {c : Nat} {vs : List Value} (hid : σ.has b xs.length) (hc : xs.length ≤ c)
      (hs : ∀ x ∈ xs, x.cells.length = s) (hl : ∀ d ∈ xs.flatMap D.cells, d.leaf = true) (hr : CellsAt σ.w σ.Fz (σ.ι b xs.length) 0 vs) (h : RepDs σ.w σ.Fz (xs.flatMap D.cells) vs)
      (hb : 0 < xs.length ∧ ∃ cs T fr, σ.w.heap[σ.ι b xs.length]? = some (.cells cs T fr) ∧ cs.size = c * s) :
      RepV σ (.vec b s xs) (.slice (some ⟨σ.ι b xs.length, 0, none⟩) xs.length c)
  | vec0 {b s : Nat} {a : Option Addr} (hid : σ.has b 0) : RepV σ (.vec b s []) (.slice a 0 0)
  | vptr {b s : Nat} {xs : List D} {vs : List Value} (hid : σ.has b xs.length) (hs : ∀ x ∈ xs, x.cells.length = s) (hl : ∀ d ∈ xs.flatMap D.cells, d.leaf = true)
      (hr : CellsAt σ.w σ.Fz (σ.ι b xs.length) 0 vs) (h : RepDs σ.w σ.Fz (xs.flatMap D.cells) vs) : RepV σ (.vptr b s xs) (.pointer (some ⟨σ.ι b xs.length, 0, none⟩))
  | row {b ver off len s c : Nat} (hid : σ.has b ver) (hc : len ≤ c) (hb : ∃ cs T fr, σ.w.heap[σ.ι b ver]? = some (.cells cs T fr) ∧ off + c * s = cs.size) :
      RepV σ (.row b ver off len s) (.slice (some ⟨σ.ι b ver, off, none⟩) len c)
  | row0 {b ver off s : Nat} {a : Option Addr} (hid : σ.has b ver) (hb : ∃ cs T fr, σ.w.heap[σ.ι b ver]? = some (.cells cs T fr) ∧ cs.size = off) : RepV σ (.row b ver off 0 s) (.slice a 0 0)
  | own {b ver off len s c : Nat} {full : Bool} (hid : σ.has b ver) (hc : len ≤ c) (hf : full = true → c = len) : RepV σ (.own b ver off len s full) (.slice (some ⟨σ.ι b ver, off, none⟩) len c)
  | own0 {b ver off s c : Nat} {full : Bool} {a : Option Addr} (hid : σ.has b ver) (hf : full = true → c = 0) : RepV σ (.own b ver off 0 s full) (.slice a 0 c)
  | ptr {b ver off : Nat} (hid : σ.has b ver) : RepV σ (.ptr b ver off) (.pointer (some ⟨σ.ι b ver, off, none⟩))
  | agg {l : List V} {vs : List Value} (hl : ∀ d ∈ l, d.leaf = true) (h : RepVs σ l vs) : RepV σ (.agg l) (.agg ⟨vs⟩)
  | fn {f : Nat} {caps : List V} {vs : List Value} (h : RepVs σ caps vs) : RepV σ (.fn f caps) (.func (.func f) #[] ⟨vs⟩)
  | tup {l : List V} {vs : List Value} (h : RepVs σ l vs) : RepV σ (.tup l) (.tuple ⟨vs⟩)
  | mp {b : Nat} (hid : σ.has b 0) : RepV σ (.mp b) (.map (some (σ.ι b 0)))
  | bfn {f : Nat} {l : List V} {vs : List Value} (h : RepVs σ l vs) : RepV σ (.bfn f l) (.func (.func f) ⟨vs⟩ #[])
inductive RepVs (σ : St) : List V → List Value → Prop
  | nil : RepVs σ [] []
  | cons {d : V} {v : Value} {l : List V} {vs : List Value} (h : RepV σ d v) (t : RepVs σ l vs) : RepVs σ (d :: l) (v :: vs)
end

/-- How many cells are told of a block. -/
def LenOk (lz : Lz) (n m T : Nat) (fr : Nat × Nat) : Prop := n ≤ m ∧ (∀ T', lz = .t T' → T' = T ∧ n = m ∧ fr.1 = fr.2) ∧ ∀ T', lz = .r T' → T' = T ∧ (fr.1 = fr.2 ∨ m ≤ fr.1)
def RepO (σ : St) (b : Nat) : AObj → Prop
  | .cells lz ver cs => ∃ c T fr, σ.w.heap[σ.ι b ver]? = some (.cells c T fr) ∧ LenOk lz cs.length c.size T fr ∧ RepVs σ cs (c.toList.take cs.length) ∧
      (∀ i, i < cs.length → ¬ (fr.1 ≤ i ∧ i < fr.2)) ∧ (∀ x ∈ cs, x.leaf = true) ∧ ∀ j o, σ.O b j o ↔ j = σ.ι b ver
  | .tok T s n => (n = 0 ∧ ∀ j o, ¬ σ.O b j o) ∨
      (∃ c fr k, σ.w.heap[σ.ι b n]? = some (.cells c T fr) ∧ c.size = k * s ∧ (0 < n ∧ n ≤ k) ∧ (fr.1 = fr.2 ∨ fr.2 ≤ n * s) ∧
        ∀ j o, σ.O b j o ↔ (j = σ.ι b n ∧ n * s ≤ o))
  | .dead _ => ∀ j o, ¬ σ.O b j o
  | .map ks vs => ∃ es clock l, σ.w.heap[σ.ι b 0]? = some (.map es clock) ∧ MapOk es.toList clock ∧ List.Perm l es.toList ∧ RepVs σ ks (l.map MapEntry.key) ∧ RepVs σ vs (l.map MapEntry.val) ∧
      ∀ j o, σ.O b j o ↔ j = σ.ι b 0

structure St.ok (σ : St) : Prop where
  objs : ∀ b o, σ.H[b]? = some o → RepO σ b o
  out : ∀ b, σ.H[b]? = none → ∀ j o, ¬ σ.O b j o
  disj : ∀ b b' j o, b ≠ b' → σ.O b j o → ¬ σ.O b' j o
  fz : ∀ b j o, σ.O b j o → ¬ σ.Fz j o
  lt : ∀ b j o, σ.O b j o → j < σ.w.heap.size
  ltf : ∀ j o, σ.Fz j o → j < σ.w.heap.size
def St.owns (σ : St) (j o : Nat) : Prop := ∃ b, σ.O b j o

/-- What lasts of values: what never changes is as it was, blocks keep their sizes, the known blocks lie where they lay. -/
structure Mon (σ τ : St) : Prop where
  fz : ∀ j o, σ.Fz j o → τ.Fz j o
  cell : ∀ j o, σ.Fz j o → τ.w.cell? ⟨j, o, none⟩ = σ.w.cell? ⟨j, o, none⟩
  maps : ∀ j, (∀ o, σ.Fz j o) → τ.w.heap[j]? = σ.w.heap[j]?
  shape : ∀ (j : Nat) (c : Array Value) (T : TypeId) (fr : Nat × Nat), σ.w.heap[j]? = some (.cells c T fr) → ∃ c' fr', τ.w.heap[j]? = some (.cells c' T fr') ∧ c'.size = c.size
  ids : ∀ b m, σ.vb b = some m → ∃ m', τ.vb b = some m' ∧ m ≤ m' ∧ ∀ v, v ≤ m → τ.ι b v = σ.ι b v

/-- A step from a state to a later one. -/
structure Ext (σ τ : St) : Prop where
  size : σ.w.heap.size ≤ τ.w.heap.size
  os : τ.w.os = σ.w.os
  tape : τ.w.tape = σ.w.tape
  output : τ.w.output = σ.w.output
  cell : ∀ j o, j < σ.w.heap.size → ¬ σ.owns j o → τ.w.cell? ⟨j, o, none⟩ = σ.w.cell? ⟨j, o, none⟩
  block : ∀ j, j < σ.w.heap.size → (∀ o, ¬ σ.owns j o) → τ.w.heap[j]? = σ.w.heap[j]?
  shape : ∀ (j : Nat) (c : Array Value) (T : TypeId) (fr : Nat × Nat), σ.w.heap[j]? = some (.cells c T fr) → ∃ c' fr', τ.w.heap[j]? = some (.cells c' T fr') ∧ c'.size = c.size
  fz : ∀ j o, σ.Fz j o → τ.Fz j o
  fzn : ∀ j o, τ.Fz j o → j < σ.w.heap.size → σ.Fz j o ∨ σ.owns j o
  ownn : ∀ j o, τ.owns j o → j < σ.w.heap.size → σ.owns j o
  ids : ∀ b m, σ.vb b = some m → ∃ m', τ.vb b = some m' ∧ m ≤ m' ∧ ∀ v, v ≤ m → τ.ι b v = σ.ι b v

theorem Ext.refl (σ : St) : Ext σ σ :=
  ⟨Nat.le_refl _, rfl, rfl, rfl, fun _ _ _ _ => rfl, fun _ _ _ => rfl, fun _ c T fr h => ⟨c, fr, h, rfl⟩, fun _ _ h => h, fun _ _ h _ => .inl h, fun _ _ h _ => h, fun _ m h => ⟨m, h, Nat.le_refl _, fun _ _ => rfl⟩⟩
theorem Ext.trans {a b c : St} (h : Ext a b) (k : Ext b c) : Ext a c where
  size := Nat.le_trans h.size k.size
  os := k.os.trans h.os
  tape := k.tape.trans h.tape
  output := k.output.trans h.output
  cell j o hj hn := (k.cell j o (Nat.lt_of_lt_of_le hj h.size) (fun hb => hn (h.ownn j o hb hj))).trans (h.cell j o hj hn)
  block j hj hn := (k.block j (Nat.lt_of_lt_of_le hj h.size) (fun o hb => hn o (h.ownn j o hb hj))).trans (h.block j hj hn)
  shape j cs T fr hh := by
    obtain ⟨c', f', h1, e1⟩ := h.shape j cs T fr hh
    obtain ⟨c'', f'', h2, e2⟩ := k.shape j c' T f' h1
    exact ⟨c'', f'', h2, e2.trans e1⟩
  fz j o hf := k.fz j o (h.fz j o hf)
  fzn j o hf hj := by
    rcases k.fzn j o hf (Nat.lt_of_lt_of_le hj h.size) with h1 | h1
    · exact h.fzn j o h1 hj
    · exact .inr (h.ownn j o h1 hj)
  ownn j o ho hj := h.ownn j o (k.ownn j o ho (Nat.lt_of_lt_of_le hj h.size)) hj
  ids b m hm := by
    obtain ⟨m1, h1, l1, e1⟩ := h.ids b m hm
    obtain ⟨m2, h2, l2, e2⟩ := k.ids b m1 h1
    exact ⟨m2, h2, Nat.le_trans l1 l2, fun v hv => (e2 v (Nat.le_trans hv l1)).trans (e1 v hv)⟩
theorem Ext.mon {σ τ : St} (h : Ext σ τ) (ok : σ.ok) : Mon σ τ where
  fz := h.fz
  cell j o hf := h.cell j o (ok.ltf j o hf) (fun ⟨b, hb⟩ => ok.fz b j o hb hf)
  maps j hf := h.block j (ok.ltf j 0 (hf 0)) (fun o ⟨b, hb⟩ => ok.fz b j o hb (hf o))
  shape := h.shape
  ids := h.ids

theorem CellsAt.mon {w w' : World} {Fz Fz' : Cells} (hf : ∀ j o, Fz j o → Fz' j o) (hc : ∀ j o, Fz j o → w'.cell? ⟨j, o, none⟩ = w.cell? ⟨j, o, none⟩)
    {b off : Nat} {vs : List Value} (h : CellsAt w Fz b off vs) : CellsAt w' Fz' b off vs :=
  fun i v hi => ⟨hf _ _ (h i v hi).1, (hc _ _ (h i v hi).1).trans (h i v hi).2⟩
mutual
theorem RepD.mon {w w' : World} {Fz Fz' : Cells} (hf : ∀ j o, Fz j o → Fz' j o) (hc : ∀ j o, Fz j o → w'.cell? ⟨j, o, none⟩ = w.cell? ⟨j, o, none⟩) (hm : ∀ j, (∀ o, Fz j o) → w'.heap[j]? = w.heap[j]?) :
    ∀ {d : D} {v : Value}, RepD w Fz d v → RepD w' Fz' d v
  | _, _, .mp l h1 h2 h3 h4 h5 h6 h7 h8 => .mp l (fun o => hf _ _ (h1 o)) ((hm _ h1).trans h2) h3 h4 h5 h6 (h7.mon hf hc hm) (h8.mon hf hc hm)
  | _, _, .lit h => .lit h
  | _, _, .agg hl h => .agg hl (h.mon hf hc hm)
  | _, _, .sl a b c d e f => .sl a b c d (e.mon hf hc) (f.mon hf hc hm)
  | _, _, .sl0 h => .sl0 h
  | _, _, .rp hl a b => .rp hl (a.mon hf hc) (b.mon hf hc hm)
  | _, _, .fn h => .fn (h.mon hf hc hm)
  | _, _, .ifc h => .ifc (h.mon hf hc hm)
  | _, _, .tup h => .tup (h.mon hf hc hm)
theorem RepDs.mon {w w' : World} {Fz Fz' : Cells} (hf : ∀ j o, Fz j o → Fz' j o) (hc : ∀ j o, Fz j o → w'.cell? ⟨j, o, none⟩ = w.cell? ⟨j, o, none⟩) (hm : ∀ j, (∀ o, Fz j o) → w'.heap[j]? = w.heap[j]?) :
    ∀ {d : List D} {v : List Value}, RepDs w Fz d v → RepDs w' Fz' d v
  | _, _, .nil => .nil
  | _, _, .cons h t => .cons (h.mon hf hc hm) (t.mon hf hc hm)
end
theorem Mon.has {σ τ : St} (m : Mon σ τ) {b ver : Nat} (h : σ.has b ver) : τ.has b ver ∧ τ.ι b ver = σ.ι b ver := by
  obtain ⟨k, hk, hle⟩ := h
  obtain ⟨k', hk', hle', e⟩ := m.ids b k hk
  exact ⟨⟨k', hk', Nat.le_trans hle hle'⟩, e ver hle⟩
theorem Mon.repD {σ τ : St} (m : Mon σ τ) {d : D} {v : Value} (h : RepD σ.w σ.Fz d v) : RepD τ.w τ.Fz d v := h.mon m.fz m.cell m.maps
theorem Mon.repDs {σ τ : St} (m : Mon σ τ) {d : List D} {v : List Value} (h : RepDs σ.w σ.Fz d v) : RepDs τ.w τ.Fz d v := h.mon m.fz m.cell m.maps
mutual
theorem RepV.mon {σ τ : St} (m : Mon σ τ) : ∀ {d : V} {v : Value}, RepV σ d v → RepV τ d v
  | _, _, .p h => .p (m.repD h)
  | _, _, .top => .top
  | _, _, .vec (b := b) (xs := xs) hid hc hs hl hr h hb => by
    obtain ⟨h1, e⟩ := m.has hid
    rw [← e] at hr hb ⊢
    refine .vec h1 hc hs hl (hr.mon m.fz m.cell) (m.repDs h) ?_
    obtain ⟨hne, cs, T, fr, hh, hz⟩ := hb
    obtain ⟨c', f', h2, e2⟩ := m.shape _ _ _ _ hh
    exact ⟨hne, c', T, f', h2, e2.trans hz⟩
  | _, _, .vptr hid hs hl hr h => by
    obtain ⟨h1, e⟩ := m.has hid
    rw [← e] at hr ⊢
    exact .vptr h1 hs hl (hr.mon m.fz m.cell) (m.repDs h)
  | _, _, .row hid hc hb => by
    obtain ⟨h1, e⟩ := m.has hid
    rw [← e] at hb ⊢
    obtain ⟨cs, T, fr, hh, hz⟩ := hb
    obtain ⟨c', f', h2, e2⟩ := m.shape _ _ _ _ hh
    exact .row h1 hc ⟨c', T, f', h2, by rw [e2]; exact hz⟩
  | _, _, .row0 hid hb => by
    obtain ⟨h1, e⟩ := m.has hid
    rw [← e] at hb
    obtain ⟨cs, T, fr, hh, hz⟩ := hb
    obtain ⟨c', f', h2, e2⟩ := m.shape _ _ _ _ hh
    exact .row0 h1 ⟨c', T, f', h2, by rw [e2]; exact hz⟩
  | _, _, .vec0 hid => .vec0 (m.has hid).1
  | _, _, .own hid hc hf => by
    obtain ⟨h1, e⟩ := m.has hid
    rw [← e]
    exact .own h1 hc hf
  | _, _, .own0 hid hf => .own0 (m.has hid).1 hf
  | _, _, .mp hid => by
    obtain ⟨h1, e⟩ := m.has hid
    rw [← e]
    exact .mp h1
  | _, _, .ptr hid => by
    obtain ⟨h1, e⟩ := m.has hid
    rw [← e]
    exact .ptr h1
  | _, _, .agg hl h => .agg hl (h.mon m)
  | _, _, .fn h => .fn (h.mon m)
  | _, _, .bfn h => .bfn (h.mon m)
  | _, _, .tup h => .tup (h.mon m)
theorem RepVs.mon {σ τ : St} (m : Mon σ τ) : ∀ {d : List V} {v : List Value}, RepVs σ d v → RepVs τ d v
  | _, _, .nil => .nil
  | _, _, .cons h t => .cons (h.mon m) (t.mon m)
end

/-! Lists of meanings -/
theorem RepDs.length {w : World} {Fz : Cells} : ∀ {l : List D} {vs : List Value}, RepDs w Fz l vs → vs.length = l.length
  | _, _, .nil => rfl
  | _, _, .cons _ t => by simp [t.length]
theorem RepVs.length {σ : St} : ∀ {l : List V} {vs : List Value}, RepVs σ l vs → vs.length = l.length
  | _, _, .nil => rfl
  | _, _, .cons _ t => by simp [t.length]
theorem RepDs.at {w : World} {Fz : Cells} : ∀ {l : List D} {vs : List Value}, RepDs w Fz l vs → ∀ {i : Nat} {d : D}, l[i]? = some d → ∃ v, vs[i]? = some v ∧ RepD w Fz d v
  | _, _, .nil, i, d, h => by simp at h
  | _, _, .cons h t, 0, d, e => by simp at e; subst e; exact ⟨_, by simp, h⟩
  | _, _, .cons h t, i + 1, d, e => by
    simp at e
    obtain ⟨v, hv, hr⟩ := t.at e
    exact ⟨v, by simpa using hv, hr⟩
theorem RepVs.at {σ : St} : ∀ {l : List V} {vs : List Value}, RepVs σ l vs → ∀ {i : Nat} {d : V}, l[i]? = some d → ∃ v, vs[i]? = some v ∧ RepV σ d v
  | _, _, .nil, i, d, h => by simp at h
  | _, _, .cons h t, 0, d, e => by simp at e; subst e; exact ⟨_, by simp, h⟩
  | _, _, .cons h t, i + 1, d, e => by
    simp at e
    obtain ⟨v, hv, hr⟩ := t.at e
    exact ⟨v, by simpa using hv, hr⟩
theorem RepDs.take {w : World} {Fz : Cells} : ∀ {l : List D} {vs : List Value}, RepDs w Fz l vs → ∀ n, RepDs w Fz (l.take n) (vs.take n)
  | _, _, .nil, n => by simpa using .nil
  | _, _, .cons h t, 0 => by simpa using .nil
  | _, _, .cons h t, n + 1 => by simpa using .cons h (t.take n)
theorem RepDs.drop {w : World} {Fz : Cells} : ∀ {l : List D} {vs : List Value}, RepDs w Fz l vs → ∀ n, RepDs w Fz (l.drop n) (vs.drop n)
  | _, _, .nil, n => by simpa using .nil
  | _, _, .cons h t, 0 => by simpa using .cons h t
  | _, _, .cons h t, n + 1 => by simpa using t.drop n
theorem RepVs.take {σ : St} : ∀ {l : List V} {vs : List Value}, RepVs σ l vs → ∀ n, RepVs σ (l.take n) (vs.take n)
  | _, _, .nil, n => by simpa using .nil
  | _, _, .cons h t, 0 => by simpa using .nil
  | _, _, .cons h t, n + 1 => by simpa using .cons h (t.take n)
theorem RepVs.drop {σ : St} : ∀ {l : List V} {vs : List Value}, RepVs σ l vs → ∀ n, RepVs σ (l.drop n) (vs.drop n)
  | _, _, .nil, n => by simpa using .nil
  | _, _, .cons h t, 0 => by simpa using .cons h t
  | _, _, .cons h t, n + 1 => by simpa using t.drop n
theorem RepDs.append {w : World} {Fz : Cells} : ∀ {l : List D} {vs : List Value}, RepDs w Fz l vs → ∀ {l' : List D} {vs' : List Value}, RepDs w Fz l' vs' → RepDs w Fz (l ++ l') (vs ++ vs')
  | _, _, .nil, _, _, h => h
  | _, _, .cons h t, _, _, h' => .cons h (t.append h')
theorem RepVs.append {σ : St} : ∀ {l : List V} {vs : List Value}, RepVs σ l vs → ∀ {l' : List V} {vs' : List Value}, RepVs σ l' vs' → RepVs σ (l ++ l') (vs ++ vs')
  | _, _, .nil, _, _, h => h
  | _, _, .cons h t, _, _, h' => .cons h (t.append h')
theorem RepVs.set {σ : St} : ∀ {l : List V} {vs : List Value}, RepVs σ l vs → ∀ {i : Nat} {d : V} {v : Value}, RepV σ d v → RepVs σ (l.set i d) (vs.set i v)
  | _, _, .nil, i, d, v, h => by simpa using .nil
  | _, _, .cons h t, 0, d, v, h' => by simpa using .cons h' t
  | _, _, .cons h t, i + 1, d, v, h' => by simpa using .cons h (t.set h')
theorem RepVs.erase {σ : St} : ∀ {l : List V} {vs : List Value}, RepVs σ l vs → ∀ {i : Nat}, RepVs σ (l.eraseIdx i) (vs.eraseIdx i)
  | _, _, .nil, i => by simpa using .nil
  | _, _, .cons h t, 0 => by simpa using t
  | _, _, .cons h t, i + 1 => by simpa using .cons h t.erase
theorem RepDs.toV {σ : St} : ∀ {l : List D} {vs : List Value}, RepDs σ.w σ.Fz l vs → RepVs σ (l.map .p) vs
  | _, _, .nil => .nil
  | _, _, .cons h t => .cons (.p h) t.toV
theorem RepVs.toDs' {σ : St} : ∀ {l : List D} {vs : List Value}, RepVs σ (l.map .p) vs → RepDs σ.w σ.Fz l vs
  | [], _, .nil => .nil
  | d :: l, _, .cons (.p h) t => .cons h t.toDs'
mutual
theorem RepV.toD {σ : St} : ∀ {v : V} {x : Value} {d : D}, RepV σ v x → v.toD = some d → RepD σ.w σ.Fz d x
  | _, _, _, .p h, e => by simp [V.toD] at e; subst e; exact h
  | _, _, _, .top, e => by simp [V.toD] at e
  | _, _, _, .vec hid hc hs hl hr h hb, e => by simp [V.toD] at e; subst e; exact .sl hc (by simp) hs hl hr h
  | _, _, _, .vec0 hid, e => by simp [V.toD] at e; subst e; exact .sl0 (by simp)
  | _, _, _, .vptr _ _ _ _ _, e => by simp [V.toD] at e
  | _, _, _, .row _ _ _, e => by simp [V.toD] at e
  | _, _, _, .row0 _ _, e => by simp [V.toD] at e
  | _, _, _, .own _ _ _, e => by simp [V.toD] at e
  | _, _, _, .own0 _ _, e => by simp [V.toD] at e
  | _, _, _, .mp _, e => by simp [V.toD] at e
  | _, _, _, .bfn _, e => by simp [V.toD] at e
  | _, _, _, .ptr _, e => by simp [V.toD] at e
  | _, _, _, .agg (l := l) hl h, e => by
    simp only [V.toD] at e
    cases hd : toDs l with
    | none => simp [hd] at e
    | some ds => simp [hd] at e; subst e; exact .agg (h.toDs_leaf hl hd) (h.toDs hd)
  | _, _, _, .fn (caps := l) h, e => by
    simp only [V.toD] at e
    cases hd : Go.Abs.toDs l with
    | none => simp [hd] at e
    | some ds => simp [hd] at e; subst e; exact .fn (h.toDs hd)
  | _, _, _, .tup (l := l) h, e => by
    simp only [V.toD] at e
    cases hd : Go.Abs.toDs l with
    | none => simp [hd] at e
    | some ds => simp [hd] at e; subst e; exact .tup (h.toDs hd)
theorem RepVs.toDs {σ : St} : ∀ {v : List V} {x : List Value} {d : List D}, RepVs σ v x → Go.Abs.toDs v = some d → RepDs σ.w σ.Fz d x
  | _, _, _, .nil, e => by simp [Go.Abs.toDs] at e; subst e; exact .nil
  | _, _, _, .cons (d := v) (l := r) h t, e => by
    simp only [Go.Abs.toDs] at e
    cases hd : v.toD with
    | none => simp [hd] at e
    | some d =>
      cases hr : Go.Abs.toDs r with
      | none => simp [hd, hr] at e
      | some ds => simp [hd, hr] at e; subst e; exact .cons (h.toD hd) (t.toDs hr)
theorem RepVs.toDs_leaf {σ : St} : ∀ {v : List V} {x : List Value} {d : List D}, RepVs σ v x → (∀ y ∈ v, y.leaf = true) → Go.Abs.toDs v = some d → ∀ y ∈ d, y.leaf = true
  | _, _, _, .nil, hl, e => by simp [Go.Abs.toDs] at e; subst e; simp
  | _, _, _, .cons (d := v) (l := r) h t, hl, e => by
    simp only [Go.Abs.toDs] at e
    cases hd : v.toD with
    | none => simp [hd] at e
    | some d =>
      cases hr : Go.Abs.toDs r with
      | none => simp [hd, hr] at e
      | some ds =>
        simp [hd, hr] at e; subst e
        intro y hy
        rcases List.mem_cons.1 hy with rfl | hy
        · have hv := hl v (by simp)
          cases v with
          | p d' => simp [V.toD] at hd; subst hd; exact hv
          | vec _ _ _ => simp [V.toD] at hd; subst hd; rfl
          | fn f l => simp only [V.toD] at hd; cases hq : Go.Abs.toDs l with
            | none => simp [hq] at hd
            | some _ => simp [hq] at hd; subst hd; rfl
          | top => simp [V.toD] at hd
          | own _ _ _ _ _ _ => simp [V.toD] at hd
          | mp _ => simp [V.toD] at hd
          | bfn _ _ => simp [V.toD] at hd
          | vptr _ _ _ => simp [V.toD] at hd
          | row _ _ _ _ _ => simp [V.toD] at hd
          | ptr _ _ _ => simp [V.toD] at hd
          | agg _ => simp [V.leaf] at hv
          | tup _ => simp [V.leaf] at hv
        · exact t.toDs_leaf (fun y hy => hl y (by simp [hy])) hr y hy
end
end Go.Abs
/- The abstract interpreter: contracts of functions on abstract values, ghost steps, code. -/
namespace Go.Abs
set_option linter.unusedVariables false

def GOk (C : Ctx) (σ : St) : Prop := ∀ g cs, C.glob g = some cs → RepD σ.w σ.Fz (.rp cs) (.pointer (some ⟨g, 0, none⟩))
/-- The contract of a call: wherever its arguments mean values, it returns, and what it returns means one of Q. -/
def ACalls (C : Ctx) (f : Nat) (args : List V) (H : AHeap) (Q : V → AHeap → Prop) : Prop :=
  ∀ (σ : St) (vals : List Value), σ.H = H → σ.ok → GOk C σ → RepVs σ args vals →
    Calls C.P f ⟨vals⟩ σ.w (fun e w' => ∃ v r τ, e = .returned v ∧ τ.w = w' ∧ Q r τ.H ∧ RepV τ r v ∧ τ.ok ∧ Ext σ τ)

mutual
def V.ren (ρ : Nat → Nat) : V → V
  | .p d => .p d
  | .top => .top
  | .vec b s xs => .vec (ρ b) s xs
  | .vptr b s xs => .vptr (ρ b) s xs
  | .row b ver off len s => .row (ρ b) ver off len s
  | .own b ver off len s full => .own (ρ b) ver off len s full
  | .ptr b ver off => .ptr (ρ b) ver off
  | .agg l => .agg (rens ρ l)
  | .fn f l => .fn f (rens ρ l)
  | .tup l => .tup (rens ρ l)
  | .mp b => .mp (ρ b)
  | .bfn f l => .bfn f (rens ρ l)
def rens (ρ : Nat → Nat) : List V → List V
  | [] => []
  | v :: r => V.ren ρ v :: rens ρ r
end
def AObj.ren (ρ : Nat → Nat) : AObj → AObj
  | .cells lz v cs => .cells lz v (rens ρ cs)
  | .tok T s n => .tok T s n
  | .dead v => .dead v
  | .map ks vs => .map (rens ρ ks) (rens ρ vs)
/-- Where a callee's block k lies in the caller's heap of n blocks. -/
def place (sel : List Nat) (n : Nat) (k : Nat) : Nat := match sel[k]? with
  | some b => b
  | none => n + (k - sel.length)
/-- The caller's heap behind the call. -/
def merge (ρ : Nat → Nat) : List Nat → AHeap → AHeap → AHeap
  | [], H, H1 => H ++ H1.map (AObj.ren ρ)
  | b :: sel, H, o :: H1 => merge ρ sel (H.set b (o.ren ρ)) H1
  | _ :: _, H, [] => H
def picks (H : AHeap) : List Nat → Option AHeap
  | [] => some []
  | b :: r => match H[b]? with
    | some o => match picks H r with
      | some l => some (o :: l)
      | none => none
    | none => none

/-! Blocks that are to change no more: what leads to them becomes data. -/
def chunk (s : Nat) : Nat → List D → List D
  | 0, _ => []
  | n + 1, l => (match s with
    | 1 => l.headD (.lit undef)
    | _ => .agg (l.take s)) :: chunk s n (l.drop s)
abbrev Frz := AHeap → V → Option (D × AHeap)
def frzs (f : Frz) : AHeap → List V → Option (List D × AHeap)
  | H, [] => some ([], H)
  | H, v :: r => match f H v with
    | some (d, H') => match frzs f H' r with
      | some (ds, H'') => some (d :: ds, H'')
      | none => none
    | none => none
def frzB (f : Frz) (H : AHeap) (b ver : Nat) : Option (List D × AHeap) := match objCells H[b]? ver with
  | some (_, cs) => match frzs f H cs with
    | some (ds, H') => match objCells H'[b]? ver with
      | some _ => some (ds, H'.set b (.dead ver))
      | none => none
    | none => none
  | none => none
def frzSl (f : Frz) (H : AHeap) (b ver off len s : Nat) (full : Bool) : Option (D × AHeap) := match len with
  | 0 => some (.sl [] full, H)
  | len + 1 => match frzB f H b ver with
    | some (ds, H') => match Nat.ble (off + (len + 1) * s) ds.length with
      | true => some (.sl (chunk s (len + 1) (ds.drop off)) full, H')
      | false => none
    | none => none
def frz : Nat → AHeap → V → Option (D × AHeap)
  | 0, _, _ => none
  | n + 1, H, v => match v with
    | .p d => some (d, H)
    | .vec _ _ xs => some (.sl xs false, H)
    | .own b ver off len s full => frzSl (frz n) H b ver off len s full
    | .row b ver off len s => frzSl (frz n) H b ver off len s false
    | .ptr b ver off => match frzB (frz n) H b ver with
      | some (ds, H') => some (.rp (ds.drop off), H')
      | none => none
    | .agg l => match frzs (frz n) H l with
      | some (ds, H') => some (.agg ds, H')
      | none => none
    | .fn f l => match frzs (frz n) H l with
      | some (ds, H') => some (.fn f ds, H')
      | none => none
    | .tup l => match frzs (frz n) H l with
      | some (ds, H') => some (.tup ds, H')
      | none => none
    | .mp b => match H[b]? with
      | some (.map ks vs) => match frzs (frz n) H ks with
        | some (dk, H1) => match frzs (frz n) H1 vs with
          | some (dv, H2) => match H2[b]? with
            | some (.map _ _) => some (.mp dk dv, H2.set b (.dead 0))
            | _ => none
          | none => none
        | none => none
      | _ => none
    | .top => none
    | .vptr _ _ _ => none
    | .bfn _ _ => none
def frzA (H : AHeap) (l : List V) : Option (List D × AHeap) := frzs (frz 40) H l
def isLit : D → Bool
  | .lit _ => true
  | _ => false
/-- Does a value lead to no memory? -/
def noRef : D → Bool
  | .lit _ => true
  | .agg l => l.all isLit
  | .tup l => l.all isLit
  | _ => false

/-- A call of a function: of data; over a look at the call's own blocks; over some of them. -/
def acall (C : Ctx) (f : Nat) (args : List V) (H : AHeap) (k : V → AHeap → Prop) : Prop :=
  (∃ ds, toDs args = some ds ∧ ACalls C f (ds.map .p) [] fun r _ => ∃ d, r.toD = some d ∧ k (.p d) H) ∨
  (∃ ds K, frzA H args = some (ds, K) ∧ ACalls C f (ds.map .p) [] fun r _ => ∃ d, r.toD = some d ∧ noRef d = true ∧ k (.p d) H) ∨
  (∃ sel args0 H0, sel.Nodup ∧ (∀ b ∈ sel, b < H.length) ∧ picks H sel = some (H0.map (AObj.ren (place sel H.length))) ∧ args = rens (place sel H.length) args0 ∧
    ACalls C f args0 H0 fun r H1 => k (r.ren (place sel H.length)) (merge (place sel H.length) sel H H1))

inductive AExit where
  | normal | exit (id : Nat) | goto (l : Nat) | ret
abbrev Post := AExit → Env → AHeap → Prop

/-! Ghost steps -/
mutual
def V.idsLt (n : Nat) : V → Bool
  | .p _ => true
  | .top => true
  | .vec b _ _ => Nat.blt b n
  | .vptr b _ _ => Nat.blt b n
  | .row b _ _ _ _ => Nat.blt b n
  | .own b _ _ _ _ _ => Nat.blt b n
  | .mp b => Nat.blt b n
  | .bfn _ l => idsLts n l
  | .ptr b _ _ => Nat.blt b n
  | .agg l => idsLts n l
  | .fn _ l => idsLts n l
  | .tup l => idsLts n l
def idsLts (n : Nat) : List V → Bool
  | [] => true
  | v :: r => match V.idsLt n v with
    | true => idsLts n r
    | false => false
end
/-- Does a block lead to the first n blocks alone? -/
def AObj.idsLt (n : Nat) : AObj → Bool
  | .cells _ _ cs => idsLts n cs
  | .map ks vs => match idsLts n ks with
    | true => idsLts n vs
    | false => false
  | _ => true
def envLt (n : Nat) : Env → Bool
  | [] => true
  | (_, v) :: r => match v.idsLt n with
    | true => envLt n r
    | false => false
inductive Gh where
  | keep (l : List Nat)
  | prom (slot T s : Nat)
  | promc (slot cell T s : Nat)
  | trim (n : Nat)
  | frz (slot : Nat)
def keepE (e : Env) : List Nat → Env
  | [] => []
  | i :: r => (lk e i).cas fun v => match keepE e r with
    | e' => (i, v) :: e'
/-- Only what leads to the first n blocks: then the others go. -/
def trimK (n : Nat) : AHeap → Prop → Prop
  | [], k => k
  | o :: r, k => match o with
    | .cells .z _ cs => idsLts n cs = true ∧ trimK n r k
    | .cells (.t _) _ cs => match idsLts n cs with
      | true => trimK n r k
      | false => False
    | .cells (.r _) _ cs => match idsLts n cs with
      | true => trimK n r k
      | false => False
    | .map ks vs => match (AObj.map ks vs).idsLt n with
      | true => trimK n r k
      | false => False
    | _ => trimK n r k
def gh (n0 : Nat) (g : Gh) (k : Env → AHeap → Prop) (e : Env) (H : AHeap) : Prop := match g with
  | .keep l => spine (keepE e l) fun e => k e H
  | .prom slot T s => match lk e slot with
    | .p (.sl [] true) => k ((slot, .vec H.length s []) :: e) (H ++ [.tok T s 0])
    | .vec _ _ _ => k e H
    | _ => False
  | .promc slot cell T s => match lk e slot with
    | .ptr b ver off => match objCells H[b]? ver with
      | some (lz, cs) => match cs[off + cell]? with
        | some (.p (.sl [] true)) => k e (H.set b (.cells lz ver (cs.set (off + cell) (.vec H.length s []))) ++ [.tok T s 0])
        | some (.vec _ _ _) => k e H
        | _ => False
      | none => False
    | _ => False
  | .trim n => match Nat.ble n0 n with
    | true => match envLt n e with
      | true => trimK n (H.take n) (k e (H.take n))
      | false => False
    | false => False
  | .frz slot => match Go.Abs.frz 40 H (lk e slot) with
    | some (d, H') => k ((slot, .p d) :: e) H'
    | none => False
def ghs (n0 : Nat) : List Gh → (Env → AHeap → Prop) → Env → AHeap → Prop
  | [], k, e, H => k e H
  | g :: r, k, e, H => gh n0 g (fun e H => hcas H fun H => ghs n0 r k e H) e H
/-- Notes of a proof on a function's code: ghost steps ahead of regions, how operations of regions that draw are taken. -/
structure Ann where
  nt : Nat
  n0 : Nat
  gs : Nat → List Gh
  md : Nat → Nat → Nat
def Ann.none (nt n0 : Nat) : Ann := ⟨nt, n0, fun _ => [], fun _ _ => 0⟩

/-! Operations and calls -/
def evs (C : Ctx) (e : Env) (k : List V → Prop) : List Operand → Prop
  | [] => k []
  | x :: r => (ev C e x).cas fun v => evs C e (fun l => k (v :: l)) r
def calleeOf (C : Ctx) (e : Env) : Call → Option Operand
  | { callee := .value f, .. } => some f
  | _ => none
def callOf : Op → Option (Operand × List Operand)
  | .call { callee := .value f, args := args, .. } => some (f, args.toList)
  | _ => none
/-- The function that a value is, and what it has captured. -/
def fnOf : V → Option (Nat × (List V → List V))
  | .p (.fn f caps) => some (f, fun l => l ++ caps.map .p)
  | .fn f caps => some (f, fun l => l ++ caps)
  | .bfn f first => some (f, fun l => first ++ l)
  | _ => none
def wr (nt : Nat) (dst : Option Nat) (v : V) (k : Env → AHeap → Prop) (e : Env) (H : AHeap) : Prop := match dst with
  | some d => match Nat.blt d nt with
    | true => v.cas fun v => k ((d, v) :: e) H
    | false => False
  | none => k e H
/-- Is an operation done? By its guard. -/
def want (ops : List Oper) (o : Oper) (e : Env) (yes no : Prop) : Prop := match o.guard with
  | none => yes
  | some (j, b) => match ops[j]? with
    | some g => match g.dst with
      | some d => match lk e d with
        | .p (.lit (.bool b')) => match b with
          | true => condK b' yes no
          | false => condK b' no yes
        | .p (.tup []) => no
        | _ => False
      | none => False
    | none => False
/-- Is it asked whether an empty slice is nil? That is not told. -/
def emptyV : V → Bool
  | .p (.sl [] _) => true
  | .vec _ _ [] => true
  | .own _ _ _ 0 _ _ => true
  | .row _ _ _ 0 _ => true
  | _ => false
def asksNil (C : Ctx) (e : Env) : Op → Bool
  | .binOp .eql t x (.const (.slice none 0 0)) _ => match (C.ty t).kind with
    | .slice _ => emptyV (ev C e x)
    | _ => false
  | .binOp .neq t x (.const (.slice none 0 0)) _ => match (C.ty t).kind with
    | .slice _ => emptyV (ev C e x)
    | _ => false
  | _ => false
def aop (C : Ctx) (nt : Nat) (o : Oper) (k : Env → AHeap → Prop) (e : Env) (H : AHeap) : Prop := match callOf o.op with
  | some (f, args) => match fnOf (ev C e f) with
    | some (g, caps) => match C.fns g with
      | true => evs C e (fun l => spine (caps l) fun l => acall C g l H fun r H' => hcas H' fun H' => wr nt o.dst r k e H') args
      | false => evs C e (fun l => (extop (C.ext g) (caps l)).run fun v => wr nt o.dst v k e H) args
    | none => False
  | none => match asksNil C e o.op with
    | true => ∀ b : Bool, wr nt o.dst (.p (.lit (.bool b))) k e H
    | false => (fop C e H o.op).run fun r => match r with
      | (v, H') => hcas H' fun H' => wr nt o.dst v k e H'
def aops (C : Ctx) (nt : Nat) (all : List Oper) : List Oper → (Env → AHeap → Prop) → Env → AHeap → Prop
  | [], k, e, H => k e H
  | o :: r, k, e, H => want all o e (aop C nt o (aops C nt all r k) e H) (wr nt o.dst (.p (.tup [])) (aops C nt all r k) e H)

/-! Regions that draw their order. How an operation is taken: 0: from its operands alone; 1: it looks at the call's blocks; 2: it changes them. -/
def dstep (C : Ctx) (m : Nat) (o : Oper) (e : Env) (H : AHeap) (v : V) (H' : AHeap) : Prop := match callOf o.op with
  | some (f, args) => match fnOf (ev C e f) with
    | some (g, caps) => match C.fns g with
      | false => H' = H ∧ (extop (C.ext g) (caps (args.map (ev C e)))).out v
      | true => match m with
      | 0 => H' = H ∧ ∃ ds d, toDs (caps (args.map (ev C e))) = some ds ∧ v = .p d ∧ ACalls C g (ds.map .p) [] fun r _ => r.toD = some d
      | 1 => H' = H ∧ ∃ ds K d, frzA H (caps (args.map (ev C e))) = some (ds, K) ∧ v = .p d ∧ noRef d = true ∧ ACalls C g (ds.map .p) [] fun r _ => r.toD = some d
      | _ => acall C g (caps (args.map (ev C e))) H fun r H1 => r = v ∧ H1 = H'
    | none => False
  | none => match m with
    | 0 => H' = H ∧ (fop C e [] o.op).out (v, [])
    | 1 => H' = H ∧ (fop C e H o.op).out (v, H)
    | _ => (fop C e H o.op).out (v, H')
/-- The same, laid open by a run. -/
def dop (C : Ctx) (nt : Nat) (m : Nat) (o : Oper) (k : Env → AHeap → Prop) (e : Env) (H : AHeap) : Prop := match callOf o.op with
  | some (f, args) => match fnOf (ev C e f) with
    | some (g, caps) => match C.fns g with
      | false => evs C e (fun l => (extop (C.ext g) (caps l)).run fun v => wr nt o.dst v k e H) args
      | true => (evs C e (fun l => spine (caps l) fun l => match m with
      | 0 => ∃ ds d, toDs l = some ds ∧ (ACalls C g (ds.map .p) [] fun r _ => r.toD = some d) ∧ wr nt o.dst (.p d) k e H
      | 1 => ∃ ds K d, frzA H l = some (ds, K) ∧ noRef d = true ∧ (ACalls C g (ds.map .p) [] fun r _ => r.toD = some d) ∧ wr nt o.dst (.p d) k e H
      | _ => ∃ v H', (acall C g l H fun r H1 => r = v ∧ H1 = H') ∧ hcas H' fun H' => wr nt o.dst v k e H') args)
    | none => False
  | none => match m with
    | 0 => (fop C e [] o.op).run fun r => match r with
      | (v, []) => wr nt o.dst v k e H
      | _ => False
    | 1 => (fop C e H o.op).run fun r => match r with
      | (v, H') => H' = H ∧ wr nt o.dst v k e H
    | _ => (fop C e H o.op).run fun r => match r with
      | (v, H') => hcas H' fun H' => wr nt o.dst v k e H'
def dops (C : Ctx) (nt : Nat) (md : Nat → Nat) (all : List Oper) : Nat → List Oper → (Env → AHeap → Prop) → Env → AHeap → Prop
  | _, [], k, e, H => k e H
  | i, o :: r, k, e, H => want all o e (dop C nt (md i) o (dops C nt md all (i + 1) r k) e H) (wr nt o.dst (.p (.tup [])) (dops C nt md all (i + 1) r k) e H)
def tmpsOf : List Operand → List Nat
  | [] => []
  | .tmp t :: r => t :: tmpsOf r
  | _ :: r => tmpsOf r
/-- What an operation reads: its operands, its guard's slot. -/
def readsOf (all : List Oper) (o : Oper) : List Nat :=
  (match o.guard with
    | some (j, _) => match all[j]? with
      | some g => match g.dst with
        | some d => [d]
        | none => []
      | none => []
    | none => []) ++ tmpsOf o.op.operands.toList
def disj (a : Option Nat) (l : List Nat) : Bool := match a with
  | some d => l.all fun x => !(Nat.beq x d)
  | none => true
/-- How an operation of a region that draws is taken: as of old; or: it looks at the blocks R, changes the blocks W alone, makes others or not, behind n. -/
inductive Md where
  | old (m : Nat)
  | loc (R W : List Nat) (app : Bool) (n : Nat)
def patch : List Nat → AHeap → AHeap → AHeap
  | b :: F, o :: N, K => patch F N (K.set b o)
  | _, _, K => K
/-- A variable's block in a slot that is kept for it. -/
def slotStep (C : Ctx) (o : Oper) (K : AHeap) (v : V) (K' : AHeap) : Prop :=
  ∃ t n i, o.op = .alloc t ∧ tyOf C t = some i ∧ K[n]? = some (.dead 0) ∧ v = .ptr n 1 0 ∧ K' = K.set n (.cells (.t t) 1 (i.zero.map .p))
def Step (C : Ctx) (o : Oper) (e : Env) (K : AHeap) (v : V) (K' : AHeap) : Prop := dstep C 2 o e K v K' ∨ slotStep C o K v K'
def lstep (C : Ctx) (R W : List Nat) (app : Bool) (n : Nat) (o : Oper) (e : Env) (H : AHeap) (v : V) (H' : AHeap) : Prop :=
  ∃ P O N X, picks H R = some P ∧ picks H W = some O ∧ N.length = W.length ∧ H' = patch W N H ++ X ∧ (app = false → X = []) ∧ (app = true → H.length = n) ∧
    ∀ K, (app = true → K.length = n) → picks K R = some P → picks K W = some O → Step C o e K v (patch W N K ++ X)
def Dstep (C : Ctx) (m : Md) (o : Oper) (e : Env) (H : AHeap) (v : V) (H' : AHeap) : Prop := match m with
  | .old m => dstep C m o e H v H'
  | .loc R W app n => lstep C R W app n o e H v H'
def disjL (F G : List Nat) : Bool := F.all fun b => G.all fun c => !(Nat.beq b c)
def quiet (W : List Nat) (app : Bool) : Bool := match W with
  | [] => !app
  | _ => false
def mdOk : Md → Md → Bool
  | .old m, .old n => Nat.beq m 0 || Nat.beq n 0 || (Nat.beq m 1 && Nat.beq n 1)
  | .old m, .loc _ W app _ => Nat.beq m 0 || (Nat.beq m 1 && quiet W app)
  | .loc _ W app _, .old m => Nat.beq m 0 || (Nat.beq m 1 && quiet W app)
  | .loc R W app n, .loc R' W' app' _ => disjL W W' && disjL W R' && disjL W' R && !(app && app') && (!app || ((R'.all fun b => Nat.blt b n) && W'.all fun b => Nat.blt b n))
/-- May two operations be done in either order? -/
def swaps (all : List Oper) (m n : Md) (a b : Oper) : Bool :=
  mdOk m n && disj a.dst (readsOf all b) && disj b.dst (readsOf all a) && disj a.dst b.dst.toList
/-- Which operations go before one, whatever the order drawn: by a mask. -/
def maskOf (acc : List Nat) : List Edge → Nat
  | [] => 0
  | e :: r => match Region.binds .any e with
    | true => (1 <<< e.on ||| acc.getD e.on 0) ||| maskOf acc r
    | false => maskOf acc r
def masks : List Nat → List Oper → List Nat
  | acc, [] => acc
  | acc, o :: r => masks (acc ++ [maskOf acc o.after.toList]) r
/-- Every two are ordered, or may be done in either order. -/
def drawOk (md : Nat → Md) (ops : List Oper) : Bool :=
  (List.range ops.length).all fun j => match ops[j]? with
    | some oj => oj.after.toList.all (fun e => !Region.binds .any e || Nat.blt e.on j) && (List.range j).all fun i => ((masks [] ops).getD j 0).testBit i || match ops[i]? with
      | some oi => swaps ops (md i) (md j) oi oj
      | none => true
    | none => true

/-- A toss: a variable is set to true and to false, in an order that is drawn, and read. -/
def tossed (ops : List Oper) : Bool :=
  let r := fun l => Region.ready .any ops.toArray l
  r #[false, false, false, false] == [0] && r #[true, false, false, false] == [1, 2] && r #[true, true, false, false] == [2] && r #[true, false, true, false] == [1] && r #[true, true, true, false] == [3] && r #[true, true, true, true] == []
def flag (C : Ctx) (t : Nat) : Bool := match tyOf C t with
  | some ⟨.bool, 1, _, [.lit (.bool false)], _⟩ => true
  | _ => false
def tossOf (C : Ctx) (nt : Nat) : List Oper → Option (Nat × Nat)
  | [⟨some a, .alloc t, ty0, p0, af0, none⟩, ⟨none, .store t1 (.tmp a1) (.const (.bool true)), ty1, p1, af1, none⟩, ⟨none, .store t2 (.tmp a2) (.const (.bool false)), ty2, p2, af2, none⟩, ⟨some d, .load t3 (.tmp a3), ty3, p3, af3, none⟩] =>
    match Nat.beq a a1 && Nat.beq a a2 && Nat.beq a a3 && Nat.beq t t1 && Nat.beq t t2 && Nat.beq t t3 && Nat.blt a nt && Nat.blt d nt && flag C t &&
        tossed [⟨some a, .alloc t, ty0, p0, af0, none⟩, ⟨none, .store t1 (.tmp a1) (.const (.bool true)), ty1, p1, af1, none⟩, ⟨none, .store t2 (.tmp a2) (.const (.bool false)), ty2, p2, af2, none⟩, ⟨some d, .load t3 (.tmp a3), ty3, p3, af3, none⟩] with
      | true => some (a, d)
      | false => none
  | _ => none
def rounds (body : Post → Env → AHeap → Prop) (Q : Post) : Nat → Env → AHeap → Prop
  | 0, _, _ => False
  | n + 1, e, H => body (fun x e H => match x with
    | .normal => rounds body Q n e H
    | x => Q x e H) e H
/-- What an environment tells holds in another. -/
def SubE (e' e : Env) : Prop := ∀ i, lk e' i = lk e i ∨ lk e' i = .top
/-- A loop by what holds ahead of each round, and a measure that falls. -/
def LoopP (body : Post → Env → AHeap → Prop) (Q : Post) (e : Env) (H : AHeap) : Prop :=
  ∃ (S : Type) (en : S → Env) (hp : S → AHeap) (μ : S → Nat) (s0 : S), SubE (en s0) e ∧ hp s0 = H ∧ ∀ s, body (fun x e H => match x with
    | .normal => ∃ s', μ s' < μ s ∧ SubE (en s') e ∧ hp s' = H
    | x => Q x e H) (en s) (hp s)
/-- A scope by what holds at its labels. -/
def ScopeP (run : Code → Post → Env → AHeap → Prop) (whole : Code) (Q : Post) (c : Code) (e : Env) (H : AHeap) : Prop :=
  ∃ (S : Type) (lab : S → Nat) (en : S → Env) (hp : S → AHeap) (μ : S → Nat), run c (fun x e H => match x with
    | .goto l => (∃ s', lab s' = l ∧ SubE (en s') e ∧ hp s' = H) ∨ (findLabel whole l = none ∧ Q (.goto l) e H)
    | x => Q x e H) e H ∧ ∀ s, ∃ rest, findLabel whole (lab s) = some rest ∧ run rest (fun x e H => match x with
    | .goto l => (∃ s', lab s' = l ∧ μ s' < μ s ∧ SubE (en s') e ∧ hp s' = H) ∨ (findLabel whole l = none ∧ Q (.goto l) e H)
    | x => Q x e H) (en s) (hp s)
def awp (C : Ctx) (A : Ann) : Nat → Code → Post → Env → AHeap → Prop
  | 0, _, _, _, _ => False
  | n + 1, c, Q, e, H => match c with
    | .skip => Q .normal e H
    | .region id ops draw => ghs A.n0 (A.gs id) (fun e H => match draw with
      | false => aops C A.nt ops.toList ops.toList (Q .normal) e H
      | true => match tossOf C A.nt ops.toList with
        | some (a, d) => ∀ b : Bool, Q .normal ((d, .p (.lit (.bool b))) :: (a, .top) :: e) (H ++ [.dead 0])
        | none => drawOk (fun i => .old (A.md id i)) ops.toList = true ∧ dops C A.nt (A.md id) ops.toList 0 ops.toList (Q .normal) e H) e H
    | .seq a b => awp C A n a (fun x e H => match x with
      | .normal => awp C A n b Q e H
      | x => Q x e H) e H
    | .cond c t f => match ev C e c with
      | .p (.lit (.bool b)) => condK b (awp C A n t Q e H) (awp C A n f Q e H)
      | _ => False
    | .block id c => awp C A n c (fun x e H => match x with
      | .exit i => match Nat.beq i id with
        | true => Q .normal e H
        | false => Q (.exit i) e H
      | x => Q x e H) e H
    | .loop c => (∃ k, rounds (awp C A n c) Q k e H) ∨ LoopP (awp C A n c) Q e H
    | .exit id => Q (.exit id) e H
    | .label _ => Q .normal e H
    | .goto l => Q (.goto l) e H
    | .ret => Q .ret e H
    | .scope c => (∃ k, scopes (fun c Q e H => awp C A n c Q e H) c Q k c e H) ∨ ScopeP (fun c Q e H => awp C A n c Q e H) c Q c e H
    | _ => False
where
  /-- A scope whose labels are jumped to: k passes at the most. -/
  scopes (run : Code → Post → Env → AHeap → Prop) (whole : Code) (Q : Post) : Nat → Code → Env → AHeap → Prop
    | 0, _, _, _ => False
    | k + 1, c, e, H => run c (fun x e H => match x with
      | .goto l => match findLabel whole l with
        | some rest => scopes run whole Q k rest e H
        | none => Q (.goto l) e H
      | x => Q x e H) e H
/-- What a body hands back. -/
def resOf (C : Ctx) (e : Env) (H : AHeap) : List ResultVar → Option (List V)
  | [] => some []
  | .tmp t :: r => match resOf C e H r with
    | some l => some (lk e t :: l)
    | none => none
  | .cell a t :: r => match loadAt C H t (lk e a) with
    | some v => match resOf C e H r with
      | some l => some (v :: l)
      | none => none
    | none => none
def retV : List V → V
  | [v] => v
  | l => match toDs l with
    | some ds => .p (.tup ds)
    | none => .tup l
def retQ (C : Ctx) (rs : List ResultVar) (Q : V → AHeap → Prop) : Post := fun x e H => match x with
  | .ret => match resOf C e H rs with
    | some l => (retV l).cas fun v => Q v H
    | none => False
  | .normal => match resOf C e H rs with
    | some l => (retV l).cas fun v => Q v H
    | none => False
  | _ => False
def enum : Nat → List V → Env
  | _, [] => []
  | i, v :: r => (i, v) :: enum (i + 1) r
end Go.Abs
/- Soundness of single operations: types, cells, loads. -/
namespace Go.Abs
set_option linter.unusedVariables false
set_option linter.unusedSimpArgs false

def descKind : TypeDesc → TK
  | .int k => .int k
  | .string => .str
  | .bool => .bool
  | .slice e => .slice e
  | .array n e => .array n e
  | .struct fs => match fs.toList.any fun f => f.name == "_" with
    | true => .bad
    | false => .struct (fs.toList.map fun f => (f.offset, f.type))
  | .pointer e => .ptr e
  | .interface _ => .ifc
  | .unsafePointer => .uptr
  | .map k e => .map k e
  | .float k => .flt k
  | .complex k => .cpx k
  | .named _ _ => .bad
  | .invalid => .bad
  | .tuple _ => .bad
  | _ => .other
def zval : D → Value
  | .lit v => v
  | .sl _ _ => .slice none 0 0
  | _ => undef
def zOk : D → Bool
  | .lit v => Scalar v
  | .sl [] true => true
  | _ => false
def zeroOf (i : TI) : Value := match i.agg with
  | true => .agg (i.zero.map zval).toArray
  | false => match i.zero with
    | [d] => zval d
    | _ => undef
structure TyAt (P : Program) (t : Nat) (i : TI) : Prop where
  und : ∃ d, P.underlying t = some d ∧ descKind d = i.kind
  info : ∃ inf, P.info? t = some inf ∧ inf.size = i.size ∧ inf.bytes = i.bytes ∧ inf.zero = some (zeroOf i)
  zs : i.zero.length = i.size
  zok : ∀ d ∈ i.zero, zOk d = true
  kok : i.kind ≠ .bad
  one : i.agg = false → i.size = 1
  cmp : i.cmp = true → P.stoodInHeld t = false ∧ P.eqGuardType P.depth t = false
def TyOk (C : Ctx) : Prop := ∀ t i, tyOf C t = some i → TyAt C.P t i

section
variable {C : Ctx} {P : Program} {t : Nat} {i : TI} {w : World}
theorem tyOf_kind (h : tyOf C t = some i) : C.ty t = i := by
  unfold tyOf at h
  split at h
  · cases h
  · injection h
theorem TyAt.run_size (h : TyAt P t i) : (sizeOf t).run P w = .ok i.size w := by
  obtain ⟨inf, h1, h2, _⟩ := h.info
  simp [sizeOf, typeInfo, h1, h2]
theorem TyAt.run_zero (h : TyAt P t i) : (zeroValue t).run P w = .ok (zeroOf i) w := by
  obtain ⟨inf, h1, h2, h3, h4⟩ := h.info
  simp [zeroValue, typeInfo, h1, h4]
theorem TyAt.run_und (h : TyAt P t i) : ∃ d, descKind d = i.kind ∧ P.underlying t = some d ∧ ∀ w, (underlying t).run P w = .ok d w := by
  obtain ⟨d, h1, h2⟩ := h.und
  exact ⟨d, h2, h1, fun w => run_underlying h1 w⟩
theorem TyAt.run_agg (h : TyAt P t i) : (isAgg t).run P w = .ok i.agg w := by
  obtain ⟨d, h1, h2⟩ := h.und
  unfold isAgg
  rw [Sem.run_bind, run_underlying h1]
  unfold TI.agg
  have hk := h.kok
  rw [← h2] at hk ⊢
  cases d with
  | struct fs =>
    simp only [descKind] at hk ⊢
    cases hq : fs.toList.any fun f => f.name == "_" with
    | true => simp [hq] at hk
    | false => simp
  | _ => simp [descKind, Result.andThen]
end

theorem add_at (b o j : Nat) : (⟨b, o, none⟩ : Addr).add j = ⟨b, o + j, none⟩ := by unfold Addr.add; split <;> simp_all

theorem Scalar.cells {v : Value} (h : Scalar v = true) : v.cells = #[v] ∧ v.oneCell' = true := by
  cases v <;> simp [Scalar, Value.cells, Value.oneCell'] at *
theorem RepD.leafCells {w : World} {Fz : Cells} {d : D} {v : Value} (h : RepD w Fz d v) (hl : d.leaf = true) : v.cells = #[v] ∧ v.oneCell' = true := by
  cases h with
  | lit h => exact Scalar.cells h
  | agg _ _ => simp [D.leaf] at hl
  | tup _ => simp [D.leaf] at hl
  | _ => simp [Value.cells, Value.oneCell']
theorem RepV.leafCells {σ : St} {d : V} {v : Value} (h : RepV σ d v) (hl : d.leaf = true) : v.cells = #[v] ∧ v.oneCell' = true := by
  cases h with
  | p h => exact h.leafCells (by simpa [V.leaf] using hl)
  | top => simp [V.leaf] at hl
  | agg _ _ => simp [V.leaf] at hl
  | tup _ => simp [V.leaf] at hl
  | _ => simp [Value.cells, Value.oneCell']
theorem RepVs.oneCells {σ : St} : ∀ {l : List V} {vs : List Value}, RepVs σ l vs → (∀ x ∈ l, x.leaf = true) → ∀ v ∈ vs, v.oneCell' = true
  | _, _, .nil, _, v, h => by simp at h
  | _, _, .cons (d := d) h t, hl, v, hv => by
    rcases List.mem_cons.1 hv with rfl | hv
    · exact (h.leafCells (hl d (by simp))).2
    · exact t.oneCells (fun x hx => hl x (by simp [hx])) v hv
theorem leaf_map {l : List D} (h : ∀ d ∈ l, d.leaf = true) : ∀ x ∈ l.map V.p, x.leaf = true := by
  intro x hx
  obtain ⟨d, hd, rfl⟩ := List.mem_map.1 hx
  exact h d hd
/-- A value's cells mean its value's cells. -/
theorem RepV.flat {σ : St} {v : V} {x : Value} (h : RepV σ v x) {l : List V} (hf : v.flat = some l) :
    RepVs σ l x.cells.toList ∧ ∀ y ∈ l, y.leaf = true := by
  cases h with
  | p h =>
    cases h with
    | agg hl h => simp [V.flat] at hf; subst hf; exact ⟨by simpa [Value.cells] using h.toV, leaf_map hl⟩
    | tup _ => simp [V.flat] at hf
    | lit h => simp [V.flat] at hf; subst hf; rw [(Scalar.cells h).1]; exact ⟨.cons (.p (.lit h)) .nil, by simp [V.leaf, D.leaf]⟩
    | sl a b c d e f => simp [V.flat] at hf; subst hf; exact ⟨.cons (.p (.sl a b c d e f)) .nil, by simp [V.leaf, D.leaf]⟩
    | sl0 a => simp [V.flat] at hf; subst hf; exact ⟨.cons (.p (.sl0 a)) .nil, by simp [V.leaf, D.leaf]⟩
    | rp a b c => simp [V.flat] at hf; subst hf; exact ⟨.cons (.p (.rp a b c)) .nil, by simp [V.leaf, D.leaf]⟩
    | fn a => simp [V.flat] at hf; subst hf; exact ⟨.cons (.p (.fn a)) .nil, by simp [V.leaf, D.leaf]⟩
    | ifc a => simp [V.flat] at hf; subst hf; exact ⟨.cons (.p (.ifc a)) .nil, by simp [V.leaf, D.leaf]⟩
    | mp a1 a2 a3 a4 a5 a6 a7 a8 a9 => simp [V.flat] at hf; subst hf; exact ⟨.cons (.p (.mp a1 a2 a3 a4 a5 a6 a7 a8 a9)) .nil, by simp [V.leaf, D.leaf]⟩
  | top => simp [V.flat] at hf
  | vec a b c d e f g => simp [V.flat] at hf; subst hf; exact ⟨.cons (.vec a b c d e f g) .nil, by simp [V.leaf]⟩
  | vec0 a => simp [V.flat] at hf; subst hf; exact ⟨.cons (.vec0 a) .nil, by simp [V.leaf]⟩
  | row a b c => simp [V.flat] at hf; subst hf; exact ⟨.cons (.row a b c) .nil, by simp [V.leaf]⟩
  | row0 a b => simp [V.flat] at hf; subst hf; exact ⟨.cons (.row0 a b) .nil, by simp [V.leaf]⟩
  | vptr a b c d e => simp [V.flat] at hf; subst hf; exact ⟨.cons (.vptr a b c d e) .nil, by simp [V.leaf]⟩
  | own a b c => simp [V.flat] at hf; subst hf; exact ⟨.cons (.own a b c) .nil, by simp [V.leaf]⟩
  | own0 a b => simp [V.flat] at hf; subst hf; exact ⟨.cons (.own0 a b) .nil, by simp [V.leaf]⟩
  | mp a => simp [V.flat] at hf; subst hf; exact ⟨.cons (.mp a) .nil, by simp [V.leaf]⟩
  | bfn a => simp [V.flat] at hf; subst hf; exact ⟨.cons (.bfn a) .nil, by simp [V.leaf]⟩
  | ptr a => simp [V.flat] at hf; subst hf; exact ⟨.cons (.ptr a) .nil, by simp [V.leaf]⟩
  | agg hl h => simp [V.flat] at hf; subst hf; exact ⟨by simpa [Value.cells] using h, hl⟩
  | fn a => simp [V.flat] at hf; subst hf; exact ⟨.cons (.fn a) .nil, by simp [V.leaf]⟩
  | tup a => simp [V.flat] at hf
def packVal (agg : Bool) (vs : List Value) : Value := match agg with
  | true => .agg ⟨vs⟩
  | false => vs.getD 0 undef
/-- Cells packed to a value. -/
theorem RepVs.packV {σ : St} {l : List V} {vs : List Value} (h : RepVs σ l vs) (hl : ∀ y ∈ l, y.leaf = true) {agg : Bool} {v : V} (hp : packV agg l = some v) :
    RepV σ v (packVal agg vs) := by
  unfold Abs.packV at hp; unfold packVal
  cases agg with
  | true =>
    simp only at hp ⊢
    cases hd : Abs.toDs l with
    | some ds => simp [hd] at hp; subst hp; exact .p (.agg (h.toDs_leaf hl hd) (h.toDs hd))
    | none => simp [hd] at hp; subst hp; exact .agg hl h
  | false =>
    simp only at hp ⊢
    cases h with
    | nil => simp at hp
    | cons h t =>
      cases t with
      | nil => simp at hp; subst hp; simpa using h
      | cons _ _ => simp at hp
theorem RepDs.packD {w : World} {Fz : Cells} {l : List D} {vs : List Value} (h : RepDs w Fz l vs) (hl : ∀ y ∈ l, y.leaf = true) {agg : Bool} {v : D} (hp : packD agg l = some v) :
    RepD w Fz v (packVal agg vs) := by
  unfold Abs.packD at hp; unfold packVal
  cases agg with
  | true => simp at hp ⊢; subst hp; exact .agg hl h
  | false =>
    simp only at hp ⊢
    cases h with
    | nil => simp at hp
    | cons h t =>
      cases t with
      | nil => simp at hp; subst hp; simpa using h
      | cons _ _ => simp at hp

/-- The cells of one of the call's blocks. -/
theorem St.ok.cellsAt {σ : St} (ok : σ.ok) {b ver : Nat} {lz : Lz} {cs : List V} (h : objCells σ.H[b]? ver = some (lz, cs)) :
    σ.H[b]? = some (.cells lz ver cs) ∧ ∃ c T fr, σ.w.heap[σ.ι b ver]? = some (.cells c T fr) ∧ cs.length ≤ c.size ∧ RepVs σ cs (c.toList.take cs.length) ∧
      (∀ i, i < cs.length → ¬ (fr.1 ≤ i ∧ i < fr.2)) ∧ (∀ x ∈ cs, x.leaf = true) ∧ ∀ j o, σ.O b j o ↔ j = σ.ι b ver := by
  cases ho : σ.H[b]? with
  | none => simp [ho, objCells] at h
  | some o =>
    cases o with
    | cells lz' v cs' =>
      simp only [ho, objCells] at h
      cases hb : Nat.beq v ver with
      | false => simp [hb] at h
      | true =>
        have hv : v = ver := Nat.eq_of_beq_eq_true hb
        subst hv
        simp [hb] at h
        obtain ⟨rfl, rfl⟩ := h
        obtain ⟨c, T, fr, q1, q2, q3⟩ := ok.objs b _ ho
        exact ⟨rfl, c, T, fr, q1, q2.1, q3⟩
    | tok T s n => simp [ho, objCells] at h
    | dead v => simp [ho, objCells] at h
    | map ks vs => simp [ho, objCells] at h
theorem cell_of {w : World} {g : Nat} {c : Array Value} {T : TypeId} {fr : Nat × Nat} (h : w.heap[g]? = some (.cells c T fr)) (j : Nat) : w.cell? ⟨g, j, none⟩ = c[j]? := by
  simp [World.cell?, h]
theorem frozen_of {w : World} {g : Nat} {c : Array Value} {T : TypeId} {fr : Nat × Nat} (h : w.heap[g]? = some (.cells c T fr)) (j : Nat) :
    w.frozen? ⟨g, j, none⟩ = (decide (fr.1 ≤ j) && decide (j < fr.2)) := by
  obtain ⟨lo, hi⟩ := fr
  simp [World.frozen?, h]

/-- A load of cells that are there. -/
theorem run_loadVar_cells {P : Program} {t : Nat} {i : TI} (ht : TyAt P t i) {w : World} {b o : Nat} {vs : List Value} (hn : vs.length = i.size)
    (h : ∀ j v, vs[j]? = some v → w.cell? ⟨b, o + j, none⟩ = some v) :
    (loadVar t ⟨b, o, none⟩).run P w = .ok (packVal i.agg vs) w := by
  unfold loadVar packVal
  rw [Sem.run_bind, ht.run_agg]
  cases ha : i.agg with
  | true =>
    simp only [Result.andThen_ok, if_true]
    rw [Sem.run_bind, ht.run_size]
    simp only [Result.andThen_ok]
    rw [← hn, Sem.run_bind, run_loadCells_list w ⟨b, o, none⟩ vs (fun j v hj => by rw [add_at]; exact h j v hj)]
    simp
  | false =>
    have h1 := ht.one ha
    cases vs with
    | nil => simp at hn; omega
    | cons x r =>
      have := h 0 x (by simp)
      simp at this
      simp [run_load, this]

theorem loadAt_sound {C : Ctx} (hT : TyOk C) {σ : St} (ok : σ.ok) {t : Nat} {a v : V} {x : Value} (hx : RepV σ a x) (h : loadAt C σ.H t a = some v) :
    ∃ y, (Instr.loadAt t x).run C.P σ.w = .ok y σ.w ∧ RepV σ v y := by
  unfold loadAt at h
  cases hi : tyOf C t with
  | none => simp [hi] at h
  | some i =>
    have ht := hT t i hi
    simp only [hi] at h
    cases hx with
    | ptr hid =>
      rename_i b ver off
      simp only at h
      cases ho : objCells σ.H[b]? ver with
      | none => simp [ho] at h
      | some q =>
        obtain ⟨lz, cs⟩ := q
        simp only [ho] at h
        cases hb : Nat.ble (off + i.size) cs.length with
        | false => simp [hb] at h
        | true =>
          have hle : off + i.size ≤ cs.length := Nat.le_of_ble_eq_true hb
          simp only [hb] at h
          obtain ⟨_, c, T, fr, hh, hsz, hr, _, hl, _⟩ := ok.cellsAt ho
          have hr2 := (hr.drop off).take i.size
          have hlen : (((c.toList.take cs.length).drop off).take i.size).length = i.size := by simp; omega
          have hcell : ∀ j v, (((c.toList.take cs.length).drop off).take i.size)[j]? = some v → σ.w.cell? ⟨σ.ι b ver, off + j, none⟩ = some v := by
            intro j v hj
            rw [cell_of hh]
            rw [List.getElem?_take] at hj
            split at hj
            · rw [List.getElem?_drop, List.getElem?_take] at hj
              split at hj
              · simpa using hj
              · cases hj
            · cases hj
          have hrun := run_loadVar_cells (w := σ.w) ht hlen hcell
          have hp := hr2.packV (fun y hy => hl y (List.mem_of_mem_drop (List.mem_of_mem_take hy))) h
          exact ⟨_, by simpa [Instr.loadAt, Instr.sureAddr] using hrun, hp⟩
    | p hd =>
      cases hd with
      | rp hl hr hs =>
        rename_i cs b off vs
        simp only at h
        cases hb : Nat.ble i.size cs.length with
        | false => simp [hb] at h
        | true =>
          have hle : i.size ≤ cs.length := Nat.le_of_ble_eq_true hb
          simp only [hb] at h
          cases hp : Abs.packD i.agg (cs.take i.size) with
          | none => simp [hp] at h
          | some d =>
            simp [hp] at h
            subst h
            have hs2 := hs.take i.size
            have hlen : (vs.take i.size).length = i.size := by have := hs.length; simp; omega
            have hcell : ∀ j v, (vs.take i.size)[j]? = some v → σ.w.cell? ⟨b, off + j, none⟩ = some v := by
              intro j v hj
              rw [List.getElem?_take] at hj
              split at hj
              · exact (hr j v hj).2
              · cases hj
            have hrun := run_loadVar_cells (w := σ.w) ht hlen hcell
            have hp2 := hs2.packD (fun y hy => hl y (List.mem_of_mem_take hy)) hp
            exact ⟨_, by simpa [Instr.loadAt, Instr.sureAddr] using hrun, .p hp2⟩
      | _ => simp at h
    | _ => simp at h
end Go.Abs
