/- Changes of the world and of the abstract heap, side by side. -/
import Derived.Test.YtpmejcfbnghaeaaGreatDoorT01
import Derived.Deep.Draws
namespace Go.Abs
set_option linter.unusedVariables false
set_option linter.unusedSimpArgs false

theorem St.vb_some {σ : St} {b : Nat} {o : AObj} (h : σ.H[b]? = some o) : σ.vb b = some o.ver := by simp [St.vb, h]
theorem St.vb_lt {σ : St} {b m : Nat} (h : σ.vb b = some m) : b < σ.H.length := by
  unfold St.vb at h
  cases hb : σ.H[b]? with
  | none => simp [hb] at h
  | some o => exact (List.getElem?_eq_some_iff.1 hb).1
/-- Ownership goes on to the block's end. -/
theorem RepO.up {σ : St} {b : Nat} {o : AObj} (h : RepO σ b o) {j p q : Nat} (ho : σ.O b j p) (hpq : p ≤ q) : σ.O b j q := by
  cases o with
  | cells lz v cs => obtain ⟨c, T, fr, _, _, _, _, _, h⟩ := h; exact (h j q).2 ((h j p).1 ho)
  | tok T s n =>
    rcases h with ⟨_, h⟩ | ⟨c, fr, k, _, _, _, _, h⟩
    · exact absurd ho (h j p)
    · exact (h j q).2 ⟨((h j p).1 ho).1, Nat.le_trans ((h j p).1 ho).2 hpq⟩
  | dead v => exact absurd ho (h j p)
  | map ks vs => obtain ⟨es, ck, l, _, _, _, _, _, h⟩ := h; exact (h j q).2 ((h j p).1 ho)
theorem St.ok.up {σ : St} (ok : σ.ok) {b j p q : Nat} (ho : σ.O b j p) (hpq : p ≤ q) : σ.O b j q := by
  cases hb : σ.H[b]? with
  | none => exact absurd ho (ok.out b hb j p)
  | some o => exact (ok.objs b o hb).up ho hpq
theorem St.ok.one {σ : St} (ok : σ.ok) {b b' j p q : Nat} (h : σ.O b j p) (h' : σ.O b' j q) : b = b' := by
  apply Decidable.byContradiction
  intro hne
  exact ok.disj b b' j (max p q) hne (ok.up h (Nat.le_max_left _ _)) (ok.up h' (Nat.le_max_right _ _))
/-- What isn't touched means what it meant. -/
theorem RepO.keep {σ τ : St} (m : Mon σ τ) {b : Nat} {o : AObj} (hO : ∀ j p, τ.O b j p ↔ σ.O b j p) (hid : σ.vb b = some o.ver)
    (hw : ∀ j p, σ.O b j p → τ.w.heap[j]? = σ.w.heap[j]?) (h : RepO σ b o) : RepO τ b o := by
  have hi : τ.ι b o.ver = σ.ι b o.ver := by
    obtain ⟨m', _, _, e⟩ := m.ids b _ hid
    exact e _ (Nat.le_refl _)
  cases o with
  | cells lz v cs =>
    obtain ⟨c, T, fr, h1, h2, h3, h4, h5, h6⟩ := h
    simp only [AObj.ver] at hi
    refine ⟨c, T, fr, ?_, h2, h3.mon m, h4, h5, fun j p => ?_⟩
    · rw [hi, hw _ 0 ((h6 _ _).2 rfl)]; exact h1
    · rw [hO, h6, hi]
  | tok T s n =>
    simp only [AObj.ver] at hi
    rcases h with ⟨h1, h2⟩ | ⟨c, fr, k, h1, h2, h3, h4, h5⟩
    · exact .inl ⟨h1, fun j p => by rw [hO]; exact h2 j p⟩
    · refine .inr ⟨c, fr, k, ?_, h2, h3, h4, fun j p => ?_⟩
      · rw [hi, hw _ (n * s) ((h5 _ _).2 ⟨rfl, Nat.le_refl _⟩)]; exact h1
      · rw [hO, h5, hi]
  | dead v => exact fun j p => by rw [hO]; exact h j p
  | map ks vs =>
    obtain ⟨es, ck, l, h1, h2, h3, h4, h5, h6⟩ := h
    simp only [AObj.ver] at hi
    refine ⟨es, ck, l, ?_, h2, h3, h4.mon m, h5.mon m, fun j p => ?_⟩
    · rw [hi, hw _ 0 ((h6 _ _).2 rfl)]; exact h1
    · rw [hO, h6, hi]

/-! A count of the world goes on -/
def St.drew (σ : St) : St := { σ with w := σ.w.drew }
theorem St.ok.drew {σ : St} (ok : σ.ok) : σ.drew.ok ∧ Ext σ σ.drew := by
  have e : Ext σ σ.drew := ⟨Nat.le_refl _, rfl, rfl, rfl, fun _ _ _ _ => rfl, fun _ _ _ => rfl, fun _ c T fr h => ⟨c, fr, h, rfl⟩, fun _ _ h => h, fun _ _ h _ => .inl h, fun _ _ h _ => h, fun _ m h => ⟨m, h, Nat.le_refl _, fun _ _ => rfl⟩⟩
  refine ⟨⟨fun b o h => (ok.objs b o h).keep (e.mon ok) (fun _ _ => Iff.rfl) (St.vb_some h) (fun _ _ _ => rfl), ok.out, ok.disj, ok.fz, ok.lt, ok.ltf⟩, e⟩
def St.drewN (σ : St) (n : Nat) : St := { σ with w := σ.w.drewN n }
theorem St.ok.drewN {σ : St} (ok : σ.ok) (n : Nat) : (σ.drewN n).ok ∧ Ext σ (σ.drewN n) := by
  have e : Ext σ (σ.drewN n) := ⟨Nat.le_refl _, rfl, rfl, rfl, fun _ _ _ _ => rfl, fun _ _ _ => rfl, fun _ c T fr h => ⟨c, fr, h, rfl⟩, fun _ _ h => h, fun _ _ h _ => .inl h, fun _ _ h _ => h, fun _ m h => ⟨m, h, Nat.le_refl _, fun _ _ => rfl⟩⟩
  refine ⟨⟨fun b o h => (ok.objs b o h).keep (e.mon ok) (fun _ _ => Iff.rfl) (St.vb_some h) (fun _ _ _ => rfl), ok.out, ok.disj, ok.fz, ok.lt, ok.ltf⟩, e⟩

/-! A new block of the world -/
theorem heap_push_lt (w : World) (o : Obj) {j : Nat} (h : j < w.heap.size) : (w.alloc o).heap[j]? = w.heap[j]? := by
  show (w.heap.push o)[j]? = _
  simp [Array.getElem?_push, Nat.ne_of_lt h]
theorem heap_push_new (w : World) (o : Obj) : (w.alloc o).heap[w.heap.size]? = some o := by
  show (w.heap.push o)[w.heap.size]? = _
  simp
theorem size_push (w : World) (o : Obj) : (w.alloc o).heap.size = w.heap.size + 1 := by
  show (w.heap.push o).size = _
  simp
theorem heap_lt {w : World} {j : Nat} {o : Obj} (h : w.heap[j]? = some o) : j < w.heap.size := (Array.getElem?_eq_some_iff.1 h).1
theorem heap_push_old {w : World} {j : Nat} {o : Obj} (h : w.heap[j]? = some o) (o' : Obj) : (w.alloc o').heap[j]? = some o := by
  rw [heap_push_lt w o' (heap_lt h)]; exact h
theorem cell_push (w : World) (o : Obj) {j p : Nat} (h : j < w.heap.size) : (w.alloc o).cell? ⟨j, p, none⟩ = w.cell? ⟨j, p, none⟩ := by
  simp only [World.cell?]
  rw [heap_push_lt w o h]

/-- A new block, whose first m cells never change, the others of which are owned as 'own' says; what is new in the abstract heap. -/
def St.push (σ : St) (c : Array Value) (T : TypeId) (fr : Nat × Nat) (fz : Nat → Prop) (b ver : Nat) (own : Nat → Prop) (H : AHeap) : St where
  w := σ.w.alloc (.cells c T fr)
  Fz := fun j o => σ.Fz j o ∨ (j = σ.w.heap.size ∧ fz o)
  ι := fun b' v => if b' = b ∧ v = ver then σ.w.heap.size else σ.ι b' v
  O := fun b' j o => if b' = b then j = σ.w.heap.size ∧ own o else σ.O b' j o
  H := H
theorem St.ok.push {σ : St} (ok : σ.ok) {c : Array Value} {T : TypeId} {fr : Nat × Nat} {fz own : Nat → Prop} {b ver : Nat} {H : AHeap}
    (hd : ∀ o, fz o → ¬ own o) (hH : ∀ b', b' ≠ b → H[b']? = σ.H[b']?) {obj : AObj} (hb : H[b]? = some obj) (hv : obj.ver = ver) (hver : ∀ m, σ.vb b = some m → m < ver)
    (hobj : Mon σ (σ.push c T fr fz b ver own H) → RepO (σ.push c T fr fz b ver own H) b obj) : (σ.push c T fr fz b ver own H).ok ∧ Ext σ (σ.push c T fr fz b ver own H) := by
  have e : Ext σ (σ.push c T fr fz b ver own H) := by
    refine ⟨by show _ ≤ (σ.w.alloc _).heap.size; rw [size_push]; omega, rfl, rfl, rfl, fun j o hj _ => cell_push _ _ hj, fun j hj _ => heap_push_lt _ _ hj, fun j c T fr h => ⟨c, fr, heap_push_old h _, rfl⟩, fun j o h => .inl h, ?_, ?_, ?_⟩
    · intro j o h hj
      rcases h with h | ⟨h, _⟩
      · exact .inl h
      · omega
    · rintro j o ⟨b', h⟩ hj
      simp only [St.push] at h
      split at h
      · omega
      · exact ⟨b', h⟩
    · intro b' m hm
      by_cases hbb : b' = b
      · subst hbb
        refine ⟨ver, ?_, ?_, ?_⟩
        · show (H[b']?).map AObj.ver = some ver
          rw [hb]; simp [hv]
        · exact Nat.le_of_lt (hver m hm)
        · intro v hvm
          have := hver m hm
          simp only [St.push]
          rw [if_neg (by omega)]
      · refine ⟨m, ?_, Nat.le_refl _, ?_⟩
        · show (H[b']?).map AObj.ver = some m
          rw [hH b' hbb]; exact hm
        · intro v _
          simp only [St.push]
          rw [if_neg (by intro h; exact hbb h.1)]
  refine ⟨⟨?_, ?_, ?_, ?_, ?_, ?_⟩, e⟩
  · intro b' o h
    by_cases hbb : b' = b
    · subst hbb
      have : o = obj := by
        have h' : H[b']? = some o := h
        rw [hb] at h'; injection h' with h'; exact h'.symm
      subst this
      exact hobj (e.mon ok)
    · have h' : σ.H[b']? = some o := by rw [← hH b' hbb]; exact h
      refine (ok.objs b' o h').keep (e.mon ok) ?_ (St.vb_some h') ?_
      · intro j p; simp only [St.push]; rw [if_neg hbb]
      · intro j p hp; exact heap_push_lt _ _ (ok.lt _ _ _ hp)
  · intro b' h j o ho
    have hbb : b' ≠ b := by intro hbb; subst hbb; have h' : H[b']? = none := h; rw [hb] at h'; cases h'
    simp only [St.push] at ho
    rw [if_neg hbb] at ho
    refine ok.out b' ?_ j o ho
    rw [← hH b' hbb]; exact h
  · intro b1 b2 j o hne h1 h2
    simp only [St.push] at h1 h2
    split at h1
    · rename_i e1
      rw [if_neg (by omega)] at h2
      have := ok.lt _ _ _ h2
      omega
    · split at h2
      · have := ok.lt _ _ _ h1
        omega
      · exact ok.disj b1 b2 j o hne h1 h2
  · intro b1 j o h1 h2
    simp only [St.push] at h1 h2
    split at h1
    · rcases h2 with h2 | ⟨_, h2⟩
      · have := ok.ltf _ _ h2
        omega
      · exact hd o h2 h1.2
    · rcases h2 with h2 | ⟨h2, _⟩
      · exact ok.fz b1 j o h1 h2
      · have := ok.lt _ _ _ h1
        omega
  · intro b1 j o h1
    show _ < (σ.w.alloc _).heap.size
    rw [size_push]
    simp only [St.push] at h1
    split at h1
    · omega
    · have := ok.lt _ _ _ h1; omega
  · intro j o h1
    show _ < (σ.w.alloc _).heap.size
    rw [size_push]
    simp only [St.push] at h1
    rcases h1 with h1 | h1
    · have := ok.ltf _ _ h1; omega
    · omega

/-- A new block all of which never changes; the abstract heap stays. -/
def St.pushF (σ : St) (c : Array Value) (T : TypeId) (fr : Nat × Nat) : St where
  w := σ.w.alloc (.cells c T fr)
  Fz := fun j o => σ.Fz j o ∨ j = σ.w.heap.size
  ι := σ.ι
  O := σ.O
  H := σ.H
theorem St.ok.pushF {σ : St} (ok : σ.ok) (c : Array Value) (T : TypeId) (fr : Nat × Nat) : (σ.pushF c T fr).ok ∧ Ext σ (σ.pushF c T fr) := by
  have e : Ext σ (σ.pushF c T fr) := by
    refine ⟨by show _ ≤ (σ.w.alloc _).heap.size; rw [size_push]; omega, rfl, rfl, rfl, fun j o hj _ => cell_push _ _ hj, fun j hj _ => heap_push_lt _ _ hj, fun j c T fr h => ⟨c, fr, heap_push_old h _, rfl⟩, fun j o h => .inl h, ?_, ?_, ?_⟩
    · intro j o h hj
      rcases h with h | h
      · exact .inl h
      · omega
    · rintro j o ⟨b', h⟩ hj; exact ⟨b', h⟩
    · intro b' m hm; exact ⟨m, hm, Nat.le_refl _, fun _ _ => rfl⟩
  refine ⟨⟨?_, ok.out, ok.disj, ?_, ?_, ?_⟩, e⟩
  · intro b' o h
    exact (ok.objs b' o h).keep (e.mon ok) (fun _ _ => Iff.rfl) (St.vb_some h) (fun j p hp => heap_push_lt _ _ (ok.lt _ _ _ hp))
  · intro b j o h h2
    rcases h2 with h2 | h2
    · exact ok.fz b j o h h2
    · have := ok.lt _ _ _ h; omega
  · intro b j o h
    have := ok.lt _ _ _ h
    show _ < (σ.w.alloc _).heap.size
    rw [size_push]; omega
  · intro j o h
    show _ < (σ.w.alloc _).heap.size
    rw [size_push]
    simp only [St.pushF] at h
    rcases h with h | h
    · have := ok.ltf _ _ h; omega
    · omega

/-! Cells of a block are written -/
theorem heap_setCell_ne (w : World) (a : Addr) (v : Value) {j : Nat} (h : j ≠ a.block) : (w.setCell a v).heap[j]? = w.heap[j]? := by
  simp [World.setCell, Array.getElem?_modify, Ne.symm h]
theorem heap_setCells_ne (b : Nat) : ∀ (vs : List Value) (o : Nat) (w : World) {j : Nat}, j ≠ b → (w.setCells b o vs).heap[j]? = w.heap[j]?
  | [], _, _, _, _ => rfl
  | v :: r, o, w, j, h => by rw [World.setCells, heap_setCells_ne b r (o + 1) _ h, heap_setCell_ne _ _ _ h]
def putCells (c : Array Value) : Nat → List Value → Array Value
  | _, [] => c
  | o, v :: r => putCells (c.setIfInBounds o v) (o + 1) r
theorem size_putCells : ∀ (vs : List Value) (c : Array Value) (o : Nat), (putCells c o vs).size = c.size
  | [], _, _ => rfl
  | v :: r, c, o => by rw [putCells, size_putCells r]; simp
theorem heap_setCells_same (b : Nat) {T : TypeId} {fr : Nat × Nat} : ∀ (vs : List Value) (o : Nat) (w : World) {c : Array Value}, w.heap[b]? = some (.cells c T fr) →
    (w.setCells b o vs).heap[b]? = some (.cells (putCells c o vs) T fr)
  | [], _, _, _, h => h
  | v :: r, o, w, c, h => by
    rw [World.setCells, putCells]
    refine heap_setCells_same b r (o + 1) _ ?_
    simp [World.setCell, Array.getElem?_modify, h]
theorem size_setCells (b : Nat) : ∀ (vs : List Value) (o : Nat) (w : World), (w.setCells b o vs).heap.size = w.heap.size
  | [], _, _ => rfl
  | v :: r, o, w => by rw [World.setCells, size_setCells b r]; simp [World.setCell]
theorem os_setCells (b : Nat) : ∀ (vs : List Value) (o : Nat) (w : World), (w.setCells b o vs).os = w.os ∧ (w.setCells b o vs).tape = w.tape ∧ (w.setCells b o vs).output = w.output
  | [], _, _ => ⟨rfl, rfl, rfl⟩
  | v :: r, o, w => by rw [World.setCells]; exact os_setCells b r (o + 1) _
theorem putCells_at : ∀ (vs : List Value) (c : Array Value) (o j : Nat), (j < o ∨ o + vs.length ≤ j) → (putCells c o vs)[j]? = c[j]?
  | [], _, _, _, _ => rfl
  | v :: r, c, o, j, h => by
    rw [putCells, putCells_at r _ (o + 1) j (by simp at h; omega), Array.getElem?_setIfInBounds, if_neg (by simp at h; omega)]
theorem putCells_toList : ∀ (vs : List Value) (c : Array Value) (o : Nat), o + vs.length ≤ c.size → (putCells c o vs).toList = c.toList.take o ++ vs ++ c.toList.drop (o + vs.length)
  | [], c, o, _ => by simp [putCells]
  | v :: r, c, o, h => by
    simp at h
    rw [putCells, putCells_toList r _ (o + 1) (by simp; omega)]
    have ho : o < c.toList.length := by simp; omega
    simp only [Array.toList_setIfInBounds, List.length_cons]
    rw [List.take_succ_eq_append_getElem (by simpa using ho)]
    have e1 : (c.toList.set o v).take o = c.toList.take o := by rw [List.take_set_of_le (Nat.le_refl _)]
    have e2 : (c.toList.set o v).drop (o + 1 + r.length) = c.toList.drop (o + (r.length + 1)) := by
      rw [List.drop_set_of_lt (by omega)]; congr 1; omega
    rw [e1, e2]
    simp [List.append_assoc]
/-- The abstract cells, where parts are written. -/
theorem setSlice_eq : ∀ (l cs : List V) (off : Nat), off + l.length ≤ cs.length → setSlice cs off l = cs.take off ++ l ++ cs.drop (off + l.length)
  | [], cs, off, _ => by simp [setSlice]
  | v :: r, cs, off, h => by
    simp at h
    rw [setSlice, setSlice_eq r _ (off + 1) (by simp; omega)]
    have ho : off < cs.length := by omega
    simp only [List.length_cons]
    rw [List.take_succ_eq_append_getElem (by simpa using ho)]
    have e1 : (cs.set off v).take off = cs.take off := by rw [List.take_set_of_le (Nat.le_refl _)]
    have e2 : (cs.set off v).drop (off + 1 + r.length) = cs.drop (off + (r.length + 1)) := by
      rw [List.drop_set_of_lt (by omega)]; congr 1; omega
    rw [e1, e2]
    simp [List.append_assoc]
theorem length_setSlice (cs : List V) : ∀ (l : List V) (off : Nat), (setSlice cs off l).length = cs.length := by
  intro l
  induction l generalizing cs with
  | nil => intro off; rfl
  | cons v r ih => intro off; rw [setSlice, ih]; simp

/-- Cells of one of the call's own blocks are written. -/
theorem St.ok.store {P : Program} {σ : St} (ok : σ.ok) {b ver off : Nat} {lz : Lz} {cs l : List V} {vs : List Value} (ho : objCells σ.H[b]? ver = some (lz, cs))
    (hle : off + l.length ≤ cs.length) (hl : ∀ y ∈ l, y.leaf = true) (hr : RepVs σ l vs) :
    let τ : St := { σ with w := σ.w.setCells (σ.ι b ver) off vs, H := σ.H.set b (.cells lz ver (setSlice cs off l)) }
    (storeCells ⟨σ.ι b ver, off, none⟩ vs).run P σ.w = .ok () τ.w ∧ τ.ok ∧ Ext σ τ := by
  intro τ
  obtain ⟨hH, _⟩ := ok.cellsAt ho
  obtain ⟨c, T, fr, hh, hszL, hcs, hfr, hleaf, hO⟩ := ok.objs b _ hH
  have hsz := hszL.1
  have hlen := hr.length
  have hblt : b < σ.H.length := (List.getElem?_eq_some_iff.1 hH).1
  have hown : σ.owns (σ.ι b ver) 0 := ⟨b, (hO _ _).2 rfl⟩
  have hrun : (storeCells ⟨σ.ι b ver, off, none⟩ vs).run P σ.w = .ok () τ.w := by
    have := run_storeCells_cells (P := P) (σ.ι b ver) off vs 0 σ.w (fun j hj => by
      rw [cell_of hh]; simp; omega) (fun j hj => by
      rw [frozen_of hh]
      have := hfr (off + 0 + j) (by omega)
      simp only [Bool.and_eq_false_iff, decide_eq_false_iff_not]
      omega) (hr.oneCells hl)
    simpa using this
  have hver : (AObj.cells lz ver (setSlice cs off l)).ver = (AObj.cells lz ver cs).ver := rfl
  have hset : ∀ b', b' ≠ b → (σ.H.set b (.cells lz ver (setSlice cs off l)))[b']? = σ.H[b']? := fun b' h => List.getElem?_set_ne (Ne.symm h)
  have hsetb : (σ.H.set b (.cells lz ver (setSlice cs off l)))[b]? = some (.cells lz ver (setSlice cs off l)) := by simp [hblt]
  have hvb : ∀ b', τ.vb b' = σ.vb b' := by
    intro b'
    by_cases h : b' = b
    · subst h; show ((σ.H.set b' _)[b']?).map _ = (σ.H[b']?).map _; rw [hsetb, hH]; rfl
    · show ((σ.H.set b _)[b']?).map _ = (σ.H[b']?).map _; rw [hset b' h]
  have e : Ext σ τ := by
    refine ⟨by simp [τ, size_setCells], (os_setCells ..).1, (os_setCells ..).2.1, (os_setCells ..).2.2, ?_, ?_, ?_, fun j o h => h, fun j o h _ => .inl h, fun j o h _ => h, fun b' m hm => ⟨m, by rw [hvb]; exact hm, Nat.le_refl _, fun _ _ => rfl⟩⟩
    · intro j o hj hn
      have : j ≠ σ.ι b ver := by rintro rfl; exact hn ⟨b, (hO _ _).2 rfl⟩
      simp only [World.cell?]
      rw [heap_setCells_ne _ _ _ _ this]
    · intro j hj hn
      exact heap_setCells_ne _ _ _ _ (by rintro rfl; exact hn 0 hown)
    · intro j c' T' fr' h
      by_cases hj : j = σ.ι b ver
      · subst hj
        rw [hh] at h; injection h with h; injection h with h1 h2 h3; subst h1; subst h2; subst h3
        exact ⟨_, _, heap_setCells_same _ _ _ _ hh, size_putCells _ _ _⟩
      · exact ⟨c', fr', by rw [show τ.w.heap[j]? = σ.w.heap[j]? from heap_setCells_ne _ _ _ _ hj]; exact h, rfl⟩
  refine ⟨hrun, ⟨?_, ?_, ok.disj, ok.fz, ?_, ?_⟩, e⟩
  · intro b' o h
    by_cases hbb : b' = b
    · subst hbb
      have : o = .cells lz ver (setSlice cs off l) := by
        have h' : (σ.H.set b' (.cells lz ver (setSlice cs off l)))[b']? = some o := h
        rw [hsetb] at h'; injection h' with h'; exact h'.symm
      subst this
      refine ⟨putCells c off vs, T, fr, heap_setCells_same _ _ _ _ hh, by rw [length_setSlice, size_putCells]; exact hszL, ?_, by rw [length_setSlice]; exact hfr, ?_, hO⟩
      · rw [length_setSlice, putCells_toList _ _ _ (by omega), setSlice_eq _ _ _ hle]
        have hm := e.mon ok
        have h1 : RepVs τ (cs.take off) (c.toList.take off) := by
          have := (hcs.take off).mon hm
          rwa [List.take_take, Nat.min_eq_left (by omega)] at this
        have h3 : RepVs τ (cs.drop (off + l.length)) ((c.toList.take cs.length).drop (off + vs.length)) := by
          have := (hcs.drop (off + l.length)).mon hm
          rwa [hlen]
        have h2 : RepVs τ l vs := hr.mon hm
        have := (h1.append h2).append h3
        have eq : List.take cs.length (c.toList.take off ++ vs ++ c.toList.drop (off + vs.length)) = c.toList.take off ++ vs ++ (c.toList.take cs.length).drop (off + vs.length) := by
          rw [List.take_append, List.take_of_length_le (by simp; omega)]
          congr 1
          rw [List.drop_take]
          congr 1
          simp; omega
        rw [eq]; exact this
      · intro x hx
        rw [setSlice_eq _ _ _ hle] at hx
        simp only [List.mem_append] at hx
        rcases hx with (hx | hx) | hx
        · exact hleaf x (List.mem_of_mem_take hx)
        · exact hl x hx
        · exact hleaf x (List.mem_of_mem_drop hx)
    · have h' : σ.H[b']? = some o := by rw [← hset b' hbb]; exact h
      refine (ok.objs b' o h').keep (e.mon ok) (fun _ _ => Iff.rfl) (St.vb_some h') (fun j p hp => heap_setCells_ne _ _ _ _ ?_)
      rintro rfl
      exact hbb (ok.one hp ((hO _ 0).2 rfl))
  · intro b' h j o ho'
    have hbb : b' ≠ b := by rintro rfl; have h' : (σ.H.set b' (.cells lz ver (setSlice cs off l)))[b']? = none := h; rw [hsetb] at h'; cases h'
    refine ok.out b' ?_ j o ho'
    rw [← hset b' hbb]; exact h
  · intro b' j o h; rw [show τ.w.heap.size = σ.w.heap.size from size_setCells ..]; exact ok.lt b' j o h
  · intro j o h; rw [show τ.w.heap.size = σ.w.heap.size from size_setCells ..]; exact ok.ltf j o h
end Go.Abs
/- Blocks that are to change no more: what leads to them becomes data. -/
namespace Go.Abs
set_option linter.unusedVariables false
set_option linter.unusedSimpArgs false

/-- A block of the call's own changes no more. -/
def St.froze (σ : St) (b ver : Nat) : St where
  w := σ.w
  Fz := fun j o => σ.Fz j o ∨ j = σ.ι b ver
  ι := σ.ι
  O := fun b' j o => b' ≠ b ∧ σ.O b' j o
  H := σ.H.set b (.dead ver)
theorem St.ok.froze {σ : St} (ok : σ.ok) {b ver : Nat} {obj : AObj} (hb : σ.H[b]? = some obj) (hv : obj.ver = ver) (hO : ∀ j o, σ.O b j o ↔ j = σ.ι b ver) :
    (σ.froze b ver).ok ∧ Ext σ (σ.froze b ver) := by
  have hblt : b < σ.H.length := (List.getElem?_eq_some_iff.1 hb).1
  have hne : ∀ b', b' ≠ b → (σ.H.set b (.dead ver))[b']? = σ.H[b']? := fun b' h => List.getElem?_set_ne (Ne.symm h)
  have hsetb : (σ.H.set b (.dead ver))[b]? = some (.dead ver) := by simp [hblt]
  have hvb : ∀ b', (σ.froze b ver).vb b' = σ.vb b' := by
    intro b'
    by_cases h : b' = b
    · subst h; show ((σ.H.set b' _)[b']?).map _ = (σ.H[b']?).map _; rw [hsetb, hb]; simp [AObj.ver] at hv ⊢; rw [hv]
    · show ((σ.H.set b _)[b']?).map _ = (σ.H[b']?).map _; rw [hne b' h]
  have hlt : σ.ι b ver < σ.w.heap.size := ok.lt b _ 0 ((hO _ _).2 rfl)
  have e : Ext σ (σ.froze b ver) := by
    refine ⟨Nat.le_refl _, rfl, rfl, rfl, fun _ _ _ _ => rfl, fun _ _ _ => rfl, fun _ c T fr h => ⟨c, fr, h, rfl⟩, fun _ _ h => .inl h, ?_, ?_, fun b' m hm => ⟨m, by rw [hvb]; exact hm, Nat.le_refl _, fun _ _ => rfl⟩⟩
    · intro j o h _
      rcases h with h | h
      · exact .inl h
      · exact .inr ⟨b, (hO _ _).2 h⟩
    · rintro j o ⟨b', _, h⟩ _; exact ⟨b', h⟩
  refine ⟨⟨?_, ?_, ?_, ?_, ?_, ?_⟩, e⟩
  · intro b' o h
    by_cases hbb : b' = b
    · subst hbb
      have : o = .dead ver := by
        have h' : (σ.H.set b' (.dead ver))[b']? = some o := h
        rw [hsetb] at h'; injection h' with h'; exact h'.symm
      subst this
      exact fun j p hp => hp.1 rfl
    · have h' : σ.H[b']? = some o := by rw [← hne b' hbb]; exact h
      exact (ok.objs b' o h').keep (e.mon ok) (fun j p => ⟨fun h => h.2, fun h => ⟨hbb, h⟩⟩) (St.vb_some h') (fun _ _ _ => rfl)
  · intro b' h j o ho
    exact ok.out b' (by rw [← hne b' ho.1]; exact h) j o ho.2
  · intro b1 b2 j o h h1 h2; exact ok.disj b1 b2 j o h h1.2 h2.2
  · intro b1 j o h1 h2
    rcases h2 with h2 | h2
    · exact ok.fz b1 j o h1.2 h2
    · exact h1.1 (ok.one h1.2 ((hO j o).2 h2))
  · intro b1 j o h; exact ok.lt b1 j o h.2
  · intro j o h
    rcases h with h | h
    · exact ok.ltf j o h
    · rw [h]; exact hlt

/-- A new block of any kind, owned whole. -/
def St.pushO (σ : St) (ob : Obj) (obj : AObj) : St where
  w := σ.w.alloc ob
  Fz := σ.Fz
  ι := fun b' v => if b' = σ.H.length ∧ v = 0 then σ.w.heap.size else σ.ι b' v
  O := fun b' j o => if b' = σ.H.length then j = σ.w.heap.size else σ.O b' j o
  H := σ.H ++ [obj]
theorem St.ok.pushO {σ : St} (ok : σ.ok) {ob : Obj} {obj : AObj} (hv : obj.ver = 0) (hobj : Mon σ (σ.pushO ob obj) → RepO (σ.pushO ob obj) σ.H.length obj) : (σ.pushO ob obj).ok ∧ Ext σ (σ.pushO ob obj) := by
  have hold : ∀ b', b' ≠ σ.H.length → (σ.H ++ [obj])[b']? = σ.H[b']? := by
    intro b' hb'
    rcases Nat.lt_or_ge b' σ.H.length with h | h
    · rw [List.getElem?_append_left h]
    · rw [List.getElem?_eq_none (by simp; omega), List.getElem?_eq_none h]
  have hb : (σ.H ++ [obj])[σ.H.length]? = some obj := by simp
  have e : Ext σ (σ.pushO ob obj) := by
    refine ⟨by show _ ≤ (σ.w.alloc _).heap.size; rw [size_push]; omega, rfl, rfl, rfl, fun j o hj _ => cell_push _ _ hj, fun j hj _ => heap_push_lt _ _ hj, fun j c T fr h => ⟨c, fr, heap_push_old h _, rfl⟩, fun j o h => h, fun j o h hj => .inl h, ?_, ?_⟩
    · rintro j o ⟨b', h⟩ hj
      simp only [St.pushO] at h
      split at h
      · omega
      · exact ⟨b', h⟩
    · intro b' m hm
      have hlt := St.vb_lt hm
      refine ⟨m, ?_, Nat.le_refl _, ?_⟩
      · show ((σ.H ++ [obj])[b']?).map AObj.ver = some m
        rw [hold b' (by omega)]; exact hm
      · intro v _
        simp only [St.pushO]
        rw [if_neg (by omega)]
  refine ⟨⟨?_, ?_, ?_, ?_, ?_, ?_⟩, e⟩
  · intro b' o h
    by_cases hbb : b' = σ.H.length
    · subst hbb
      have : o = obj := by
        have h' : (σ.H ++ [obj])[σ.H.length]? = some o := h
        rw [hb] at h'; injection h' with h'; exact h'.symm
      subst this
      exact hobj (e.mon ok)
    · have h' : σ.H[b']? = some o := by rw [← hold b' hbb]; exact h
      refine (ok.objs b' o h').keep (e.mon ok) ?_ (St.vb_some h') ?_
      · intro j p; simp only [St.pushO]; rw [if_neg hbb]
      · intro j p hp; exact heap_push_lt _ _ (ok.lt _ _ _ hp)
  · intro b' h j o ho
    have hbb : b' ≠ σ.H.length := by rintro rfl; have h' : (σ.H ++ [obj])[σ.H.length]? = none := h; rw [hb] at h'; cases h'
    simp only [St.pushO] at ho
    rw [if_neg hbb] at ho
    exact ok.out b' (by rw [← hold b' hbb]; exact h) j o ho
  · intro b1 b2 j o hne h1 h2
    simp only [St.pushO] at h1 h2
    split at h1
    · rename_i e1
      rw [if_neg (by omega)] at h2
      have := ok.lt _ _ _ h2
      omega
    · split at h2
      · have := ok.lt _ _ _ h1
        omega
      · exact ok.disj b1 b2 j o hne h1 h2
  · intro b1 j o h1 h2
    simp only [St.pushO] at h1 h2
    split at h1
    · have := ok.ltf _ _ h2
      omega
    · exact ok.fz b1 j o h1 h2
  · intro b1 j o h1
    show _ < (σ.w.alloc _).heap.size
    rw [size_push]
    simp only [St.pushO] at h1
    split at h1
    · omega
    · have := ok.lt _ _ _ h1; omega
  · intro j o h1
    show _ < (σ.w.alloc _).heap.size
    rw [size_push]
    have := ok.ltf _ _ h1; omega
/-- A map of the call's own is another one. -/
def St.setMap (σ : St) (b : Nat) (es : Array MapEntry) (clock : Nat) (ks vs : List V) : St where
  w := { σ.w with heap := σ.w.heap.setIfInBounds (σ.ι b 0) (.map es clock) }
  Fz := σ.Fz
  ι := σ.ι
  O := σ.O
  H := σ.H.set b (.map ks vs)
theorem St.ok.setMap {σ : St} (ok : σ.ok) {b : Nat} {ks0 vs0 : List V} (hb : σ.H[b]? = some (.map ks0 vs0)) {es : Array MapEntry} {clock : Nat} {ks vs : List V} {l : List MapEntry}
    (ho : MapOk es.toList clock) (hp : l.Perm es.toList) (hk : RepVs σ ks (l.map MapEntry.key)) (hv : RepVs σ vs (l.map MapEntry.val)) :
    (σ.setMap b es clock ks vs).ok ∧ Ext σ (σ.setMap b es clock ks vs) := by
  obtain ⟨es0, ck0, l0, g1, g2, g3, g4, g5, g6⟩ := ok.objs b _ hb
  have hblt : b < σ.H.length := (List.getElem?_eq_some_iff.1 hb).1
  have hne : ∀ b', b' ≠ b → (σ.H.set b (.map ks vs))[b']? = σ.H[b']? := fun b' h => List.getElem?_set_ne (Ne.symm h)
  have hsetb : (σ.H.set b (.map ks vs))[b]? = some (.map ks vs) := by simp [hblt]
  have hvb : ∀ b', (σ.setMap b es clock ks vs).vb b' = σ.vb b' := by
    intro b'
    by_cases h : b' = b
    · subst h; show ((σ.H.set b' _)[b']?).map _ = (σ.H[b']?).map _; rw [hsetb, hb]; rfl
    · show ((σ.H.set b _)[b']?).map _ = (σ.H[b']?).map _; rw [hne b' h]
  have hjlt : σ.ι b 0 < σ.w.heap.size := heap_lt g1
  have hold : ∀ j, j ≠ σ.ι b 0 → (σ.setMap b es clock ks vs).w.heap[j]? = σ.w.heap[j]? := fun j h => by
    show (σ.w.heap.setIfInBounds (σ.ι b 0) _)[j]? = _
    rw [Array.getElem?_setIfInBounds, if_neg (Ne.symm h)]
  have hnew : (σ.setMap b es clock ks vs).w.heap[σ.ι b 0]? = some (.map es clock) := by
    show (σ.w.heap.setIfInBounds (σ.ι b 0) _)[σ.ι b 0]? = _
    rw [Array.getElem?_setIfInBounds, if_pos rfl, if_pos hjlt]
  have hcell : ∀ j o, (σ.setMap b es clock ks vs).w.cell? ⟨j, o, none⟩ = σ.w.cell? ⟨j, o, none⟩ := by
    intro j o
    by_cases h : j = σ.ι b 0
    · subst h; simp only [World.cell?]; rw [hnew, g1]
    · simp only [World.cell?]; rw [hold j h]
  have hsize : (σ.setMap b es clock ks vs).w.heap.size = σ.w.heap.size := by show (σ.w.heap.setIfInBounds _ _).size = _; simp
  have e : Ext σ (σ.setMap b es clock ks vs) := by
    refine ⟨by omega, rfl, rfl, rfl, fun j o _ _ => hcell j o, fun j hj hn => hold j (by rintro rfl; exact hn 0 ⟨b, (g6 _ _).2 rfl⟩), fun j c T fr h => ⟨c, fr, by rw [hold j (by rintro rfl; rw [g1] at h; cases h)]; exact h, rfl⟩, fun _ _ h => h, fun _ _ h _ => .inl h, fun j o h _ => h, fun b' m hm => ⟨m, by rw [hvb]; exact hm, Nat.le_refl _, fun _ _ => rfl⟩⟩
  refine ⟨⟨?_, ?_, ok.disj, ok.fz, fun b j o h => by rw [hsize]; exact ok.lt b j o h, fun j o h => by rw [hsize]; exact ok.ltf j o h⟩, e⟩
  · intro b' o h
    by_cases hbb : b' = b
    · subst hbb
      have : o = .map ks vs := by
        have h' : (σ.H.set b' (.map ks vs))[b']? = some o := h
        rw [hsetb] at h'; injection h' with h'; exact h'.symm
      subst this
      exact ⟨es, clock, l, hnew, ho, hp, hk.mon (e.mon ok), hv.mon (e.mon ok), g6⟩
    · have h' : σ.H[b']? = some o := by rw [← hne b' hbb]; exact h
      refine (ok.objs b' o h').keep (e.mon ok) (fun _ _ => Iff.rfl) (St.vb_some h') (fun j p hp => hold j ?_)
      rintro rfl
      exact hbb (ok.one hp ((g6 _ 0).2 rfl))
  · intro b' h j o ho'
    have hbb : b' ≠ b := by rintro rfl; have h' : (σ.H.set b' (.map ks vs))[b']? = none := h; rw [hsetb] at h'; cases h'
    exact ok.out b' (by rw [← hne b' hbb]; exact h) j o ho'

/-! Elements cut of cells -/
theorem D.cells_of_leaf {d : D} (h : d.leaf = true) : d.cells = [d] := by cases d <;> simp [D.leaf] at h <;> rfl
theorem chunk_length (s : Nat) : ∀ (n : Nat) (l : List D), (chunk s n l).length = n
  | 0, _ => rfl
  | n + 1, l => by simp [chunk, chunk_length s n]
theorem chunk_cells (s : Nat) : ∀ (n : Nat) (l : List D), n * s ≤ l.length → (∀ d ∈ l, d.leaf = true) → ∀ x ∈ chunk s n l, x.cells.length = s
  | 0, _, _, _, x, h => by simp [chunk] at h
  | n + 1, l, hn, hl, x, h => by
    simp only [chunk, List.mem_cons] at h
    have hs : s ≤ l.length := by rw [Nat.succ_mul] at hn; omega
    rcases h with h | h
    · subst h
      split
      · cases l with
        | nil => simp at hs
        | cons d r => simp only [List.headD_cons]; rw [D.cells_of_leaf (hl d (by simp))]; rfl
      · simp [D.cells]; omega
    · exact chunk_cells s n (l.drop s) (by simp; rw [Nat.succ_mul] at hn; omega) (fun d hd => hl d (List.mem_of_mem_drop hd)) x h
theorem chunk_flat (s : Nat) : ∀ (n : Nat) (l : List D), n * s ≤ l.length → (∀ d ∈ l, d.leaf = true) → (chunk s n l).flatMap D.cells = l.take (n * s)
  | 0, _, _, _ => by simp [chunk]
  | n + 1, l, hn, hl => by
    have hs : s ≤ l.length := by rw [Nat.succ_mul] at hn; omega
    have ih := chunk_flat s n (l.drop s) (by simp; rw [Nat.succ_mul] at hn; omega) (fun d hd => hl d (List.mem_of_mem_drop hd))
    have e : ∀ x : D, x.cells = l.take s → (x :: chunk s n (l.drop s)).flatMap D.cells = l.take ((n + 1) * s) := by
      intro x hx
      rw [List.flatMap_cons, hx, ih, Nat.succ_mul, Nat.add_comm, List.take_add]
    simp only [chunk]
    apply e
    split
    · cases l with
      | nil => simp at hs
      | cons d r => simp only [List.headD_cons]; rw [D.cells_of_leaf (hl d (by simp))]; rfl
    · rfl

/-- What is promised of a way to make data. -/
def FrzOk (f : Frz) : Prop := ∀ (σ : St) (v : V) (x : Value) (d : D) (H' : AHeap), σ.ok → RepV σ v x → f σ.H v = some (d, H') →
  ∃ τ : St, τ.w = σ.w ∧ τ.H = H' ∧ τ.ok ∧ Ext σ τ ∧ RepD τ.w τ.Fz d x ∧ (v.leaf = true → d.leaf = true)
theorem frzs_sound {f : Frz} (hf : FrzOk f) : ∀ (l : List V) (vs : List Value) (ds : List D) (σ : St) (H' : AHeap), σ.ok → RepVs σ l vs → frzs f σ.H l = some (ds, H') →
    ∃ τ : St, τ.w = σ.w ∧ τ.H = H' ∧ τ.ok ∧ Ext σ τ ∧ RepDs τ.w τ.Fz ds vs ∧ ((∀ y ∈ l, y.leaf = true) → ∀ y ∈ ds, y.leaf = true)
  | [], _, _, σ, _, ok, .nil, h => by
    injection h with h; injection h with h1 h2; subst h1; subst h2
    exact ⟨σ, rfl, rfl, ok, .refl σ, .nil, by simp⟩
  | v :: r, _, _, σ, H', ok, .cons (v := x) hv ht, h => by
    simp only [frzs] at h
    split at h
    · rename_i d H1 h1
      split at h
      · rename_i ds H2 h2
        injection h with h; injection h with p1 p2; subst p1; subst p2
        obtain ⟨τ, a1, a2, a3, a4, a5, a6⟩ := hf σ v x d H1 ok hv h1
        have ht' := ht.mon (a4.mon ok)
        rw [← a2] at h2
        obtain ⟨τ2, b1, b2, b3, b4, b5, b6⟩ := frzs_sound hf r _ ds τ H2 a3 ht' h2
        refine ⟨τ2, b1.trans a1, b2, b3, a4.trans b4, .cons ((b4.mon a3).repD a5) b5, fun hl y hy => ?_⟩
        rcases List.mem_cons.1 hy with rfl | hy
        · exact a6 (hl v (by simp))
        · exact b6 (fun z hz => hl z (by simp [hz])) y hy
      · cases h
    · cases h
theorem frzB_sound {f : Frz} (hf : FrzOk f) {σ : St} (ok : σ.ok) {b ver : Nat} {ds : List D} {H' : AHeap} (h : frzB f σ.H b ver = some (ds, H')) :
    ∃ τ : St, τ.w = σ.w ∧ τ.H = H' ∧ τ.ok ∧ Ext σ τ ∧ (∀ o, τ.Fz (σ.ι b ver) o) ∧ ∃ c T fr, σ.w.heap[σ.ι b ver]? = some (.cells c T fr) ∧ ds.length ≤ c.size ∧
      RepDs τ.w τ.Fz ds (c.toList.take ds.length) ∧ ∀ y ∈ ds, y.leaf = true := by
  unfold frzB at h
  split at h
  · rename_i lz cs ho
    split at h
    · rename_i ds' H1 h1
      split at h
      · rename_i q ho2
        injection h with h; injection h with p1 p2; subst p1; subst p2
        obtain ⟨hH, c, T, fr, hh, hsz, hr, _, hl, hO⟩ := ok.cellsAt ho
        obtain ⟨τ1, a1, a2, a3, a4, a5, a6⟩ := frzs_sound hf cs _ ds' σ H1 ok hr h1
        rw [← a2] at ho2
        obtain ⟨lz2, cs2⟩ := q
        obtain ⟨hH2, c2, T2, fr2, hh2, _, _, _, _, hO2⟩ := a3.cellsAt ho2
        have hι : τ1.ι b ver = σ.ι b ver := by
          obtain ⟨m', _, _, e⟩ := a4.ids b ver (St.vb_some hH)
          exact e ver (Nat.le_refl _)
        obtain ⟨b1, b2⟩ := a3.froze hH2 rfl hO2
        have hlen : ds'.length = cs.length := by have := a5.length; simp at this; omega
        refine ⟨τ1.froze b ver, a1, by rw [← a2]; rfl, b1, a4.trans b2, fun o => .inr hι.symm, c, T, fr, hh, by omega, ?_, a6 hl⟩
        rw [hlen]
        exact (b2.mon a3).repDs a5
      · cases h
    · cases h
  · cases h
theorem cells_at {w : World} {Fz : Cells} {j off n : Nat} {c : Array Value} {T : TypeId} {fr : Nat × Nat} (hh : w.heap[j]? = some (.cells c T fr)) (hF : ∀ o, Fz j o) :
    CellsAt w Fz j off ((c.toList.take n).drop off) := by
  intro i v hi
  refine ⟨hF _, ?_⟩
  rw [cell_of hh]
  rw [List.getElem?_drop, List.getElem?_take] at hi
  split at hi
  · simpa using hi
  · cases hi
theorem CellsAt.some {w : World} {Fz : Cells} {j off : Nat} {vs : List Value} (h : CellsAt w Fz j off vs) (n : Nat) : CellsAt w Fz j off (vs.take n) := by
  intro i v hi
  rw [List.getElem?_take] at hi
  split at hi
  · exact h i v hi
  · cases hi
theorem frzSl_sound {f : Frz} (hf : FrzOk f) {σ : St} (ok : σ.ok) {b ver off len s : Nat} {full : Bool} {x : Value} {d : D} {H' : AHeap}
    (h0 : len = 0 → ∃ a c, x = .slice a 0 c ∧ (full = true → c = 0)) (h1 : 0 < len → ∃ c, x = .slice (some ⟨σ.ι b ver, off, none⟩) len c ∧ len ≤ c ∧ (full = true → c = len))
    (h : frzSl f σ.H b ver off len s full = some (d, H')) : ∃ τ : St, τ.w = σ.w ∧ τ.H = H' ∧ τ.ok ∧ Ext σ τ ∧ RepD τ.w τ.Fz d x ∧ d.leaf = true := by
  unfold frzSl at h
  split at h
  · injection h with h; injection h with p1 p2; subst p1; subst p2
    obtain ⟨a, c, rfl, hc⟩ := h0 rfl
    exact ⟨σ, rfl, rfl, ok, .refl σ, .sl0 hc, rfl⟩
  · rename_i n
    split at h
    · rename_i ds H1 hb
      split at h
      · rename_i hle
        injection h with h; injection h with p1 p2; subst p1; subst p2
        have hle := Nat.le_of_ble_eq_true hle
        obtain ⟨τ, t1, t2, t3, t4, t5, c0, T, fr, t6, t7, t8, t9⟩ := frzB_sound hf ok hb
        obtain ⟨c, rfl, hc1, hc2⟩ := h1 (by omega)
        have hlf : ∀ y ∈ ds.drop off, y.leaf = true := fun y hy => t9 y (List.mem_of_mem_drop hy)
        have hdl : (n + 1) * s ≤ (ds.drop off).length := by simp; omega
        have hfl := chunk_flat s (n + 1) (ds.drop off) hdl hlf
        refine ⟨τ, t1, t2, t3, t4, ?_, rfl⟩
        have := RepD.sl (w := τ.w) (Fz := τ.Fz) (xs := chunk s (n + 1) (ds.drop off)) (full := full) (b := σ.ι b ver) (off := off) (c := c) (s := s) (vs := ((c0.toList.take ds.length).drop off).take ((n + 1) * s))
          (by rw [chunk_length]; exact hc1) (by rw [chunk_length]; exact hc2) (chunk_cells s _ _ hdl hlf) (by rw [hfl]; exact fun y hy => hlf y (List.mem_of_mem_take hy))
          ((cells_at (by rw [t1]; exact t6) t5).some _) (by rw [hfl]; exact (t8.drop off).take _)
        rw [chunk_length] at this
        exact this
      · cases h
    · cases h
theorem frz_ok : ∀ n, FrzOk (frz n)
  | 0 => fun σ v x d H' _ _ h => by cases h
  | n + 1 => by
    intro σ v x d H' ok hv h
    have ih := frz_ok n
    simp only [frz] at h
    have one : ∀ {d1 : D}, some (d1, σ.H) = some (d, H') → RepD σ.w σ.Fz d1 x → (v.leaf = true → d1.leaf = true) → ∃ τ : St, τ.w = σ.w ∧ τ.H = H' ∧ τ.ok ∧ Ext σ τ ∧ RepD τ.w τ.Fz d x ∧ (v.leaf = true → d.leaf = true) := by
      intro d1 h hd hl
      injection h with h; injection h with p1 p2; subst p1; subst p2
      exact ⟨σ, rfl, rfl, ok, .refl σ, hd, hl⟩
    split at h
    · cases hv with
      | p hv => exact one h hv (fun h => h)
    · exact one h (hv.toD rfl) (fun _ => rfl)
    · rename_i b ver off len s full
      obtain ⟨τ, q1, q2, q3, q4, q5, q6⟩ := frzSl_sound (x := x) ih ok (fun h0 => by
        cases hv with
        | own hid hc hf => exact ⟨_, _, by rw [h0], by rw [h0] at hf; exact hf⟩
        | own0 hid hf => exact ⟨_, _, rfl, hf⟩) (fun h0 => by
        cases hv with
        | own hid hc hf => exact ⟨_, rfl, hc, hf⟩
        | own0 hid hf => omega) h
      exact ⟨τ, q1, q2, q3, q4, q5, fun _ => q6⟩
    · rename_i b ver off len s
      obtain ⟨τ, q1, q2, q3, q4, q5, q6⟩ := frzSl_sound (x := x) ih ok (fun h0 => by
        cases hv with
        | row hid hc hf => exact ⟨_, _, by rw [h0], by simp⟩
        | row0 hid hf => exact ⟨_, _, rfl, by simp⟩) (fun h0 => by
        cases hv with
        | row hid hc hf => exact ⟨_, rfl, hc, by simp⟩
        | row0 hid hf => omega) h
      exact ⟨τ, q1, q2, q3, q4, q5, fun _ => q6⟩
    · rename_i b ver off
      split at h
      · rename_i ds H1 hb
        injection h with h; injection h with p1 p2; subst p1; subst p2
        obtain ⟨τ, t1, t2, t3, t4, t5, c0, T, fr, t6, t7, t8, t9⟩ := frzB_sound ih ok hb
        cases hv with
        | ptr hid =>
          exact ⟨τ, t1, t2, t3, t4, .rp (fun y hy => t9 y (List.mem_of_mem_drop hy)) (cells_at (by rw [t1]; exact t6) t5) (t8.drop off), fun _ => rfl⟩
      · cases h
    · split at h
      · rename_i l ds H1 hb
        injection h with h; injection h with p1 p2; subst p1; subst p2
        cases hv with
        | agg hl hs =>
          obtain ⟨τ, t1, t2, t3, t4, t5, t6⟩ := frzs_sound ih _ _ _ σ _ ok hs hb
          exact ⟨τ, t1, t2, t3, t4, .agg (t6 hl) t5, fun h => by simp [V.leaf] at h⟩
      · cases h
    · split at h
      · rename_i l ds H1 hb
        injection h with h; injection h with p1 p2; subst p1; subst p2
        cases hv with
        | fn hs =>
          obtain ⟨τ, t1, t2, t3, t4, t5, t6⟩ := frzs_sound ih _ _ _ σ _ ok hs hb
          exact ⟨τ, t1, t2, t3, t4, .fn t5, fun h => rfl⟩
      · cases h
    · split at h
      · rename_i l ds H1 hb
        injection h with h; injection h with p1 p2; subst p1; subst p2
        cases hv with
        | tup hs =>
          obtain ⟨τ, t1, t2, t3, t4, t5, t6⟩ := frzs_sound ih _ _ _ σ _ ok hs hb
          exact ⟨τ, t1, t2, t3, t4, .tup t5, fun h => by simp [V.leaf] at h⟩
      · cases h
    · rename_i b
      split at h
      · rename_i ks vs ho
        split at h
        · rename_i dk H1 hk
          split at h
          · rename_i dv H2 hvv
            split at h
            · rename_i ks2 vs2 ho2
              injection h with h; injection h with p1 p2; subst p1; subst p2
              obtain ⟨es, ck, l, g1, g2, g3, g4, g5, g6⟩ := ok.objs b _ ho
              obtain ⟨τ1, a1, a2, a3, a4, a5, a6⟩ := frzs_sound ih _ _ _ σ _ ok g4 hk
              rw [← a2] at hvv
              obtain ⟨τ2, b1, b2, b3, b4, b5, b6⟩ := frzs_sound ih _ _ _ τ1 _ a3 (g5.mon (a4.mon ok)) hvv
              rw [← b2] at ho2
              obtain ⟨es2, ck2, l2, f1, f2, f3, f4, f5, f6⟩ := b3.objs b _ ho2
              obtain ⟨c1, c2⟩ := b3.froze ho2 rfl f6
              have hι : τ2.ι b 0 = σ.ι b 0 := by
                obtain ⟨m', _, _, e⟩ := (a4.trans b4).ids b 0 (St.vb_some ho)
                exact e 0 (Nat.le_refl _)
              cases hv with
              | mp hid =>
                refine ⟨τ2.froze b 0, b1.trans a1, by rw [← b2]; rfl, c1, (a4.trans b4).trans c2, ?_, fun _ => rfl⟩
                refine .mp l (fun o => .inr hι.symm) ?_ g2 g3 rfl rfl ((c2.mon b3).repDs ((b4.mon a3).repDs a5)) ((c2.mon b3).repDs b5)
                show τ2.w.heap[_]? = _
                rw [b1, a1]; exact g1
            · cases h
          · cases h
        · cases h
      · cases h
    · cases h
    · cases h
    · cases h
theorem frzA_sound {σ : St} (ok : σ.ok) {l : List V} {vs : List Value} {ds : List D} {K : AHeap} (h : frzA σ.H l = some (ds, K)) (hr : RepVs σ l vs) :
    ∃ τ : St, τ.w = σ.w ∧ τ.H = K ∧ τ.ok ∧ Ext σ τ ∧ RepDs τ.w τ.Fz ds vs := by
  obtain ⟨τ, t1, t2, t3, t4, t5, _⟩ := frzs_sound (frz_ok 40) l vs ds σ K ok hr h
  exact ⟨τ, t1, t2, t3, t4, t5⟩
end Go.Abs
