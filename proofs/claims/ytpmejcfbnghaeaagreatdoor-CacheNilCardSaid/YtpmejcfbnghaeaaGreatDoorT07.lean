/- Soundness of append. -/
import Derived.Test.YtpmejcfbnghaeaaGreatDoorT06
namespace Go.Abs
set_option linter.unusedVariables false
set_option linter.unusedSimpArgs false
section
variable {C : Ctx} {σ : St}

/-- What is appended: as many cells, loaded where they lie. -/
theorem appended_run {P : Program} {x : V} {xv : Value} (hx : RepV σ x xv) {ys : List D} (h : appended x = some ys) {s : Nat} (hs : ∀ y ∈ ys, y.cells.length = s) :
    ∃ vs, (Builtin.lenOf xv).run P σ.w = .ok ys.length σ.w ∧ (Builtin.firstCells s ys.length xv).run P σ.w = .ok ⟨vs⟩ σ.w ∧ RepDs σ.w σ.Fz (ys.flatMap D.cells) vs ∧ (∀ d ∈ ys.flatMap D.cells, d.leaf = true) ∧
      ∀ w' n, (∀ j p, σ.Fz j p → w'.cell? ⟨j, p, none⟩ = σ.w.cell? ⟨j, p, none⟩) → n = ys.length → (Builtin.firstCells s n xv).run P w' = .ok ⟨vs⟩ w' := by
  have sl : ∀ {b off c : Nat} {vs : List Value}, CellsAt σ.w σ.Fz b off vs → RepDs σ.w σ.Fz (ys.flatMap D.cells) vs → ∀ w', (∀ j p, σ.Fz j p → w'.cell? ⟨j, p, none⟩ = σ.w.cell? ⟨j, p, none⟩) →
      (Builtin.firstCells s ys.length (.slice (some ⟨b, off, none⟩) ys.length c)).run P w' = .ok ⟨vs⟩ w' := by
    intro b off c vs hr hd w' hw
    have hlen : vs.length = ys.length * s := by rw [hd.length, flat_length hs]
    simp only [Builtin.firstCells]
    rw [← hlen]
    exact run_loadCells_list w' ⟨b, off, none⟩ vs (fun j v hj => by rw [add_at, hw _ _ (hr j v hj).1]; exact (hr j v hj).2)
  unfold appended at h
  split at h
  · injection h with h; subst h
    cases hx with
    | p hx => cases hx with
      | sl hc hf hs' hl hr hd => exact ⟨_, rfl, sl hr hd σ.w (fun _ _ _ => rfl), hd, hl, fun w' n hw hn => by subst hn; exact sl hr hd w' hw⟩
      | @sl0 a0 c _ hf =>
        refine ⟨[], rfl, ?_, .nil, by simp, fun w' n _ hn => ?_⟩
        · cases a0 <;> simp [Builtin.firstCells, loadCells, loadCellsFrom]
        · subst hn; cases a0 <;> simp [Builtin.firstCells, loadCells, loadCellsFrom]
  · injection h with h; subst h
    cases hx with
    | vec hid hc hs' hl hr hd hb => exact ⟨_, rfl, sl hr hd σ.w (fun _ _ _ => rfl), hd, hl, fun w' n hw hn => by subst hn; exact sl hr hd w' hw⟩
    | @vec0 _ _ a0 hid =>
      refine ⟨[], rfl, ?_, .nil, by simp, fun w' n _ hn => ?_⟩
      · cases a0 <;> simp [Builtin.firstCells, loadCells, loadCellsFrom]
      · subst hn; cases a0 <;> simp [Builtin.firstCells, loadCells, loadCellsFrom]
  · rename_i z
    injection h with h; subst h
    obtain rfl := lit_str hx
    have hfl : ∀ l : List UInt8, (l.map byteV).flatMap D.cells = l.map byteV := by
      intro l; induction l with
      | nil => rfl
      | cons b r ih => simp only [List.map_cons, List.flatMap_cons, ih]; rfl
    have hrep : RepDs σ.w σ.Fz (z.data.toList.map byteV) (z.data.toList.map fun b => .int .u8 (b.toNat : Int)) := repDs_map _ fun b _ => .lit rfl
    have hex : z.extract 0 z.size = z := by
      apply ByteArray.ext
      simp
    have hrun : ∀ w', (Builtin.firstCells s z.size (.string z)).run P w' = .ok ⟨z.data.toList.map fun b => .int .u8 (b.toNat : Int)⟩ w' := by
      intro w'
      simp only [Builtin.firstCells, hex, Sem.run_pure]
      congr 1
      apply Array.ext'
      simp
    refine ⟨z.data.toList.map fun b => .int .u8 (b.toNat : Int), by simp [Builtin.lenOf], by simpa using hrun σ.w, by rw [hfl]; exact hrep, ?_, fun w' n _ hn => by subst hn; simpa using hrun w'⟩
    rw [hfl]
    intro d hd
    obtain ⟨b, _, rfl⟩ := List.mem_map.1 hd
    rfl
  · cases h
theorem not_int {d : TypeDesc} (h : ∀ k, descKind d ≠ .int k) : (match d with | .int _ => true | _ => false) = false := by
  cases d <;> first | rfl | exact absurd rfl (h _)
theorem growBy_le (need : Nat) : ∀ (r c : Nat), Builtin.growBy need r c ≤ max c (need + (need + 768) / 4)
  | 0, c => by simp only [Builtin.growBy]; omega
  | r + 1, c => by
    simp only [Builtin.growBy]
    split
    · omega
    · have := growBy_le need r (c + (c + 768) / 4)
      omega
theorem nextcap_le {need cap : Nat} (h : cap < need) : Builtin.nextslicecap need cap ≤ 2 * need + 1024 := by
  unfold Builtin.nextslicecap
  split
  · omega
  · split
    · omega
    · have := growBy_le need 4 cap; omega
theorem room_le {ti : TI} {n : Nat} (h : room ti n = true) {cap : Nat} (hc : cap < n) : ¬ (Builtin.nextslicecap n cap * ti.bytes > 2 ^ 48) ∧ n ≤ 70368744177664 := by
  simp only [room, decide_eq_true_eq] at h
  have h1 := nextcap_le hc
  have h2 : Builtin.nextslicecap n cap * ti.bytes ≤ (2 * n + 1024) * ti.bytes := Nat.mul_le_mul_right _ h1
  have h3 : (2 * n + 1024) * ti.bytes = 2 * (n * ti.bytes) + 1024 * ti.bytes := by rw [Nat.add_mul, Nat.mul_assoc]
  have h4 : n * (ti.bytes + 1) = n * ti.bytes + n := by rw [Nat.mul_add, Nat.mul_one]
  constructor
  · omega
  · omega
/-- An append that grows: a new block. -/
theorem grow_run {P : Program} {w : World} {t u ty el : Nat} {ti : TI} (hu : P.underlying t = some (.slice el)) (ht : TyAt P el ti) (huu : (∃ e', P.underlying u = some (.slice e')) ∨ P.underlying u = some .string)
    {base : Option Addr} {sLen sCap n : Nat} {xv : Value} {olds news : List Value} (hlen : (Builtin.lenOf xv).run P w = .ok n w) (hlt : sCap < sLen + n) (hroom : room ti (sLen + n) = true)
    (hold : (Builtin.firstCells ti.size sLen (.slice base sLen sCap)).run P w.drew = .ok ⟨olds⟩ w.drew) (hnew : (Builtin.firstCells ti.size n xv).run P w.drew = .ok ⟨news⟩ w.drew)
    (ho : olds.length = sLen * ti.size) (hn : news.length = n * ti.size) :
    ∃ cap rest, sLen + n ≤ cap ∧ (olds ++ news ++ rest).length = cap * ti.size ∧
      (Builtin.append_ #[t, u] ty #[.slice base sLen sCap, xv]).run P w = .ok (.slice (some ⟨w.heap.size, 0, none⟩) (sLen + n) cap) (w.drew.alloc (.cells ⟨olds ++ news ++ rest⟩ el)) := by
  obtain ⟨inf, i1, i2, i3, i4⟩ := ht.info
  obtain ⟨r1, r2⟩ := room_le hroom hlt
  have hz := zeroOf_cells ht
  have hzs : (zeroOf ti).cells.size = ti.size := by rw [← Array.length_toList, hz]; simp [ht.zs]
  let cap := grownCap w (sLen + n) sCap el
  have hcap : sLen + n ≤ cap := grownCap_ge _ _ _ _
  refine ⟨cap, (Builtin.zeroCells (zeroOf ti).cells (cap - (sLen + n))).toList, hcap, ?_, ?_⟩
  · simp only [List.length_append, ho, hn, Array.length_toList, size_zeroCells, hzs]
    rw [← Nat.add_mul, ← Nat.add_mul]; congr 1; omega
  · have harr : (⟨olds⟩ ++ ⟨news⟩ ++ Builtin.zeroCells (zeroOf ti).cells (cap - (sLen + n)) : Array Value) = ⟨olds ++ news ++ (Builtin.zeroCells (zeroOf ti).cells (cap - (sLen + n))).toList⟩ := Array.ext' (by simp)
    have n1 : ¬ (sLen + n ≤ sCap) := by omega
    have n2 : ¬ ((9223372036854775807 : Int) < (sLen : Int) + n) := by omega
    have n3 : ¬ (2 ^ 48 < Builtin.nextslicecap (sLen + n) sCap * ti.bytes) := by omega
    have hch : (choose (.appendCap (sLen + n) sCap el)).run P w = .ok cap w.drew := by
      rw [run_choose_drew]; rfl
    have hmax : IntKind.i64.max = 9223372036854775807 := rfl
    have n3' : ¬ (281474976710656 < Builtin.nextslicecap (sLen + n) sCap * ti.bytes) := n3
    rcases huu with ⟨e', huu⟩ | huu
    all_goals
      simp [Builtin.append_, run_underlying hu, run_underlying huu, ht.run_size, hlen, typeInfo, i1, i3, n1, n2, hmax, n3', hch, hold, hnew, ht.run_zero, newRow, -World.alloc_eq, -World.drew_eq, -run_choose, -run_choose_drew]
      exact congrArg (fun c => w.drew.alloc (.cells c el)) (Array.ext' (by simp))
/-- An append that has room. -/
theorem room_run {P : Program} {w w' : World} {t u ty el : Nat} {ti : TI} (hu : P.underlying t = some (.slice el)) (ht : TyAt P el ti) (huu : (∃ e', P.underlying u = some (.slice e')) ∨ P.underlying u = some .string)
    {base : Option Addr} {sLen sCap n : Nat} {xv : Value} {news : List Value} (hlen : (Builtin.lenOf xv).run P w = .ok n w) (hle : sLen + n ≤ sCap)
    (hnew : (Builtin.firstCells ti.size n xv).run P w = .ok ⟨news⟩ w)
    (hst : match base with
      | some ad => (storeCells (ad.add (sLen * ti.size)) news).run P w = .ok () w'
      | none => w' = w) :
    (Builtin.append_ #[t, u] ty #[.slice base sLen sCap, xv]).run P w = .ok (.slice base (sLen + n) sCap) w' := by
  rcases huu with ⟨e', huu⟩ | huu
  all_goals
    cases base with
    | none =>
      simp only at hst; subst hst
      simp [Builtin.append_, run_underlying hu, run_underlying huu, ht.run_size, hlen, hle, hnew]
    | some ad =>
      simp only at hst
      simp [Builtin.append_, run_underlying hu, run_underlying huu, ht.run_size, hlen, hle, hnew, hst]

/-- Cells behind a row's elements are written; they never change from then on. -/
def St.grow (σ : St) (b T s n m : Nat) (vs : List Value) : St where
  w := σ.w.setCells (σ.ι b n) (n * s) vs
  Fz := fun j o => σ.Fz j o ∨ (j = σ.ι b n ∧ n * s ≤ o ∧ o < m * s)
  ι := fun b' v => if b' = b ∧ v = m then σ.ι b n else σ.ι b' v
  O := fun b' j o => if b' = b then j = σ.ι b n ∧ m * s ≤ o else σ.O b' j o
  H := σ.H.set b (.tok T s m)
theorem St.ok.grow {P : Program} (ok : σ.ok) {b s n m k : Nat} {vs : List Value} {T0 : Nat} (hb : σ.H[b]? = some (.tok T0 s n)) (hnm : n < m) {c : Array Value} {T : TypeId} {fr : Nat × Nat}
    (hh : σ.w.heap[σ.ι b n]? = some (.cells c T fr)) (hc : c.size = k * s) (hmk : m ≤ k) (hfr' : fr.1 = fr.2 ∨ fr.2 ≤ n * s) (hO : ∀ j o, σ.O b j o ↔ (j = σ.ι b n ∧ n * s ≤ o))
    (hvs : vs.length = (m - n) * s) (h1 : ∀ v ∈ vs, v.oneCell' = true) :
    (storeCells ⟨σ.ι b n, n * s, none⟩ vs).run P σ.w = .ok () (σ.grow b T s n m vs).w ∧ (σ.grow b T s n m vs).ok ∧ Ext σ (σ.grow b T s n m vs) ∧ CellsAt (σ.grow b T s n m vs).w (σ.grow b T s n m vs).Fz (σ.ι b n) (n * s) vs := by
  have hfr : ∀ i, n * s ≤ i → i < c.size → ¬ (fr.1 ≤ i ∧ i < fr.2) := by intro i h1 h2; omega
  have hend : n * s + vs.length = m * s := by rw [hvs, ← Nat.add_mul]; congr 1; omega
  have hmc : m * s ≤ c.size := by rw [hc]; exact Nat.mul_le_mul_right _ hmk
  have hns : n * s ≤ m * s := Nat.mul_le_mul_right _ (by omega)
  have hrun : (storeCells ⟨σ.ι b n, n * s, none⟩ vs).run P σ.w = .ok () (σ.grow b T s n m vs).w := by
    have := run_storeCells_cells (P := P) (σ.ι b n) (n * s) vs 0 σ.w (fun j hj => by
      rw [cell_of hh]; simp; omega) (fun j hj => by
      rw [frozen_of hh]
      have := hfr (n * s + 0 + j) (by omega) (by omega)
      simp only [Bool.and_eq_false_iff, decide_eq_false_iff_not]
      omega) h1
    simpa [St.grow] using this
  have hblt : b < σ.H.length := (List.getElem?_eq_some_iff.1 hb).1
  have hset : ∀ b', b' ≠ b → (σ.H.set b (.tok T s m))[b']? = σ.H[b']? := fun b' h => List.getElem?_set_ne (Ne.symm h)
  have hsetb : (σ.H.set b (.tok T s m))[b]? = some (.tok T s m) := by simp [hblt]
  have hnew : (σ.grow b T s n m vs).w.heap[σ.ι b n]? = some (.cells (putCells c (n * s) vs) T fr) := heap_setCells_same _ _ _ _ hh
  have e : Ext σ (σ.grow b T s n m vs) := by
    refine ⟨by simp [St.grow, size_setCells], (os_setCells ..).1, (os_setCells ..).2.1, (os_setCells ..).2.2, ?_, ?_, ?_, fun j o h => .inl h, ?_, ?_, ?_⟩
    · intro j o hj hn
      by_cases hjj : j = σ.ι b n
      · subst hjj
        have ho : ¬ (n * s ≤ o) := fun h => hn ⟨b, (hO _ _).2 ⟨rfl, h⟩⟩
        rw [cell_of hnew, cell_of hh, putCells_at _ _ _ _ (by omega)]
      · simp only [World.cell?]
        rw [show (σ.grow b T s n m vs).w.heap[j]? = σ.w.heap[j]? from heap_setCells_ne _ _ _ _ hjj]
    · intro j hj hn
      exact heap_setCells_ne _ _ _ _ (by rintro rfl; exact hn (n * s) ⟨b, (hO _ _).2 ⟨rfl, Nat.le_refl _⟩⟩)
    · intro j c' T' fr' h
      by_cases hj : j = σ.ι b n
      · subst hj
        rw [hh] at h; injection h with h; injection h with h1 h2 h3; subst h1; subst h2; subst h3
        exact ⟨_, _, hnew, size_putCells _ _ _⟩
      · exact ⟨c', fr', by rw [show (σ.grow b T s n m vs).w.heap[j]? = σ.w.heap[j]? from heap_setCells_ne _ _ _ _ hj]; exact h, rfl⟩
    · intro j o h hj
      rcases h with h | ⟨rfl, h, _⟩
      · exact .inl h
      · exact .inr ⟨b, (hO _ _).2 ⟨rfl, h⟩⟩
    · rintro j o ⟨b', h⟩ hj
      simp only [St.grow] at h
      split at h
      · exact ⟨b, (hO _ _).2 ⟨h.1, by omega⟩⟩
      · exact ⟨b', h⟩
    · intro b' q hq
      by_cases hbb : b' = b
      · subst hbb
        have : q = n := by have := St.vb_some hb; rw [hq] at this; injection this
        subst this
        refine ⟨m, ?_, by omega, fun v hv => ?_⟩
        · show ((σ.H.set b' (.tok T s m))[b']?).map _ = _
          rw [hsetb]; rfl
        · simp only [St.grow]; rw [if_neg (by omega)]
      · refine ⟨q, ?_, Nat.le_refl _, fun v _ => ?_⟩
        · show ((σ.H.set b (.tok T s m))[b']?).map _ = _
          rw [hset b' hbb]; exact hq
        · simp only [St.grow]; rw [if_neg (fun h => hbb h.1)]
  refine ⟨hrun, ⟨?_, ?_, ?_, ?_, ?_, ?_⟩, e, ?_⟩
  · intro b' o h
    by_cases hbb : b' = b
    · subst hbb
      have : o = .tok T s m := by
        have h' : (σ.H.set b' (.tok T s m))[b']? = some o := h
        rw [hsetb] at h'; injection h' with h'; exact h'.symm
      subst this
      refine .inr ⟨putCells c (n * s) vs, fr, k, ?_, by rw [size_putCells]; exact hc, ⟨by omega, hmk⟩, (by omega), fun j o => ?_⟩
      · simp only [St.grow, and_self, if_true]; exact hnew
      · simp only [St.grow, and_self, if_true]
    · have h' : σ.H[b']? = some o := by rw [← hset b' hbb]; exact h
      refine (ok.objs b' o h').keep (e.mon ok) ?_ (St.vb_some h') (fun j p hp => heap_setCells_ne _ _ _ _ ?_)
      · intro j p; simp only [St.grow]; rw [if_neg hbb]
      · rintro rfl
        exact hbb (ok.one hp ((hO _ (n * s)).2 ⟨rfl, Nat.le_refl _⟩))
  · intro b' h j o ho'
    have hbb : b' ≠ b := by rintro rfl; have h' : (σ.H.set b' (.tok T s m))[b']? = none := h; rw [hsetb] at h'; cases h'
    simp only [St.grow] at ho'
    rw [if_neg hbb] at ho'
    refine ok.out b' ?_ j o ho'
    rw [← hset b' hbb]; exact h
  · intro b1 b2 j o hne h1' h2'
    simp only [St.grow] at h1' h2'
    split at h1'
    · rename_i e1
      rw [if_neg (by omega)] at h2'
      subst e1
      exact ok.disj b1 b2 j o hne ((hO _ _).2 ⟨h1'.1, by omega⟩) h2'
    · split at h2'
      · rename_i e2
        subst e2
        exact ok.disj b1 b2 j o hne h1' ((hO _ _).2 ⟨h2'.1, by omega⟩)
      · exact ok.disj b1 b2 j o hne h1' h2'
  · intro b1 j o h1' h2'
    simp only [St.grow] at h1' h2'
    split at h1'
    · rcases h2' with h2' | ⟨_, _, h2'⟩
      · exact ok.fz b j o ((hO _ _).2 ⟨h1'.1, by omega⟩) h2'
      · omega
    · rename_i hb1
      rcases h2' with h2' | ⟨h3, h4, _⟩
      · exact ok.fz b1 j o h1' h2'
      · subst h3
        exact ok.disj b1 b _ o hb1 h1' ((hO _ _).2 ⟨rfl, h4⟩)
  · intro b1 j o h1'
    rw [show (σ.grow b T s n m vs).w.heap.size = σ.w.heap.size from size_setCells ..]
    simp only [St.grow] at h1'
    split at h1'
    · rw [h1'.1]; exact heap_lt hh
    · exact ok.lt b1 j o h1'
  · intro j o h1'
    rw [show (σ.grow b T s n m vs).w.heap.size = σ.w.heap.size from size_setCells ..]
    rcases h1' with h1' | ⟨h1', _⟩
    · exact ok.ltf j o h1'
    · rw [h1']; exact heap_lt hh
  · intro i v hi
    have hil : i < vs.length := (List.getElem?_eq_some_iff.1 hi).1
    refine ⟨.inr ⟨rfl, by omega, by omega⟩, ?_⟩
    rw [cell_of hnew, ← Array.getElem?_toList, putCells_toList _ _ _ (by omega), List.getElem?_append_left (by simp; omega), List.getElem?_append_right (by simp; omega)]
    rw [show (c.toList.take (n * s)).length = n * s by simp; omega, Nat.add_sub_cancel_left]
    exact hi

/-- The right to append, where nothing lies yet. -/
theorem push_virtual (ok : σ.ok) (T s : Nat) : let τ : St := { σ with H := σ.H ++ [.tok T s 0] }; τ.ok ∧ Ext σ τ ∧ τ.has σ.H.length 0 := by
  intro τ
  have hlt : ∀ (b : Nat) (o : AObj), σ.H[b]? = some o → τ.H[b]? = some o := by
    intro b o h
    show (σ.H ++ [AObj.tok T s 0])[b]? = _
    rw [List.getElem?_append_left (List.getElem?_eq_some_iff.1 h).1]; exact h
  have hlast : τ.H[σ.H.length]? = some (.tok T s 0) := by show (σ.H ++ [AObj.tok T s 0])[σ.H.length]? = _; simp
  have e : Ext σ τ := ⟨Nat.le_refl _, rfl, rfl, rfl, fun _ _ _ _ => rfl, fun _ _ _ => rfl, fun _ c T fr h => ⟨c, fr, h, rfl⟩, fun _ _ h => h, fun _ _ h _ => .inl h, fun _ _ h _ => h, fun b m h => by
    unfold St.vb at h
    cases hb : σ.H[b]? with
    | none => simp [hb] at h
    | some o => simp [hb] at h; exact ⟨m, by simp [St.vb, hlt b o hb, h], Nat.le_refl _, fun _ _ => rfl⟩⟩
  have hnone : ∀ j o, ¬ σ.O σ.H.length j o := ok.out _ (by simp)
  refine ⟨⟨?_, ?_, ok.disj, ok.fz, ok.lt, ok.ltf⟩, e, ⟨0, by simp [St.vb, hlast, AObj.ver], Nat.le_refl _⟩⟩
  · intro b o h
    rcases Nat.lt_trichotomy b σ.H.length with hb | hb | hb
    · have h' : σ.H[b]? = some o := by
        have h2 : (σ.H ++ [AObj.tok T s 0])[b]? = some o := h
        rwa [List.getElem?_append_left hb] at h2
      exact (ok.objs b o h').keep (e.mon ok) (fun _ _ => Iff.rfl) (St.vb_some h') (fun _ _ _ => rfl)
    · subst hb
      rw [hlast] at h; injection h with h; subst h
      exact .inl ⟨rfl, hnone⟩
    · have h2 : (σ.H ++ [AObj.tok T s 0])[b]? = some o := h
      rw [List.getElem?_eq_none (by simp; omega)] at h2; cases h2
  · intro b h
    refine ok.out b ?_
    rcases Nat.lt_or_ge b σ.H.length with hb | hb
    · have h2 : (σ.H ++ [AObj.tok T s 0])[b]? = none := h
      rwa [List.getElem?_append_left hb] at h2
    · exact List.getElem?_eq_none hb
/-- A row that has grown into a new block. -/
theorem grown_rep (ok : σ.ok) {w1 : World} (hw1 : w1 = σ.w.drew) {b s n k : Nat} {zs : List D} {olds rest : List Value} {el : TypeId} {H : AHeap} (hn : zs.length = n) (hpos : 0 < n) (hk : n ≤ k)
    (hlen : (olds ++ rest).length = k * s) (hs : ∀ z ∈ zs, z.cells.length = s) (hl : ∀ d ∈ zs.flatMap D.cells, d.leaf = true) (hr : RepDs σ.w σ.Fz (zs.flatMap D.cells) olds)
    (hH : ∀ b', b' ≠ b → H[b']? = σ.H[b']?) (hb : H[b]? = some (.tok el s n)) (hver : ∀ m, σ.vb b = some m → m < n) :
    ∃ τ, τ.w = w1.alloc (.cells ⟨olds ++ rest⟩ el) ∧ τ.H = H ∧ τ.ok ∧ Ext σ τ ∧ RepV τ (.vec b s zs) (.slice (some ⟨σ.w.heap.size, 0, none⟩) n k) := by
  subst hw1
  obtain ⟨ok1, e1⟩ := ok.drew
  have holds : olds.length = n * s := by rw [hr.length, flat_length hs, hn]
  have hsize : (⟨olds ++ rest⟩ : Array Value).size = k * s := hlen
  have h := ok1.push (c := ⟨olds ++ rest⟩) (T := el) (fr := (0, 0)) (fz := fun o => o < n * s) (own := fun o => n * s ≤ o) (b := b) (ver := n) (H := H) (by intro o h; omega) hH hb rfl hver (fun m => by
    refine .inr ⟨⟨olds ++ rest⟩, (0, 0), k, ?_, hsize, ⟨hpos, hk⟩, .inl rfl, fun j o => ?_⟩
    · simp only [St.push, and_self, if_true]; exact heap_push_new _ _
    · simp only [St.push, if_true, and_self])
  refine ⟨_, rfl, rfl, h.1, e1.trans h.2, ?_⟩
  have hι : (σ.drew.push ⟨olds ++ rest⟩ el (0, 0) (fun o => o < n * s) b n (fun o => n * s ≤ o) H).ι b zs.length = σ.w.heap.size := by simp [St.push, hn, St.drew]
  have hheap : (σ.drew.push ⟨olds ++ rest⟩ el (0, 0) (fun o => o < n * s) b n (fun o => n * s ≤ o) H).w.heap[σ.w.heap.size]? = some (.cells ⟨olds ++ rest⟩ el (0, 0)) := heap_push_new σ.w.drew _
  have hv := RepV.vec (σ := σ.drew.push ⟨olds ++ rest⟩ el (0, 0) (fun o => o < n * s) b n (fun o => n * s ≤ o) H) (b := b) (s := s) (xs := zs) (c := k) (vs := olds)
    ⟨n, by show (H[b]?).map AObj.ver = _; rw [hb]; rfl, by omega⟩ (by omega) hs hl (by
      rw [hι]
      intro i v hi
      have hil : i < olds.length := (List.getElem?_eq_some_iff.1 hi).1
      refine ⟨.inr ⟨rfl, by omega⟩, ?_⟩
      rw [cell_of hheap]
      simp [List.getElem?_append_left hil, hi]) (((e1.trans h.2).mon ok).repDs hr) (by
      rw [hι]
      exact ⟨by omega, _, _, _, hheap, hsize⟩)
  rw [hι, hn] at hv
  exact hv
theorem tok_at (ok : σ.ok) {b T s n : Nat} (h : σ.H[b]? = some (.tok T s n)) : RepO σ b (.tok T s n) := ok.objs b _ h
theorem appendOp_sound (hT : TyOk C) (ok : σ.ok) {t u ty : Nat} {s x v : V} {sv xv : Value} {H' : AHeap} (hs : RepV σ s sv) (hx : RepV σ x xv) (h : (appendOp C σ.H t u s x).out (v, H')) :
    Made C.P σ (Builtin.append_ #[t, u] ty #[sv, xv]) v H' := by
  unfold appendOp at h
  split at h
  case h_2 => exact (out_fail h).elim
  rename_i ti ys hok hti hys
  obtain ⟨el, hu, ht⟩ := elemTI_und hT hti
  have hel : elemId C t = el := by
    unfold elemTI at hti
    unfold elemId
    split at hti
    · rename_i e hk
      obtain ⟨d, hu', hd⟩ := und_kind hT (t := t) (by rw [hk]; simp)
      rw [hk] at hd; have := desc_slice hd; subst this
      rw [hu] at hu'; injection hu' with hu'; injection hu' with hu'
      exact hu'.symm
    · cases hti
  rw [hel] at h
  have huu : (∃ e', C.P.underlying u = some (.slice e')) ∨ C.P.underlying u = some .string := by
    unfold appOk at hok
    split at hok
    · rename_i e' hk
      obtain ⟨d, hu', hd⟩ := und_kind hT (t := u) (by rw [hk]; simp)
      rw [hk] at hd; have := desc_slice hd; subst this
      exact .inl ⟨e', hu'⟩
    · rename_i hk
      obtain ⟨d, hu', hd⟩ := und_kind hT (t := u) (by rw [hk]; simp)
      rw [hk] at hd; have := desc_str hd; subst this
      exact .inr hu'
    · cases hok
  obtain ⟨hall, h⟩ := out_chk h
  have hys1 := allSize_eq hall
  obtain ⟨news, a1, a2, a3, a4, a5⟩ := appended_run (P := C.P) hx hys hys1
  have hnl : news.length = ys.length * ti.size := by rw [a3.length, flat_length hys1]
  have hnd : (Builtin.firstCells ti.size ys.length xv).run C.P σ.w.drew = .ok ⟨news⟩ σ.w.drew := a5 _ _ (fun _ _ _ => rfl) rfl
  cases s with
  | p d =>
   cases d with
   | sl xs full =>
    cases full with
    | true =>
      simp only at h
      obtain ⟨hne, h⟩ := out_chk h
      obtain ⟨hxall, h⟩ := out_chk h
      obtain ⟨hroom, h⟩ := out_chk h
      have := out_ret h; injection this with h1 h2; subst h1; subst h2
      have hxs1 := allSize_eq hxall
      -- the slice that is appended to has no room
      have key : ∃ base, sv = .slice base xs.length xs.length ∧ ∃ olds, (∀ w', (∀ j p, σ.Fz j p → w'.cell? ⟨j, p, none⟩ = σ.w.cell? ⟨j, p, none⟩) → (Builtin.firstCells ti.size xs.length sv).run C.P w' = .ok ⟨olds⟩ w') ∧
          RepDs σ.w σ.Fz (xs.flatMap D.cells) olds ∧ ∀ d ∈ xs.flatMap D.cells, d.leaf = true := by
        obtain ⟨olds, b1, b2, b3, b4, b5⟩ := appended_run (P := C.P) hs (ys := xs) rfl hxs1
        cases hs with
        | p hs => cases hs with
          | sl hc hf _ _ _ _ => have := hf rfl; subst this; exact ⟨_, rfl, olds, fun w' hw => b5 w' _ hw rfl, b3, b4⟩
          | sl0 hf => have := hf rfl; subst this; exact ⟨_, rfl, olds, fun w' hw => b5 w' _ hw rfl, b3, b4⟩
      obtain ⟨base, rfl, olds, b5, b3, b4⟩ := key
      cases ys with
      | nil =>
        have hx0 : xs = [] := by simpa using hne
        subst hx0
        simp at hnl; subst hnl
        obtain ⟨p1, p2, p3⟩ := push_virtual ok el ti.size
        refine ⟨_, { σ with H := σ.H ++ [.tok el ti.size 0] }, room_run (w' := σ.w) hu ht huu a1 (Nat.le_refl _) a2 (by cases base <;> simp [storeCells]), rfl, p1, p2, ?_⟩
        exact .vec0 p3
      | cons y r =>
        obtain ⟨cap, rest, g1, g2, g3⟩ := grow_run (ty := ty) (sCap := xs.length) hu ht huu a1 (by rw [List.length_cons]; omega) hroom (b5 _ (fun _ _ _ => rfl)) hnd (by rw [b3.length, flat_length hxs1]) hnl
        obtain ⟨τ, t1, t2, t3, t4, t5⟩ := grown_rep (σ := σ) ok rfl (b := σ.H.length) (s := ti.size) (n := xs.length + (y :: r).length) (k := cap) (zs := xs ++ y :: r) (olds := olds ++ news) (rest := rest) (el := el)
          (H := σ.H ++ [.tok el ti.size (xs ++ y :: r).length]) (by simp) (by rw [List.length_cons]; omega) g1 g2 (fun z hz => by
            rcases List.mem_append.1 hz with hz | hz
            · exact hxs1 z hz
            · exact hys1 z hz) (fun d hd => by
            rw [List.flatMap_append] at hd
            rcases List.mem_append.1 hd with hd | hd
            · exact b4 d hd
            · exact a4 d hd) (by rw [List.flatMap_append]; exact b3.append a3) (fun b' hb' => by
            rcases Nat.lt_or_ge b' σ.H.length with h | h
            · rw [List.getElem?_append_left h]
            · rw [List.getElem?_eq_none (by simp; omega), List.getElem?_eq_none h]) (by simp) (fun m hm => by have := St.vb_lt hm; omega)
        exact ⟨_, τ, by rw [g3, t1], t2, t3, t4, t5⟩
    | false => exact (out_fail h).elim
   | _ => exact (out_fail h).elim
  | vec b sz xs =>
    simp only at h
    split at h
    · rename_i T0 sz' n hbH
      split at h
      case h_2 => exact (out_fail h).elim
      rename_i hTb
      have hT0 := Nat.eq_of_beq_eq_true hTb
      rw [hT0] at h hbH
      obtain ⟨hc, hq⟩ := out_chk h
      clear h
      simp only [decide_eq_true_eq] at hc
      obtain ⟨rfl, rfl, rfl⟩ := hc
      obtain ⟨hroom, hq2⟩ := out_chk hq
      have := out_ret hq2; injection this with h1 h2; subst h1; subst h2
      have hblt : b < σ.H.length := (List.getElem?_eq_some_iff.1 hbH).1
      have hset : ∀ b', b' ≠ b → (σ.H.set b (.tok el ti.size (xs ++ ys).length))[b']? = σ.H[b']? := fun b' h => List.getElem?_set_ne (Ne.symm h)
      have hvb : ∀ m, σ.vb b = some m → m = xs.length := fun m hm => by have := St.vb_some hbH; rw [hm] at this; injection this
      have sizes : ∀ z ∈ xs, z.cells.length = ti.size := by
        cases hs with
        | vec _ _ hs' _ _ _ _ => exact hs'
        | vec0 _ => simp
      obtain ⟨olds, b1, b2, b3, b4, b5⟩ := appended_run (P := C.P) hs (ys := xs) rfl sizes
      have hol : olds.length = xs.length * ti.size := by rw [b3.length, flat_length sizes]
      have growing : ∀ {base : Option Addr} {c : Nat}, sv = .slice base xs.length c → c < xs.length + ys.length → xs.length ≤ c → Made C.P σ (Builtin.append_ #[t, u] ty #[sv, xv]) (.vec b ti.size (xs ++ ys)) (σ.H.set b (.tok el ti.size (xs ++ ys).length)) := by
        intro base c hsv hlt hle
        subst hsv
        obtain ⟨cap, rest, g1, g2, g3⟩ := grow_run (ty := ty) hu ht huu a1 hlt hroom (b5 _ _ (fun _ _ _ => rfl) rfl) hnd hol hnl
        obtain ⟨τ, t1, t2, t3, t4, t5⟩ := grown_rep (σ := σ) ok rfl (b := b) (s := ti.size) (n := xs.length + ys.length) (k := cap) (zs := xs ++ ys) (olds := olds ++ news) (rest := rest) (el := el)
          (H := σ.H.set b (.tok el ti.size (xs ++ ys).length)) (by simp) (by omega) g1 g2 (fun z hz => by
            rcases List.mem_append.1 hz with hz | hz
            · exact sizes z hz
            · exact hys1 z hz) (fun d hd => by
            rw [List.flatMap_append] at hd
            rcases List.mem_append.1 hd with hd | hd
            · exact b4 d hd
            · exact a4 d hd) (by rw [List.flatMap_append]; exact b3.append a3) hset (by simp [hblt]) (fun m hm => by have := hvb m hm; omega)
        exact ⟨_, τ, by rw [g3, t1], t2, t3, t4, t5⟩
      have same : ys = [] → ∀ {base : Option Addr} {c : Nat}, sv = .slice base xs.length c → xs.length ≤ c → Made C.P σ (Builtin.append_ #[t, u] ty #[sv, xv]) (.vec b ti.size (xs ++ ys)) (σ.H.set b (.tok el ti.size (xs ++ ys).length)) := by
        intro hy base c hsv hle
        subst hy; subst hsv
        simp at hnl; subst hnl
        have hH : σ.H.set b (.tok el ti.size (xs ++ []).length) = σ.H := by
          rw [List.append_nil]
          apply List.ext_getElem?
          intro i
          by_cases hi : i = b
          · subst hi; rw [hbH]; simp [hblt]
          · rw [List.getElem?_set_ne (Ne.symm hi)]
        rw [hH, List.append_nil]
        refine ⟨_, σ, room_run (w' := σ.w) hu ht huu a1 (by simpa using hle) a2 (by cases base <;> simp [storeCells]), rfl, ok, Ext.refl σ, ?_⟩
        simpa using hs
      cases hs with
      | @vec _ _ _ c vs hid hcc hs' hl hr hd hb =>
        obtain ⟨hpos, cs, T, fr, hh, hz⟩ := hb
        by_cases hy : ys = []
        · exact same hy rfl hcc
        · have hyl : 0 < ys.length := List.length_pos_iff.2 hy
          by_cases hroom2 : xs.length + ys.length ≤ c
          · rcases tok_at ok hbH with ⟨h0, _⟩ | ⟨c2, fr2, k2, q1, q2, q3, q4, q5⟩
            · omega
            · rw [hh] at q1; injection q1 with q1; injection q1 with e1 e2 e3; subst e1; subst e2; subst e3
              have hm : (xs ++ ys).length = xs.length + ys.length := by simp
              have hmk : xs.length + ys.length ≤ k2 ∨ ti.size = 0 := by
                rcases Nat.eq_zero_or_pos ti.size with h | h
                · exact .inr h
                · left
                  have : c * ti.size = k2 * ti.size := by rw [← hz, q2]
                  have := Nat.eq_of_mul_eq_mul_right h this
                  omega
              have hk3 : ∃ k3, cs.size = k3 * ti.size ∧ xs.length + ys.length ≤ k3 := by
                rcases hmk with h | h
                · exact ⟨k2, q2, h⟩
                · exact ⟨xs.length + ys.length, by rw [q2, h]; simp, Nat.le_refl _⟩
              obtain ⟨k3, q2', hmk'⟩ := hk3
              obtain ⟨r1, r2, r3, r4⟩ := ok.grow (P := C.P) (m := xs.length + ys.length) (vs := news) hbH (by omega) hh q2' hmk' q4 q5 (by rw [hnl]; congr 1; omega) (by
                have := a3.toV (σ := σ)
                exact this.oneCells (leaf_map a4))
              have hι : (σ.grow b T ti.size xs.length (xs.length + ys.length) news).ι b (xs.length + ys.length) = σ.ι b xs.length := by simp [St.grow]
              refine ⟨.slice (some ⟨σ.ι b xs.length, 0, none⟩) (xs.length + ys.length) c, _, room_run (w' := (σ.grow b T ti.size xs.length (xs.length + ys.length) news).w) hu ht huu a1 hroom2 a2 (by
                simp only [add_at, Nat.zero_add]; exact r1), by simp [St.grow], r2, r3, ?_⟩
              have hmon := r3.mon ok
              have hsz : (σ.grow b T ti.size xs.length (xs.length + ys.length) news).w.heap[σ.ι b xs.length]? = some (.cells (putCells cs (xs.length * ti.size) news) T fr) := heap_setCells_same _ _ _ _ hh
              have hv := RepV.vec (σ := σ.grow b T ti.size xs.length (xs.length + ys.length) news) (b := b) (s := ti.size) (xs := xs ++ ys) (c := c) (vs := vs ++ news)
                ⟨xs.length + ys.length, by show ((σ.H.set b _)[b]?).map AObj.ver = _; simp [hblt, AObj.ver], by rw [hm]; exact Nat.le_refl _⟩ (by rw [hm]; exact hroom2) (fun z hz => by
                  rcases List.mem_append.1 hz with hz | hz
                  · exact sizes z hz
                  · exact hys1 z hz) (fun d hd => by
                  rw [List.flatMap_append] at hd
                  rcases List.mem_append.1 hd with hd | hd
                  · exact b4 d hd
                  · exact a4 d hd) (by
                  rw [hm, hι]
                  intro i v hi
                  by_cases hil : i < vs.length
                  · rw [List.getElem?_append_left hil] at hi
                    exact (hr.mon hmon.fz hmon.cell) i v hi
                  · rw [List.getElem?_append_right (by omega)] at hi
                    have hvl : vs.length = xs.length * ti.size := by rw [hd.length, flat_length sizes]
                    have := r4 _ v hi
                    rw [show xs.length * ti.size + (i - vs.length) = i by omega] at this
                    simpa using this) (by rw [List.flatMap_append]; exact (hmon.repDs hd).append (hmon.repDs a3)) (by
                  rw [hm, hι]
                  exact ⟨by omega, _, _, _, hsz, by rw [size_putCells]; exact hz⟩)
              rw [hm, hι] at hv
              exact hv
          · exact growing rfl (by omega) hcc
      | @vec0 _ _ a0 hid =>
        by_cases hy : ys = []
        · exact same hy rfl (by simp)
        · have hyl : 0 < ys.length := List.length_pos_iff.2 hy
          exact growing rfl (by simp; omega) (by simp)
    · exact (out_fail h).elim
  | _ => exact (out_fail h).elim
end
end Go.Abs
