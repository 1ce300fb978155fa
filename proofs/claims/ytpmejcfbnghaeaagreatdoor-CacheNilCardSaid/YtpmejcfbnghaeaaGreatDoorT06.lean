/- Soundness of single operations: parts put together, slices made, appended to. -/
import Derived.Test.YtpmejcfbnghaeaaGreatDoorT05
namespace Go.Abs
set_option linter.unusedVariables false
set_option linter.unusedSimpArgs false
section
variable {C : Ctx} {σ : St} {e : Env} {a : Act}

theorem fold_put : ∀ (l : List Value) (off k : Nat) (c : Array Value), (l.zipIdx k).foldl (fun cs (p : Value × Nat) => cs.setIfInBounds (off + p.2) p.1) c = putCells c (off + k) l
  | [], _, _, _ => rfl
  | v :: r, off, k, c => by
    rw [List.zipIdx_cons, List.foldl_cons, fold_put r off (k + 1), putCells]; rfl
theorem fill_put (v : Value) (off : Nat) (c : Array Value) : v.cells.zipIdx.foldl (fun cs (p : Value × Nat) => cs.setIfInBounds (off + p.2) p.1) c = putCells c off v.cells.toList := by
  rw [← Array.foldl_toList, Array.toList_zipIdx, fold_put]; rfl
/-- Parts and what they mean. -/
inductive RepP (σ : St) : List (Nat × V) → List (Nat × Value) → Prop
  | nil : RepP σ [] []
  | cons {i : Nat} {v : V} {x : Value} {l : List (Nat × V)} {m : List (Nat × Value)} (h : RepV σ v x) (t : RepP σ l m) : RepP σ ((i, v) :: l) ((i, x) :: m)
theorem fillV_sound {pl : Nat → Option (Nat × Nat)} : ∀ {ps : List (Nat × V)} {qs : List (Nat × Value)}, RepP σ ps qs → ∀ {cs : List V} {vs : List Value}, RepVs σ cs vs → (∀ y ∈ cs, y.leaf = true) → ∀ {cs' : List V}, fillV pl cs ps = some cs' →
    ∃ vs', Instr.fill pl ⟨vs⟩ qs = some ⟨vs'⟩ ∧ RepVs σ cs' vs' ∧ ∀ y ∈ cs', y.leaf = true
  | _, _, .nil, cs, vs, hr, hl, cs', h => by simp [fillV] at h; subst h; exact ⟨vs, by simp [Instr.fill], hr, hl⟩
  | _, _, .cons (i := i) (v := v) (x := x) hv t, cs, vs, hr, hl, cs', h => by
    simp only [fillV] at h
    cases hp : pl i with
    | none => simp [hp] at h
    | some q =>
      obtain ⟨off, size⟩ := q
      simp only [hp] at h
      cases hf : v.flat with
      | none => simp [hf] at h
      | some l =>
        simp only [hf] at h
        cases h1 : Nat.beq l.length size with
        | false => simp [h1] at h
        | true =>
          simp only [h1] at h
          cases h2 : Nat.ble (off + l.length) cs.length with
          | false => simp [h2] at h
          | true =>
            simp only [h2] at h
            obtain ⟨hrl, hll⟩ := hv.flat hf
            have e1 := Nat.eq_of_beq_eq_true h1
            have e2 := Nat.le_of_ble_eq_true h2
            have n1 := hr.length
            have n2 := hrl.length
            rw [Array.length_toList] at n2
            rw [setSlice_eq _ _ _ e2] at h
            have hr2 : RepVs σ (cs.take off ++ l ++ cs.drop (off + l.length)) (vs.take off ++ x.cells.toList ++ vs.drop (off + x.cells.toList.length)) := by
              have := ((hr.take off).append hrl).append (hr.drop (off + l.length))
              rwa [show x.cells.toList.length = l.length by simp [n2]]
            have hl2 : ∀ y ∈ cs.take off ++ l ++ cs.drop (off + l.length), y.leaf = true := by
              intro y hy
              simp only [List.mem_append] at hy
              rcases hy with (hy | hy) | hy
              · exact hl y (List.mem_of_mem_take hy)
              · exact hll y hy
              · exact hl y (List.mem_of_mem_drop hy)
            obtain ⟨vs', f1, f2, f3⟩ := fillV_sound t hr2 hl2 h
            refine ⟨vs', ?_, f2, f3⟩
            simp only [Instr.fill, hp]
            rw [if_neg (by simp [n1, n2, e1]; omega), fill_put]
            have : putCells ⟨vs⟩ off x.cells.toList = ⟨vs.take off ++ x.cells.toList ++ vs.drop (off + x.cells.toList.length)⟩ := by
              have := putCells_toList x.cells.toList ⟨vs⟩ off (by simp [n1, n2]; omega)
              exact Array.ext' (by simpa using this)
            rw [this]; exact f1
theorem evParts_rep (hG : GOk C σ) (he : EnvOk σ e a) : ∀ (l : List (Nat × Operand)), RepP σ (evParts C e l) (l.map fun (i, x) => (i, a.eval x))
  | [] => .nil
  | (i, x) :: r => .cons (ev_sound hG he x) (evParts_rep hG he r)
theorem places_run {P : Program} {w : World} (hT : TyOk C) (hP : P = C.P) : ∀ (l : List Field) {ps : List (Nat × Nat)}, placesOf C (l.map fun f => (f.offset, f.type)) = some ps →
    (l.mapM (m := Sem) fun f => do pure (f.offset, ← sizeOf f.type)).run P w = .ok ps w
  | [], ps, h => by simp [placesOf] at h; subst h; simp
  | f :: l, ps, h => by
    simp only [List.map_cons, placesOf] at h
    cases hi : tyOf C f.type with
    | none => simp [hi] at h
    | some i =>
      cases hr : placesOf C (l.map fun f => (f.offset, f.type)) with
      | none => simp [hi, hr] at h
      | some q =>
        simp [hi, hr] at h; subst h
        have ht := hT _ _ hi
        subst hP
        simp only [List.mapM_cons, Sem.run_bind, ht.run_size, Result.andThen_ok, Sem.run_pure, places_run hT rfl l hr]
theorem build_sound (hT : TyOk C) (ok : σ.ok) {t : Nat} {i : TI} (hi : tyOf C t = some i) {pl : Nat → Option (Nat × Nat)} (hp : placeOf C i.kind = some pl) {ps : List (Nat × V)} {qs : List (Nat × Value)} (hr : RepP σ ps qs)
    {cs : List V} (hf : fillV pl (i.zero.map .p) ps = some cs) {v : V} (hv : packV true cs = some v) : Made C.P σ (Instr.build t ⟨qs⟩) v σ.H := by
  have ht := hT t i hi
  have hz := zeroOf_cells ht
  obtain ⟨vs', f1, f2, f3⟩ := fillV_sound hr (zvals_rep (w := σ.w) (Fz := σ.Fz) ht.zok).toV (leaf_map fun d hd => (zval_rep (w := default) (Fz := fun _ _ => True) (ht.zok d hd)).2) hf
  have hcells : (zeroOf i).cells = ⟨i.zero.map zval⟩ := Array.ext' hz
  have hpk := f2.packV f3 hv
  refine Made.same ok ?_ hpk
  unfold placeOf at hp
  split at hp
  · rename_i fs hk
    split at hp
    · rename_i l hl
      injection hp with hp; subst hp
      obtain ⟨d, hu, hd⟩ := ht.und
      rw [hk] at hd
      obtain ⟨fl, rfl, hfl, _⟩ := desc_struct hd
      have hm := places_run (P := C.P) (w := σ.w) hT rfl fl.toList (by rw [hfl]; exact hl)
      have hm' : (fl.mapM (m := Sem) fun f => do pure (f.offset, ← sizeOf f.type)).run C.P σ.w = .ok ⟨l⟩ σ.w := by
        rw [Array.mapM_eq_mapM_toList, Sem.run_map, hm]; rfl
      simp only [Instr.build, Sem.run_bind, ht.run_zero, Result.andThen_ok, run_underlying hu, hm', hcells]
      have : (fun (x : Nat) => (⟨l⟩ : Array (Nat × Nat))[x]?) = fun (k : Nat) => l[k]? := by funext k; simp
      rw [this, f1]; rfl
    · cases hp
  · rename_i n el hk
    split at hp
    · rename_i ei hei
      injection hp with hp; subst hp
      obtain ⟨d, hu, hd⟩ := ht.und
      rw [hk] at hd; have := desc_array hd; subst this
      have hte := hT _ _ hei
      simp only [Instr.build, Sem.run_bind, ht.run_zero, Result.andThen_ok, run_underlying hu, hte.run_size, hcells, f1]; rfl
    · cases hp
  · cases hp

theorem repDs_map {w : World} {Fz : Cells} {α : Type} {f : α → D} {g : α → Value} : ∀ (l : List α), (∀ x ∈ l, RepD w Fz (f x) (g x)) → RepDs w Fz (l.map f) (l.map g)
  | [], _ => .nil
  | x :: r, h => .cons (h x (by simp)) (repDs_map r fun y hy => h y (by simp [hy]))
theorem zeros_rep {w : World} {Fz : Cells} {z : List D} {za : Array Value} (hz : za.toList = z.map zval) (ok : ∀ d ∈ z, zOk d = true) (n : Nat) :
    RepDs w Fz (zeros n z) ((Array.range (n * z.length)).map (fun i => za[i % za.size]!)).toList := by
  have hsz : za.size = z.length := by rw [← Array.length_toList, hz]; simp
  simp only [Array.toList_map, Array.toList_range, zeros]
  refine repDs_map _ fun i hi => ?_
  have hpos : 0 < z.length := by
    rcases Nat.eq_zero_or_pos z.length with h | h
    · rw [h] at hi; simp at hi
    · exact h
  have hlt : i % z.length < z.length := Nat.mod_lt _ hpos
  rw [hsz, List.getD_eq_getElem?_getD, List.getElem?_eq_getElem hlt, Option.getD_some]
  have : za[i % z.length]! = zval z[i % z.length] := by
    rw [getElem!_pos za (i % z.length) (by omega)]
    have h2 : za.toList[i % z.length]? = (z.map zval)[i % z.length]? := by rw [hz]
    have h3 : i % z.length < za.size := by rw [hsz]; exact hlt
    rw [List.getElem?_map, List.getElem?_eq_getElem hlt, List.getElem?_eq_getElem (by rw [Array.length_toList]; exact h3)] at h2
    simpa using h2
  rw [this]
  exact (zval_rep (ok _ (List.getElem_mem hlt))).1
theorem zeros_leaf {z : List D} (ok : ∀ d ∈ z, zOk d = true) (n : Nat) : ∀ d ∈ zeros n z, d.leaf = true := by
  intro d hd
  simp only [zeros, List.mem_map, List.mem_range] at hd
  obtain ⟨i, hi, rfl⟩ := hd
  have hpos : 0 < z.length := by
    rcases Nat.eq_zero_or_pos z.length with h | h
    · rw [h] at hi; simp at hi
    · exact h
  have hlt : i % z.length < z.length := Nat.mod_lt _ hpos
  rw [List.getD_eq_getElem?_getD, List.getElem?_eq_getElem hlt, Option.getD_some]
  exact (zval_rep (w := default) (Fz := fun _ _ => True) (ok _ (List.getElem_mem hlt))).2
theorem D.cells_leaf {d : D} (h : d.leaf = true) : d.cells = [d] := by cases d <;> simp [D.leaf] at h <;> rfl
theorem packs_flat {agg : Bool} {s : Nat} (hs : agg = false → s = 1) : ∀ {n : Nat} {l : List D} {xs : List D}, l.length = n * s → (∀ d ∈ l, d.leaf = true) → packs agg s n l = some xs →
    xs.length = n ∧ xs.flatMap D.cells = l ∧ ∀ x ∈ xs, x.cells.length = s
  | 0, l, xs, hl, hlf, h => by
    simp [packs] at h; subst h
    simp at hl; subst hl
    simp
  | n + 1, l, xs, hl, hlf, h => by
    simp only [packs] at h
    cases h1 : packD agg (l.take s) with
    | none => simp [h1] at h
    | some d =>
      cases h2 : packs agg s n (l.drop s) with
      | none => simp [h1, h2] at h
      | some ds =>
        simp [h1, h2] at h; subst h
        have hle : s ≤ l.length := by rw [hl, Nat.succ_mul]; omega
        obtain ⟨i1, i2, i3⟩ := packs_flat hs (l := l.drop s) (by simp [hl, Nat.succ_mul]) (fun d hd => hlf d (List.mem_of_mem_drop hd)) h2
        have hdc : d.cells = l.take s := by
          unfold packD at h1
          cases agg with
          | true => simp at h1; subst h1; rfl
          | false =>
            simp only at h1
            split at h1
            · rename_i y hy
              injection h1 with h1; subst h1
              rw [hy, D.cells_leaf (hlf y (List.mem_of_mem_take (by rw [hy]; simp)))]
            · cases h1
        refine ⟨by simp [i1], by rw [List.flatMap_cons, hdc, i2, List.take_append_drop], ?_⟩
        intro x hx
        rcases List.mem_cons.1 hx with rfl | hx
        · rw [hdc]; simp; omega
        · exact i3 x hx
theorem fill_size {pl : Nat → Option (Nat × Nat)} : ∀ {ps : List (Nat × V)} {cs cs' : List V}, fillV pl cs ps = some cs' → cs'.length = cs.length
  | [], cs, cs', h => by simp [fillV] at h; rw [h]
  | (i, v) :: r, cs, cs', h => by
    simp only [fillV] at h
    split at h
    · split at h
      · split at h
        · split at h
          · rw [fill_size h, length_setSlice]
          · cases h
        · cases h
      · cases h
    · cases h
theorem zeros_length (n : Nat) (z : List D) : (zeros n z).length = n * z.length := by simp [zeros]
theorem toDs_length : ∀ {l : List V} {ds : List D}, toDs l = some ds → ds.length = l.length
  | [], ds, h => by simp [toDs] at h; subst h; rfl
  | v :: r, ds, h => by
    simp only [toDs] at h
    cases h1 : v.toD with
    | none => simp [h1] at h
    | some d =>
      cases h2 : toDs r with
      | none => simp [h1, h2] at h
      | some q => simp [h1, h2] at h; subst h; simp [toDs_length h2]
theorem buildSlice_sound (hT : TyOk C) (ok : σ.ok) {t len : Nat} {ti : TI} (hti : elemTI C t = some ti) {ps : List (Nat × V)} {qs : List (Nat × Value)} (hr : RepP σ ps qs)
    {cs : List V} (hf : fillV (fun k => some (k * ti.size, ti.size)) ((zeros len ti.zero).map .p) ps = some cs) {ds : List D} (hd : toDs cs = some ds) {xs : List D} (hp : packs ti.agg ti.size len ds = some xs)
    (hn : len * ti.size ≤ 16777216) : Made C.P σ (Instr.buildSlice t len ⟨qs⟩) (.p (.sl xs true)) σ.H := by
  obtain ⟨el, hu, ht⟩ := elemTI_und hT hti
  have hz := zeroOf_cells ht
  have hzs : (zeroOf ti).cells.size = ti.zero.length := by rw [← Array.length_toList, hz]; simp
  have zr := zeros_rep (w := σ.w) (Fz := σ.Fz) hz ht.zok len
  rw [ht.zs] at zr
  obtain ⟨vs', f1, f2, f3⟩ := fillV_sound hr zr.toV (leaf_map (zeros_leaf ht.zok len)) hf
  have hlen : ds.length = len * ti.size := by rw [toDs_length hd, fill_size hf]; simp [zeros_length, ht.zs]
  have hvl := f2.length
  obtain ⟨p1, p2, p3⟩ := packs_flat ht.one hlen (f2.toDs_leaf f3 hd) hp
  obtain ⟨ok', ext⟩ := ok.pushF ⟨vs'⟩ el (0, 0)
  refine ⟨.slice (some ⟨σ.w.heap.size, 0, none⟩) len len, σ.pushF ⟨vs'⟩ el (0, 0), ?_, rfl, ok', ext, ?_⟩
  · simp only [Instr.buildSlice, Sem.run_bind, run_underlying hu, Result.andThen_ok, ht.run_size]
    rw [if_neg (by omega)]
    by_cases h0 : len * ti.size = 0
    · rw [if_pos h0]
      have e : (Array.range (len * ti.size)).map (fun x => (#[] : Array Value)[x % (#[] : Array Value).size]!) = ⟨((Array.range (len * ti.size)).map (fun i => (zeroOf ti).cells[i % (zeroOf ti).cells.size]!)).toList⟩ := by rw [h0]; simp
      simp only [bind_pure_comp, pure_bind]
      rw [e, f1]
      simp [newRow, St.pushF]
    · rw [if_neg h0]
      simp only [Sem.run_bind, ht.run_zero, Sem.run_pure, Result.andThen_ok]
      have e : (Array.range (len * ti.size)).map (fun x => (zeroOf ti).cells[x % (zeroOf ti).cells.size]!) = ⟨((Array.range (len * ti.size)).map (fun i => (zeroOf ti).cells[i % (zeroOf ti).cells.size]!)).toList⟩ := rfl
      rw [e, f1]
      simp [newRow, St.pushF]
  · have hcells : CellsAt (σ.pushF ⟨vs'⟩ el (0, 0)).w (σ.pushF ⟨vs'⟩ el (0, 0)).Fz σ.w.heap.size 0 vs' := by
      intro i v hi
      refine ⟨.inr rfl, ?_⟩
      show (σ.w.alloc (.cells ⟨vs'⟩ el (0, 0))).cell? ⟨σ.w.heap.size, 0 + i, none⟩ = _
      rw [cell_of (heap_push_new σ.w (.cells ⟨vs'⟩ el (0, 0)))]
      simpa using hi
    have hds : RepDs (σ.pushF ⟨vs'⟩ el (0, 0)).w (σ.pushF ⟨vs'⟩ el (0, 0)).Fz (xs.flatMap D.cells) vs' := by
      rw [p2]; exact (f2.mon (ext.mon ok)).toDs hd
    have := RepD.sl (full := true) (c := len) (by omega) (fun _ => p1.symm) p3 (by rw [p2]; exact f2.toDs_leaf f3 hd) hcells hds
    rw [p1] at this
    exact .p this
theorem buildSliceRow_sound (hT : TyOk C) (ok : σ.ok) {t len : Nat} {ti : TI} (hti : elemTI C t = some ti) {ps : List (Nat × V)} {qs : List (Nat × Value)} (hr : RepP σ ps qs)
    {cs : List V} (hf : fillV (fun k => some (k * ti.size, ti.size)) ((zeros len ti.zero).map .p) ps = some cs)
    (hn : len * ti.size ≤ 16777216) : Made C.P σ (Instr.buildSlice t len ⟨qs⟩) (.row σ.H.length 0 0 len ti.size) (σ.H ++ [.cells (.r (elemId C t)) 0 cs]) := by
  obtain ⟨hu, ht⟩ := elemId_und hT hti
  have hz := zeroOf_cells ht
  have hzs : (zeroOf ti).cells.size = ti.zero.length := by rw [← Array.length_toList, hz]; simp
  have zr := zeros_rep (w := σ.w) (Fz := σ.Fz) hz ht.zok len
  rw [ht.zs] at zr
  obtain ⟨vs', f1, f2, f3⟩ := fillV_sound hr zr.toV (leaf_map (zeros_leaf ht.zok len)) hf
  have hlen : cs.length = len * ti.size := by rw [fill_size hf]; simp [zeros_length, ht.zs]
  have hvl := f2.length
  obtain ⟨τ, t1, t2, t3, t4, t5, t6⟩ := push_cells ok (.r (elemId C t)) (l := cs) (c := ⟨vs'⟩) (T := elemId C t) (fr := (0, 0))
    ⟨by simp; omega, fun T' hT' => (by cases hT'), fun T' hT' => ⟨by injection hT' with hT'; exact hT'.symm, .inl rfl⟩⟩ (by rw [List.take_of_length_le (by simp only []; omega)]; exact f2) f3 (by omega)
  refine ⟨.slice (some ⟨σ.w.heap.size, 0, none⟩) len len, τ, ?_, t2, t3, t4, ?_⟩
  · rw [t1]
    simp only [Instr.buildSlice, Sem.run_bind, run_underlying hu, Result.andThen_ok, ht.run_size]
    rw [if_neg (by omega)]
    by_cases h0 : len * ti.size = 0
    · rw [if_pos h0]
      have e : (Array.range (len * ti.size)).map (fun x => (#[] : Array Value)[x % (#[] : Array Value).size]!) = ⟨((Array.range (len * ti.size)).map (fun i => (zeroOf ti).cells[i % (zeroOf ti).cells.size]!)).toList⟩ := by rw [h0]; simp
      simp only [bind_pure_comp, pure_bind]
      rw [e, f1]
      simp [newRow]
    · rw [if_neg h0]
      simp only [Sem.run_bind, ht.run_zero, Sem.run_pure, Result.andThen_ok]
      have e : (Array.range (len * ti.size)).map (fun x => (zeroOf ti).cells[x % (zeroOf ti).cells.size]!) = ⟨((Array.range (len * ti.size)).map (fun i => (zeroOf ti).cells[i % (zeroOf ti).cells.size]!)).toList⟩ := rfl
      rw [e, f1]
      simp [newRow]
  · have := RepV.row (σ := τ) (off := 0) (len := len) (s := ti.size) (c := len) t5 (Nat.le_refl _) ⟨⟨vs'⟩, elemId C t, (0, 0), by rw [t6, t1]; exact heap_push_new _ _, by simp; omega⟩
    rw [t6] at this; exact this
theorem makeSlice_sound (hT : TyOk C) (ok : σ.ok) {t : Nat} {ti : TI} (hti : elemTI C t = some ti) {n m : Int} {k k' : IntKind} (h : 0 ≤ n ∧ n ≤ m ∧ (ti.bytes : Int) * m ≤ 140737488355328 ∧ m ≤ 140737488355328) :
    Made C.P σ (Instr.makeSlice t (.int k n) (.int k' m)) (.own σ.H.length 0 0 n.toNat ti.size (n == m)) (σ.H ++ [.cells (.r (elemId C t)) 0 ((zeros n.toNat ti.zero).map .p)]) := by
  obtain ⟨hu, ht⟩ := elemId_und hT hti
  obtain ⟨inf, i1, i2, i3, i4⟩ := ht.info
  have hz := zeroOf_cells ht
  have hrun := run_make (P := C.P) σ.w t (elemId C t) inf (zeroOf ti) hu i1 i4 k k' n m h.1 h.2.1 (by rw [i3]; omega) (by omega)
  rw [i2] at hrun
  have zr := zeros_rep (w := σ.w) (Fz := σ.Fz) hz ht.zok m.toNat
  rw [ht.zs] at zr
  have hpre : zeros n.toNat ti.zero = (zeros m.toNat ti.zero).take (n.toNat * ti.size) := by
    simp only [zeros, ht.zs, ← List.map_take, List.take_range]
    congr 2
    rw [Nat.min_eq_left]
    exact Nat.mul_le_mul_right _ (by omega)
  have hlen : (zeros n.toNat ti.zero).length = n.toNat * ti.size := by rw [zeros_length, ht.zs]
  have hle : n.toNat * ti.size ≤ m.toNat * ti.size := Nat.mul_le_mul_right _ (by omega)
  obtain ⟨τ, t1, t2, t3, t4, t5, t6⟩ := push_cells ok (.r (elemId C t)) (l := (zeros n.toNat ti.zero).map .p) (c := madeCells (zeroOf ti).cells (m.toNat * ti.size)) (T := elemId C t) (fr := (0, 0))
    ⟨by rw [List.length_map, hlen, size_madeCells]; exact hle, fun T' hT' => (by cases hT'), fun T' hT' => ⟨by injection hT' with hT'; exact hT'.symm, .inl rfl⟩⟩ (by
      rw [List.length_map, hlen]
      have := (zr.take (n.toNat * ti.size)).toV (σ := σ)
      rw [← hpre] at this
      exact this) (leaf_map (zeros_leaf ht.zok _)) (by omega)
  refine ⟨_, τ, by rw [hrun, t1], t2, t3, t4, ?_⟩
  have := RepV.own (σ := τ) (off := 0) (len := n.toNat) (s := ti.size) (full := n == m) (c := m.toNat) t5 (by omega) (fun e => by simp at e; subst e; rfl)
  rw [t6] at this; exact this
end
end Go.Abs
