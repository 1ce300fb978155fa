/- Soundness of append to a row that may be written. -/
import Derived.Test.YtpmejcfbnghaeaaGreatDoorT08
namespace Go.Abs
set_option linter.unusedVariables false
set_option linter.unusedSimpArgs false
section
variable {C : Ctx} {σ : St}
theorem first_none {P : Program} {w : World} (s : Nat) (a : Option Addr) (c : Nat) : (Builtin.firstCells s 0 (.slice a 0 c)).run P w = .ok ⟨[]⟩ w := by
  cases a <;> simp [Builtin.firstCells, loadCells, loadCellsFrom]
theorem srcOwn_run (ok : σ.ok) {P : Program} {s b ver off n m c : Nat} {ys : List V} (h : srcOwn σ.H s b ver off n = some (m, ys)) : m = n ∧
    ∃ vs, (∀ w', w'.heap = σ.w.heap → (Builtin.firstCells s n (.slice (some ⟨σ.ι b ver, off, none⟩) n c)).run P w' = .ok ⟨vs⟩ w') ∧ RepVs σ ys vs ∧ (∀ y ∈ ys, y.leaf = true) ∧ vs.length = n * s ∧ (n = 0 → ys = []) := by
  unfold srcOwn at h
  split at h
  · rename_i lz cs ho
    split at h
    · rename_i hb
      have hle := Nat.le_of_ble_eq_true hb
      injection h with h; injection h with h1 h2; subst h1; subst h2
      obtain ⟨_, ca, T, fr, hh, hsz, hr, _, hl, _⟩ := ok.cellsAt ho
      have hlen : (((ca.toList.take cs.length).drop off).take (n * s)).length = n * s := by simp; omega
      refine ⟨rfl, ((ca.toList.take cs.length).drop off).take (n * s), fun w' hw => ?_, (hr.drop off).take _, fun y hy => hl y (List.mem_of_mem_drop (List.mem_of_mem_take hy)), hlen, fun h0 => by subst h0; simp⟩
      simp only [Builtin.firstCells]
      have := run_loadCells_list (P := P) w' ⟨σ.ι b ver, off, none⟩ (((ca.toList.take cs.length).drop off).take (n * s)) (fun j v hj => by
        rw [add_at, cell_of (by rw [hw]; exact hh)]
        rw [List.getElem?_take] at hj
        split at hj
        · rw [List.getElem?_drop, List.getElem?_take] at hj
          split at hj
          · simpa using hj
          · cases hj
        · cases hj)
      rw [hlen] at this
      exact this
    · cases h
  · cases h
theorem srcCells_run (ok : σ.ok) {P : Program} {x : V} {xv : Value} (hx : RepV σ x xv) {ti : TI} {m : Nat} {ys : List V} (h : srcCells σ.H ti x = some (m, ys)) :
    ∃ vs, (Builtin.lenOf xv).run P σ.w = .ok m σ.w ∧ (Builtin.firstCells ti.size m xv).run P σ.w = .ok ⟨vs⟩ σ.w ∧ (Builtin.firstCells ti.size m xv).run P σ.w.drew = .ok ⟨vs⟩ σ.w.drew ∧ RepVs σ ys vs ∧ (∀ y ∈ ys, y.leaf = true) ∧ vs.length = m * ti.size := by
  unfold srcCells at h
  split at h
  · cases hx with
    | @own _ _ _ _ _ c _ hid hc hf =>
      obtain ⟨rfl, vs, h1, h2, h3, h4, _⟩ := srcOwn_run (P := P) (c := c) ok h
      exact ⟨vs, rfl, h1 _ rfl, h1 _ rfl, h2, h3, h4⟩
    | @own0 _ _ _ _ c _ a0 hid hf =>
      obtain ⟨rfl, vs, h1, h2, h3, h4, h5⟩ := srcOwn_run (P := P) (c := c) ok h
      have hy := h5 rfl
      subst hy
      cases h2
      exact ⟨[], rfl, first_none _ _ _, first_none _ _ _, .nil, h3, by simp⟩
  · cases hx with
    | row hid hc hb =>
      rename_i c
      obtain ⟨rfl, vs, h1, h2, h3, h4, _⟩ := srcOwn_run (P := P) (c := c) ok h
      exact ⟨vs, rfl, h1 _ rfl, h1 _ rfl, h2, h3, h4⟩
    | row0 hid hb =>
      obtain ⟨rfl, vs, h1, h2, h3, h4, h5⟩ := srcOwn_run (P := P) (c := 0) ok h
      have hy := h5 rfl
      subst hy
      cases h2
      exact ⟨[], rfl, first_none _ _ _, first_none _ _ _, .nil, h3, by simp⟩
  · split at h
    · rename_i ds hd
      split at h
      · rename_i hall
        injection h with h; injection h with h1 h2; subst h1; subst h2
        have hs := allSize_eq hall
        obtain ⟨vs, a1, a2, a3, a4, a5⟩ := appended_run (P := P) hx hd hs
        exact ⟨vs, a1, a2, a5 _ _ (fun _ _ _ => rfl) rfl, a3.toV, leaf_map a4, by rw [a3.length, flat_length hs]⟩
      · cases h
    · cases h
/-- A row grows within its block. -/
theorem St.ok.extend {P : Program} (ok : σ.ok) {b ver k T0 : Nat} {cs l : List V} {vs : List Value} (ho : objCells σ.H[b]? ver = some (.r T0, cs)) (hk : k ≤ cs.length) (hl : ∀ y ∈ l, y.leaf = true) (hr : RepVs σ l vs)
    (hfit : ∀ c T fr, σ.w.heap[σ.ι b ver]? = some (.cells c T fr) → k + l.length ≤ c.size) :
    let τ : St := { σ with w := σ.w.setCells (σ.ι b ver) k vs, ι := fun b' v => if b' = b ∧ v = ver + 1 then σ.ι b ver else σ.ι b' v, H := σ.H.set b (.cells (.r T0) (ver + 1) (cs.take k ++ l)) }
    (storeCells ⟨σ.ι b ver, k, none⟩ vs).run P σ.w = .ok () τ.w ∧ τ.ok ∧ Ext σ τ := by
  intro τ
  obtain ⟨hH, _⟩ := ok.cellsAt ho
  obtain ⟨c, T, fr, hh, hszL, hcs, hfr, hleaf, hO⟩ := ok.objs b _ hH
  have hsz := hszL.1
  have hfitc := hfit _ _ _ hh
  obtain ⟨hT, hfr0⟩ := hszL.2.2 _ rfl
  have hlen := hr.length
  have hblt : b < σ.H.length := (List.getElem?_eq_some_iff.1 hH).1
  have hown : σ.owns (σ.ι b ver) 0 := ⟨b, (hO _ _).2 rfl⟩
  have hrun : (storeCells ⟨σ.ι b ver, k, none⟩ vs).run P σ.w = .ok () τ.w := by
    have := run_storeCells_cells (P := P) (σ.ι b ver) k vs 0 σ.w (fun j hj => by
      rw [cell_of hh]; simp; omega) (fun j hj => by
      rw [frozen_of hh]
      simp only [Bool.and_eq_false_iff, decide_eq_false_iff_not]
      omega) (hr.oneCells hl)
    simpa using this
  have hset : ∀ b', b' ≠ b → (σ.H.set b (.cells (.r T0) (ver + 1) (cs.take k ++ l)))[b']? = σ.H[b']? := fun b' h => List.getElem?_set_ne (Ne.symm h)
  have hsetb : (σ.H.set b (.cells (.r T0) (ver + 1) (cs.take k ++ l)))[b]? = some (.cells (.r T0) (ver + 1) (cs.take k ++ l)) := by simp [hblt]
  have hι : τ.ι b (ver + 1) = σ.ι b ver := by simp [τ]
  have e : Ext σ τ := by
    refine ⟨by simp [τ, size_setCells], (os_setCells ..).1, (os_setCells ..).2.1, (os_setCells ..).2.2, ?_, ?_, ?_, fun j o h => h, fun j o h _ => .inl h, fun j o h _ => h, fun b' m hm => ?_⟩
    · intro j o hj hn
      have : j ≠ σ.ι b ver := by rintro rfl; exact hn ⟨b, (hO _ _).2 rfl⟩
      simp only [World.cell?]
      rw [heap_setCells_ne _ _ _ _ this]
    · intro j hj hn
      exact heap_setCells_ne _ _ _ _ (by rintro rfl; exact hn 0 hown)
    · intro j c' T' fr' h
      by_cases hj : j = σ.ι b ver
      · subst hj
        rw [hh] at h; injection h with h; injection h with h1 h2 h3; subst h1; subst h2; subst h3
        exact ⟨_, _, heap_setCells_same _ _ _ _ hh, size_putCells _ _ _⟩
      · exact ⟨c', fr', by rw [show τ.w.heap[j]? = σ.w.heap[j]? from heap_setCells_ne _ _ _ _ hj]; exact h, rfl⟩
    · by_cases hbb : b' = b
      · subst hbb
        have hm' : m = ver := by have := St.vb_some hH; rw [hm] at this; injection this
        subst hm'
        refine ⟨m + 1, ?_, by omega, fun v hv => ?_⟩
        · show ((σ.H.set b' _)[b']?).map AObj.ver = _
          rw [hsetb]; rfl
        · simp only [τ]; rw [if_neg (by omega)]
      · refine ⟨m, ?_, Nat.le_refl _, fun v _ => ?_⟩
        · show ((σ.H.set b _)[b']?).map AObj.ver = _
          rw [hset b' hbb]; exact hm
        · simp only [τ]; rw [if_neg (fun h => hbb h.1)]
  refine ⟨hrun, ⟨?_, ?_, ok.disj, ok.fz, ?_, ?_⟩, e⟩
  · intro b' o h
    by_cases hbb : b' = b
    · subst hbb
      have : o = .cells (.r T0) (ver + 1) (cs.take k ++ l) := by
        have h' : (σ.H.set b' (.cells (.r T0) (ver + 1) (cs.take k ++ l)))[b']? = some o := h
        rw [hsetb] at h'; injection h' with h'; exact h'.symm
      subst this
      have hl2 : (cs.take k ++ l).length = k + l.length := by simp; omega
      refine ⟨putCells c k vs, T, fr, by rw [hι]; exact heap_setCells_same _ _ _ _ hh, ⟨by rw [hl2, size_putCells]; exact hfitc, fun T' hT' => (by cases hT'), fun T' hT' => (by injection hT' with hT'; subst hT'; exact ⟨hT, by rw [size_putCells]; exact hfr0⟩)⟩, ?_, fun i hi => by rw [hl2] at hi; omega, ?_, fun j o => by rw [hι]; exact hO j o⟩
      · rw [hl2, putCells_toList _ _ _ (by omega)]
        have hm := e.mon ok
        have h1 : RepVs τ (cs.take k) (c.toList.take k) := by
          have := (hcs.take k).mon hm
          rwa [List.take_take, Nat.min_eq_left (by omega)] at this
        have h2 : RepVs τ l vs := hr.mon hm
        have := h1.append h2
        have eq : List.take (k + l.length) (c.toList.take k ++ vs ++ c.toList.drop (k + vs.length)) = c.toList.take k ++ vs := by
          rw [List.take_left' (by simp; omega)]
        rw [eq]; exact this
      · intro x hx
        rcases List.mem_append.1 hx with hx | hx
        · exact hleaf x (List.mem_of_mem_take hx)
        · exact hl x hx
    · have h' : σ.H[b']? = some o := by rw [← hset b' hbb]; exact h
      refine (ok.objs b' o h').keep (e.mon ok) (fun _ _ => Iff.rfl) (St.vb_some h') (fun j p hp => heap_setCells_ne _ _ _ _ ?_)
      rintro rfl
      exact hbb (ok.one hp ((hO _ 0).2 rfl))
  · intro b' h j o ho'
    have hbb : b' ≠ b := by rintro rfl; have h' : (σ.H.set b' (.cells (.r T0) (ver + 1) (cs.take k ++ l)))[b']? = none := h; rw [hsetb] at h'; cases h'
    refine ok.out b' ?_ j o ho'
    rw [← hset b' hbb]; exact h
  · intro b' j o h; rw [show τ.w.heap.size = σ.w.heap.size from size_setCells ..]; exact ok.lt b' j o h
  · intro j o h; rw [show τ.w.heap.size = σ.w.heap.size from size_setCells ..]; exact ok.ltf j o h
theorem isSl_rep {v : V} {x : Value} (h : RepV σ v x) (hi : isSl v = true) : ∃ base n c, x = .slice base n c ∧ n ≤ c := by
  unfold isSl at hi
  split at hi
  · cases h with | p h => cases h with
      | sl hc => exact ⟨_, _, _, rfl, hc⟩
      | sl0 => exact ⟨_, _, _, rfl, Nat.zero_le _⟩
  · cases h with
    | vec _ hc => exact ⟨_, _, _, rfl, hc⟩
    | vec0 => exact ⟨_, _, _, rfl, Nat.zero_le _⟩
  · cases h with
    | own _ hc => exact ⟨_, _, _, rfl, hc⟩
    | own0 => exact ⟨_, _, _, rfl, Nat.zero_le _⟩
  · cases h with
    | row _ hc => exact ⟨_, _, _, rfl, hc⟩
    | row0 => exact ⟨_, _, _, rfl, Nat.zero_le _⟩
  · cases hi
theorem appOk_und (hT : TyOk C) {u : Nat} (hok : appOk (C.ty u).kind = true) : (∃ e', C.P.underlying u = some (.slice e')) ∨ C.P.underlying u = some .string := by
  unfold appOk at hok
  split at hok
  · rename_i e' hk
    obtain ⟨d, hu', hd⟩ := und_kind hT (t := u) (by rw [hk]; simp)
    rw [hk] at hd; have := desc_slice hd; subst this
    exact .inl ⟨e', hu'⟩
  · rename_i hk
    obtain ⟨d, hu', hd⟩ := und_kind hT (t := u) (by rw [hk]; simp)
    rw [hk] at hd; have := desc_str hd; subst this
    exact .inr hu'
  · cases hok
theorem appendRow_sound (hT : TyOk C) (ok : σ.ok) {t u ty : Nat} {s x v : V} {sv xv : Value} {H' : AHeap} (hs : RepV σ s sv) (hx : RepV σ x xv) (h : (appendRow C σ.H t u s x).out (v, H')) :
    Made C.P σ (Builtin.append_ #[t, u] ty #[sv, xv]) v H' := by
  unfold appendRow at h
  split at h
  case h_2 => exact (out_fail h).elim
  rename_i ti hok hti
  obtain ⟨hu, ht⟩ := elemId_und hT hti
  have huu := appOk_und hT hok
  split at h
  · -- nothing is appended
    rename_i ys hsrc
    obtain ⟨vs, a1, a2, a3, a4, a5, a6⟩ := srcCells_run (P := C.P) ok hx hsrc
    split at h
    · rename_i hi
      have := out_ret h; injection this with h1 h2; subst h1; subst h2
      obtain ⟨base, n, c, rfl, hc⟩ := isSl_rep hs hi
      simp at a6; subst a6
      refine ⟨_, σ, room_run (w' := σ.w) hu ht huu a1 (by simpa using hc) a2 (by cases base <;> simp [storeCells]), rfl, ok, Ext.refl σ, ?_⟩
      simpa using hs
    · exact (out_fail h).elim
  · rename_i m ys hsrc
    obtain ⟨news, a1, a2, a3, a4, a5, a6⟩ := srcCells_run (P := C.P) ok hx hsrc
    have hyl : ys.length = (m + 1) * ti.size := by rw [← a4.length]; exact a6
    obtain ⟨ok1, e1⟩ := ok.drew
    have hmon := e1.mon ok
    split at h
    · -- a new row
      rename_i xs
      obtain ⟨hall, hq⟩ := out_chk h
      obtain ⟨hroom, hq2⟩ := out_chk hq
      have := out_ret hq2; injection this with h1 h2; subst h1; subst h2
      have hxs1 := allSize_eq hall
      obtain ⟨olds, b1, b2, b3, b4, b5⟩ := appended_run (P := C.P) hs (ys := xs) rfl hxs1
      have key : ∃ base, sv = .slice base xs.length xs.length := by
        cases hs with
        | p hs => cases hs with
          | sl hc hf => have := hf rfl; subst this; exact ⟨_, rfl⟩
          | sl0 hf => have := hf rfl; subst this; exact ⟨_, rfl⟩
      obtain ⟨base, rfl⟩ := key
      have hol : olds.length = xs.length * ti.size := by rw [b3.length, flat_length hxs1]
      obtain ⟨cap, rest, g1, g2, g3⟩ := grow_run (ty := ty) (sCap := xs.length) hu ht huu a1 (by omega) hroom (b5 _ _ (fun _ _ _ => rfl) rfl) a3 hol a6
      have hrep : RepVs σ.drew ((xs.flatMap D.cells).map .p ++ ys) (olds ++ news) := ((b3.toV (σ := σ)).append a4).mon hmon
      have hlen2 : ((xs.flatMap D.cells).map V.p ++ ys).length = (olds ++ news).length := hrep.length.symm
      obtain ⟨τ, t1, t2, t3, t4, t5, t6⟩ := push_cells ok1 (.r (elemId C t)) (l := (xs.flatMap D.cells).map .p ++ ys) (c := ⟨olds ++ news ++ rest⟩) (T := elemId C t) (fr := (0, 0))
        ⟨by rw [hlen2]; simp, fun T' hT' => (by cases hT'), fun T' hT' => (by injection hT' with hT'; subst hT'; exact ⟨rfl, .inl rfl⟩)⟩
        (by rw [hlen2]; rw [List.take_left' rfl]; exact hrep) (fun y hy => by
          rcases List.mem_append.1 hy with hy | hy
          · exact leaf_map b4 y hy
          · exact a5 y hy) (by intro i _; simp)
      refine ⟨_, τ, by rw [g3, t1]; rfl, t2, t3, e1.trans t4, ?_⟩
      have hheap : τ.w.heap[τ.ι σ.H.length 0]? = some (.cells ⟨olds ++ news ++ rest⟩ (elemId C t) (0, 0)) := by
        have h6 : τ.ι σ.H.length 0 = σ.drew.w.heap.size := t6
        rw [h6, t1]; exact heap_push_new σ.drew.w _
      have := RepV.row (σ := τ) (b := σ.H.length) (ver := 0) (off := 0) (len := xs.length + (m + 1)) (s := ti.size) (c := cap) t5 g1 ⟨_, _, _, hheap, by rw [Nat.zero_add]; exact g2.symm⟩
      have h6 : τ.ι σ.H.length 0 = σ.w.heap.size := t6
      rw [h6] at this; exact this
    · rename_i b ver off len sz
      split at h
      case h_2 => exact (out_fail h).elim
      rename_i T cs ho
      split at h
      case h_2 => exact (out_fail h).elim
      rename_i hb3
      simp only [Bool.and_eq_true] at hb3
      have eT := Nat.eq_of_beq_eq_true hb3.1
      have es := Nat.eq_of_beq_eq_true hb3.2.1
      have hz0 : sz ≠ 0 := by intro e; rw [e] at hb3; simp at hb3
      rw [eT] at ho
      have hyl' : ys.length = (m + 1) * sz := by rw [es]; exact hyl
      obtain ⟨hH, cab, Tb, frb, hhb, hszb, hrb, hfrb, hlb, hOb⟩ := ok.cellsAt ho
      have hblt : b < σ.H.length := (List.getElem?_eq_some_iff.1 hH).1
      split at h
      · rename_i hin
        have hin := Nat.le_of_ble_eq_true hin
        have := out_ret h; injection this with h1 h2; subst h1; subst h2
        have hmul : (len + (m + 1)) * sz = len * sz + (m + 1) * sz := Nat.add_mul _ _ _
        cases hs with
        | row0 hid hb =>
          obtain ⟨ca, T2, fr2, hh2, hz2⟩ := hb
          rw [hhb] at hh2; injection hh2 with hh2; injection hh2 with q1 q2 q3; subst q1
          have : 0 < (m + 1) * sz := Nat.mul_pos (by omega) (by omega)
          omega
        | row hid hc hb =>
          rename_i c
          obtain ⟨ca, T2, fr2, hh2, hz2⟩ := hb
          rw [hhb] at hh2; injection hh2 with hh2; injection hh2 with q1 q2 q3; subst q1
          have hcc : len + (m + 1) ≤ c := by
            have : (len + (m + 1)) * sz ≤ c * sz := by omega
            exact Nat.le_of_mul_le_mul_right this (by omega)
          obtain ⟨r1, r2, r3⟩ := ok.store (P := C.P) (off := off + len * sz) (l := ys) (vs := news) ho (by omega) a5 a4
          refine ⟨.slice (some ⟨σ.ι b ver, off, none⟩) (len + (m + 1)) c, _, room_run hu ht huu a1 hcc a2 (by simp only [add_at]; rw [← es]; exact r1), by rw [eT], r2, r3, ?_⟩
          exact .row ((r3.mon ok).has hid).1 hcc ⟨_, _, _, heap_setCells_same _ _ _ _ hhb, by rw [size_putCells]; exact hz2⟩
      · split at h
        case h_2 => exact (out_fail h).elim
        rename_i hb2
        simp only [Bool.and_eq_true] at hb2
        have e0 := Nat.eq_of_beq_eq_true hb2.1
        have hk := Nat.le_of_ble_eq_true hb2.2
        subst e0
        obtain ⟨hroom, hq⟩ := out_chk h
        have := out_ret hq; injection this with h1 h2; subst h1; subst h2
        have hset : ∀ b', b' ≠ b → (σ.H.set b (.cells (.r (elemId C t)) (ver + 1) (cs.take (len * sz) ++ ys)))[b']? = σ.H[b']? := fun b' h => List.getElem?_set_ne (Ne.symm h)
        have hleaf2 : ∀ y ∈ cs.take (len * sz) ++ ys, y.leaf = true := fun y hy => by
          rcases List.mem_append.1 hy with hy | hy
          · exact hlb y (List.mem_of_mem_take hy)
          · exact a5 y hy
        have growing : ∀ {base : Option Addr} {c : Nat} {olds : List Value}, sv = .slice base len c → c < len + (m + 1) → (∀ w', w'.heap = σ.w.heap → (Builtin.firstCells ti.size len sv).run C.P w' = .ok ⟨olds⟩ w') → RepVs σ (cs.take (len * sz)) olds → olds.length = len * ti.size →
            Made C.P σ (Builtin.append_ #[t, u] ty #[sv, xv]) (.row b (ver + 1) 0 (len + (m + 1)) sz) (σ.H.set b (.cells (.r T) (ver + 1) (cs.take (len * sz) ++ ys))) := by
          intro base c olds hsv hlt hold hrep holen
          subst hsv
          obtain ⟨cap, rest, g1, g2, g3⟩ := grow_run (ty := ty) hu ht huu a1 hlt hroom (hold _ rfl) a3 holen a6
          have hr2 : RepVs σ.drew (cs.take (len * sz) ++ ys) (olds ++ news) := (hrep.append a4).mon hmon
          have hl2 := hr2.length
          have h := ok1.push (c := ⟨olds ++ news ++ rest⟩) (T := elemId C t) (fr := (0, 0)) (fz := fun _ => False) (own := fun _ => True) (b := b) (ver := ver + 1)
            (H := σ.H.set b (.cells (.r (elemId C t)) (ver + 1) (cs.take (len * sz) ++ ys))) (obj := .cells (.r (elemId C t)) (ver + 1) (cs.take (len * sz) ++ ys)) (by intro o h; cases h) hset (by simp [hblt]) rfl (fun q hq => by
              have h1 : σ.vb b = some q := hq
              have := St.vb_some hH; rw [h1] at this; injection this with this; rw [this]; exact Nat.lt_succ_self _) (fun mm => by
              refine ⟨⟨olds ++ news ++ rest⟩, elemId C t, (0, 0), ?_, ⟨by rw [← hl2]; simp, fun T' hT' => (by cases hT'), fun T' hT' => (by injection hT' with hT'; subst hT'; exact ⟨rfl, .inl rfl⟩)⟩, ?_, (by intro i _; simp), hleaf2, fun j o => ?_⟩
              · simp only [St.push, and_self, if_true]; exact heap_push_new _ _
              · rw [← hl2, List.take_left' rfl]; exact hr2.mon mm
              · simp only [St.push, if_true, and_true, and_self])
          refine ⟨_, _, by rw [g3]; rfl, by rw [eT]; rfl, h.1, e1.trans h.2, ?_⟩
          have hι : (σ.drew.push ⟨olds ++ news ++ rest⟩ (elemId C t) (0, 0) (fun _ => False) b (ver + 1) (fun _ => True) (σ.H.set b (.cells (.r (elemId C t)) (ver + 1) (cs.take (len * sz) ++ ys)))).ι b (ver + 1) = σ.w.heap.size := by simp [St.push, St.drew]
          have hheap := heap_push_new σ.drew.w (.cells ⟨olds ++ news ++ rest⟩ (elemId C t) (0, 0))
          have := RepV.row (σ := σ.drew.push ⟨olds ++ news ++ rest⟩ (elemId C t) (0, 0) (fun _ => False) b (ver + 1) (fun _ => True) (σ.H.set b (.cells (.r (elemId C t)) (ver + 1) (cs.take (len * sz) ++ ys)))) (b := b) (ver := ver + 1) (off := 0) (len := len + (m + 1)) (s := sz) (c := cap)
            ⟨ver + 1, by show ((σ.H.set b _)[b]?).map AObj.ver = _; simp [hblt, AObj.ver], Nat.le_refl _⟩ g1 ⟨_, _, _, by rw [hι]; exact hheap, by rw [Nat.zero_add, es]; exact g2.symm⟩
          rw [hι] at this; exact this
        cases hs with
        | row0 hid hb =>
          exact growing (olds := []) rfl (by omega) (fun w' _ => first_none _ _ _) (by simp; exact .nil) (by simp)
        | row hid hc hb =>
          rename_i c
          obtain ⟨ca, T2, fr2, hh2, hz2⟩ := hb
          rw [hhb] at hh2; injection hh2 with hh2; injection hh2 with q1 q2 q3; subst q1
          by_cases hcc : len + (m + 1) ≤ c
          · have hmul : (len + (m + 1)) * sz = len * sz + (m + 1) * sz := Nat.add_mul _ _ _
            have hle : (len + (m + 1)) * sz ≤ c * sz := Nat.mul_le_mul_right _ hcc
            obtain ⟨r1, r2, r3⟩ := ok.extend (P := C.P) (k := len * sz) (l := ys) (vs := news) ho hk a5 a4 (fun c' T' fr' h' => by
              rw [hhb] at h'; injection h' with h'; injection h' with q1 _ _; subst q1; omega)
            refine ⟨.slice (some ⟨σ.ι b ver, 0, none⟩) (len + (m + 1)) c, _, room_run hu ht huu a1 hcc a2 (by simp only [add_at, Nat.zero_add]; rw [← es]; exact r1), by rw [eT], r2, r3, ?_⟩
            have hheap := heap_setCells_same (σ.ι b ver) news (len * sz) σ.w hhb
            have := RepV.row (σ := { σ with w := σ.w.setCells (σ.ι b ver) (len * sz) news, ι := fun b' v => if b' = b ∧ v = ver + 1 then σ.ι b ver else σ.ι b' v, H := σ.H.set b (.cells (.r (elemId C t)) (ver + 1) (cs.take (len * sz) ++ ys)) }) (b := b) (ver := ver + 1) (off := 0) (len := len + (m + 1)) (s := sz) (c := c)
              ⟨ver + 1, by show ((σ.H.set b _)[b]?).map AObj.ver = _; simp [hblt, AObj.ver], Nat.le_refl _⟩ hcc ⟨_, _, _, by simp only [and_self, if_true]; exact hheap, by rw [size_putCells]; exact hz2⟩
            simpa using this
          · obtain ⟨_, vs, h1, h2, h3, h4, _⟩ := srcOwn_run (P := C.P) (c := c) (s := sz) (b := b) (ver := ver) (off := 0) (n := len) (m := len) (ys := (cs.drop 0).take (len * sz)) ok (by
              unfold srcOwn; rw [ho]; simp only [Nat.zero_add]; have hkk : (len * sz).ble cs.length = true := hb2.2
              rw [hkk])
            exact growing rfl (by omega) (fun w' hw => by rw [← es]; exact h1 w' hw) (by simpa using h2) (by rw [← es]; exact h4)
    · rename_i b ver off len s0
      split at h
      case h_2 => exact (out_fail h).elim
      rename_i q zs hzs
      obtain ⟨hroom, hq⟩ := out_chk h
      have := out_ret hq; injection this with h1 h2; subst h1; subst h2
      have growing : ∀ {base : Option Addr} {olds : List Value}, sv = .slice base len len → (∀ w', w'.heap = σ.w.heap → (Builtin.firstCells ti.size len sv).run C.P w' = .ok ⟨olds⟩ w') → RepVs σ zs olds → (∀ y ∈ zs, y.leaf = true) → olds.length = len * ti.size →
          Made C.P σ (Builtin.append_ #[t, u] ty #[sv, xv]) (.row σ.H.length 0 0 (len + (m + 1)) ti.size) (σ.H ++ [.cells (.r (elemId C t)) 0 (zs ++ ys)]) := by
        intro base olds hsv hold hrep hzl holen
        subst hsv
        obtain ⟨cap, rest, g1, g2, g3⟩ := grow_run (ty := ty) hu ht huu a1 (by omega) hroom (hold _ rfl) a3 holen a6
        have hr2 : RepVs σ.drew (zs ++ ys) (olds ++ news) := (hrep.append a4).mon hmon
        have hlen2 := hr2.length
        obtain ⟨τ, t1, t2, t3, t4, t5, t6⟩ := push_cells ok1 (.r (elemId C t)) (l := zs ++ ys) (c := ⟨olds ++ news ++ rest⟩) (T := elemId C t) (fr := (0, 0))
          ⟨by rw [← hlen2]; simp, fun T' hT' => (by cases hT'), fun T' hT' => (by injection hT' with hT'; subst hT'; exact ⟨rfl, .inl rfl⟩)⟩
          (by rw [← hlen2, List.take_left' rfl]; exact hr2) (fun y hy => by
            rcases List.mem_append.1 hy with hy | hy
            · exact hzl y hy
            · exact a5 y hy) (by intro i _; simp)
        refine ⟨_, τ, by rw [g3, t1]; rfl, t2, t3, e1.trans t4, ?_⟩
        have hheap : τ.w.heap[τ.ι σ.H.length 0]? = some (.cells ⟨olds ++ news ++ rest⟩ (elemId C t) (0, 0)) := by
          have h6 : τ.ι σ.H.length 0 = σ.drew.w.heap.size := t6
          rw [h6, t1]; exact heap_push_new σ.drew.w _
        have := RepV.row (σ := τ) (b := σ.H.length) (ver := 0) (off := 0) (len := len + (m + 1)) (s := ti.size) (c := cap) t5 g1 ⟨_, _, _, hheap, by rw [Nat.zero_add]; exact g2.symm⟩
        have h6 : τ.ι σ.H.length 0 = σ.w.heap.size := t6
        rw [h6] at this; exact this
      cases hs with
      | own0 hid hf =>
        have := hf rfl; subst this
        obtain ⟨_, vs, p1, p2, p3, p4, p5⟩ := srcOwn_run (P := C.P) (c := 0) ok hzs
        have hz := p5 rfl
        subst hz
        exact growing (olds := []) rfl (fun w' _ => first_none _ _ _) .nil (by simp) (by simp)
      | own hid hc hf =>
        have := hf rfl; subst this
        obtain ⟨_, vs, p1, p2, p3, p4, _⟩ := srcOwn_run (P := C.P) (c := _) ok hzs
        exact growing rfl (fun w' hw => p1 w' hw) p2 p3 p4
    · exact (out_fail h).elim
  · exact (out_fail h).elim
end
end Go.Abs
