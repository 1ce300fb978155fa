/- Soundness of calls: over some of the call's own blocks. -/
import Derived.Test.YtpmejcfbnghaeaaGreatDoorT11
namespace Go.Abs
set_option linter.unusedVariables false
set_option linter.unusedSimpArgs false
set_option linter.unusedSectionVars false
section
variable {C : Ctx} {σ : St}

theorem nodup_inj : ∀ {l : List Nat}, l.Nodup → ∀ {i j : Nat} (hi : i < l.length) (hj : j < l.length), l[i] = l[j] → i = j
  | [], _, i, j, hi, _, _ => by simp at hi
  | x :: r, h, 0, 0, _, _, _ => rfl
  | x :: r, h, 0, j + 1, _, hj, e => by
    rw [List.nodup_cons] at h
    simp at e hj
    exact absurd (by rw [e]; exact List.getElem_mem _) h.1
  | x :: r, h, i + 1, 0, hi, _, e => by
    rw [List.nodup_cons] at h
    simp at e hi
    exact absurd (by rw [← e]; exact List.getElem_mem _) h.1
  | x :: r, h, i + 1, j + 1, hi, hj, e => by
    rw [List.nodup_cons] at h
    simp at e hi hj
    rw [nodup_inj h.2 hi hj e]
theorem picks_at : ∀ {H : AHeap} {sel : List Nat} {l : AHeap}, picks H sel = some l → l.length = sel.length ∧ ∀ (k b : Nat), sel[k]? = some b → H[b]? = l[k]?
  | H, [], l, h => by simp [picks] at h; subst h; simp
  | H, b :: sel, l, h => by
    simp only [picks] at h
    cases h1 : H[b]? with
    | none => simp [h1] at h
    | some o =>
      cases h2 : picks H sel with
      | none => simp [h1, h2] at h
      | some r =>
        simp [h1, h2] at h; subst h
        obtain ⟨p1, p2⟩ := picks_at h2
        refine ⟨by simp [p1], fun k b' hk => ?_⟩
        cases k with
        | zero => simp at hk; subst hk; simpa using h1
        | succ k => simp at hk; simpa using p2 k b' hk
theorem place_lt {sel : List Nat} {n k : Nat} (h : k < sel.length) : place sel n k = sel[k] := by simp [place, List.getElem?_eq_getElem h]
theorem place_ge {sel : List Nat} {n k : Nat} (h : sel.length ≤ k) : place sel n k = n + (k - sel.length) := by simp [place, List.getElem?_eq_none h]
theorem ren_ver (ρ : Nat → Nat) (o : AObj) : (o.ren ρ).ver = o.ver := by cases o <;> rfl
theorem ren_leaf (ρ : Nat → Nat) (v : V) : (v.ren ρ).leaf = v.leaf := by cases v <;> simp [V.ren, V.leaf]
theorem rens_map (ρ : Nat → Nat) : ∀ l : List V, rens ρ l = l.map (V.ren ρ)
  | [] => rfl
  | v :: r => by simp [rens, rens_map ρ r]
/-- Where a block of the caller's is the callee's. -/
def unplace (sel : List Nat) (n b : Nat) : Option Nat := if b < n then sel.findIdx? (fun x => x == b) else some (sel.length + (b - n))
theorem unplace_iff {sel : List Nat} {n : Nat} (hn : sel.Nodup) (hlt : ∀ b ∈ sel, b < n) (b k : Nat) : unplace sel n b = some k ↔ place sel n k = b := by
  unfold unplace
  by_cases hb : b < n
  · rw [if_pos hb]
    constructor
    · intro h
      rw [List.findIdx?_eq_some_iff_getElem] at h
      obtain ⟨h1, h2, _⟩ := h
      rw [place_lt h1]
      simpa using h2
    · intro h
      rcases Nat.lt_or_ge k sel.length with hk | hk
      · rw [place_lt hk] at h
        rw [List.findIdx?_eq_some_iff_getElem]
        refine ⟨hk, by simp [h], fun j hj => ?_⟩
        have hne : sel[j] ≠ sel[k] := fun e => by
          have := nodup_inj hn (by omega) hk e
          omega
        simp; rw [← h]; exact hne
      · rw [place_ge hk] at h; omega
  · rw [if_neg hb]
    constructor
    · intro h
      injection h with h
      rw [place_ge (by omega)]; omega
    · intro h
      rcases Nat.lt_or_ge k sel.length with hk | hk
      · rw [place_lt hk] at h
        have := hlt _ (List.getElem_mem hk)
        omega
      · rw [place_ge hk] at h; congr 1; omega
theorem merge_len (ρ : Nat → Nat) : ∀ (sel : List Nat) (H H1 : AHeap), sel.length ≤ H1.length → (merge ρ sel H H1).length = H.length + (H1.length - sel.length)
  | [], H, H1, _ => by simp [merge]
  | b :: sel, H, [], h => by simp at h
  | b :: sel, H, o :: H1, h => by
    simp only [List.length_cons] at h
    rw [merge, merge_len ρ sel _ _ (by omega)]
    simp
theorem merge_hi (ρ : Nat → Nat) : ∀ (sel : List Nat) (H H1 : AHeap) (b : Nat), sel.length ≤ H1.length → H.length ≤ b → (merge ρ sel H H1)[b]? = (H1[sel.length + (b - H.length)]?).map (AObj.ren ρ)
  | [], H, H1, b, _, hb => by simp [merge, List.getElem?_append_right hb]
  | c :: sel, H, [], b, h, _ => by simp at h
  | c :: sel, H, o :: H1, b, h, hb => by
    simp only [List.length_cons] at h
    rw [merge, merge_hi ρ sel _ _ b (by omega) (by simpa using hb)]
    simp only [List.length_set, List.length_cons]
    rw [show sel.length + 1 + (b - H.length) = (sel.length + (b - H.length)) + 1 by omega, List.getElem?_cons_succ]
theorem merge_out (ρ : Nat → Nat) : ∀ (sel : List Nat) (H H1 : AHeap) (b : Nat), sel.length ≤ H1.length → b < H.length → b ∉ sel → (merge ρ sel H H1)[b]? = H[b]?
  | [], H, H1, b, _, hb, _ => by simp [merge, List.getElem?_append_left hb]
  | c :: sel, H, [], b, h, _, _ => by simp at h
  | c :: sel, H, o :: H1, b, h, hb, hn => by
    simp only [List.length_cons] at h
    simp only [List.mem_cons, not_or] at hn
    rw [merge, merge_out ρ sel _ _ b (by omega) (by simpa using hb) hn.2, List.getElem?_set_ne (Ne.symm hn.1)]
theorem merge_in (ρ : Nat → Nat) : ∀ (sel : List Nat) (H H1 : AHeap) (k : Nat) (hk : k < sel.length), sel.length ≤ H1.length → sel.Nodup → (∀ b ∈ sel, b < H.length) → (merge ρ sel H H1)[sel[k]]? = (H1[k]?).map (AObj.ren ρ)
  | [], H, H1, k, hk, _, _, _ => by simp at hk
  | c :: sel, H, [], k, hk, h, _, _ => by simp at h
  | c :: sel, H, o :: H1, 0, hk, h, hn, hlt => by
    simp only [List.length_cons] at h
    rw [List.nodup_cons] at hn
    rw [merge, List.getElem_cons_zero, merge_out ρ sel _ _ c (by omega) (by simpa using hlt c (by simp)) hn.1]
    have := hlt c (by simp)
    simp [this]
  | c :: sel, H, o :: H1, k + 1, hk, h, hn, hlt => by
    simp only [List.length_cons] at h hk
    rw [List.nodup_cons] at hn
    rw [merge, List.getElem_cons_succ, merge_in ρ sel _ _ k (by omega) (by omega) hn.2 (fun b hb => by simpa using hlt b (by simp [hb]))]
    simp

/-- The callee's part of a state. -/
def St.part (σ : St) (sel : List Nat) (H0 : AHeap) : St where
  w := σ.w
  Fz := σ.Fz
  ι := fun k v => σ.ι (place sel σ.H.length k) v
  O := fun k j o => k < sel.length ∧ σ.O (place sel σ.H.length k) j o
  H := H0
section
variable {sel : List Nat} {H0 : AHeap} (hn : sel.Nodup) (hlt : ∀ b ∈ sel, b < σ.H.length) (hp : picks σ.H sel = some (H0.map (AObj.ren (place sel σ.H.length))))
include hn hlt hp
theorem part_vb (k : Nat) : (σ.part sel H0).vb k = σ.vb (place sel σ.H.length k) := by
  obtain ⟨p1, p2⟩ := picks_at hp
  rw [List.length_map] at p1
  show (H0[k]?).map AObj.ver = (σ.H[place sel σ.H.length k]?).map AObj.ver
  rcases Nat.lt_or_ge k sel.length with hk | hk
  · rw [place_lt hk, p2 k _ (List.getElem?_eq_getElem hk), List.getElem?_map, Option.map_map]
    congr 1
    funext o; exact (ren_ver _ o).symm
  · rw [place_ge hk, List.getElem?_eq_none (by omega), List.getElem?_eq_none (by omega)]
theorem part_has {b ver : Nat} (h : σ.has (place sel σ.H.length b) ver) : (σ.part sel H0).has b ver := by
  obtain ⟨m, h1, h2⟩ := h
  exact ⟨m, by rw [part_vb hn hlt hp]; exact h1, h2⟩
mutual
theorem part_rep : ∀ {v : V} {x : Value}, RepV σ (v.ren (place sel σ.H.length)) x → RepV (σ.part sel H0) v x
  | .p d, x, h => by cases h with | p h => exact .p h
  | .top, x, h => .top
  | .vec b s xs, x, h => by
    simp only [V.ren] at h
    cases h with
    | vec hid hc hs hl hr hd hb => exact .vec (part_has hn hlt hp hid) hc hs hl hr hd hb
    | vec0 hid => exact .vec0 (part_has hn hlt hp hid)
  | .row b ver off len s, x, h => by
    simp only [V.ren] at h
    cases h with
    | row hid hc hb => exact .row (part_has hn hlt hp hid) hc hb
    | row0 hid hb => exact .row0 (part_has hn hlt hp hid) hb
  | .vptr b s xs, x, h => by
    simp only [V.ren] at h
    cases h with
    | vptr hid hs hl hr hd => exact .vptr (part_has hn hlt hp hid) hs hl hr hd
  | .own b ver off len s full, x, h => by
    simp only [V.ren] at h
    cases h with
    | own hid hc hf => exact .own (part_has hn hlt hp hid) hc hf
    | own0 hid hf => exact .own0 (part_has hn hlt hp hid) hf
  | .mp b, x, h => by
    simp only [V.ren] at h
    cases h with
    | mp hid => exact .mp (part_has hn hlt hp hid)
  | .bfn f l, x, h => by
    simp only [V.ren] at h
    cases h with
    | bfn h => exact .bfn (part_reps h)
  | .ptr b ver off, x, h => by
    simp only [V.ren] at h
    cases h with
    | ptr hid => exact .ptr (part_has hn hlt hp hid)
  | .agg l, x, h => by
    simp only [V.ren] at h
    cases h with
    | agg hl h => exact .agg (fun d hd => by
        have := hl (d.ren (place sel σ.H.length)) (by rw [rens_map]; exact List.mem_map_of_mem hd)
        rwa [ren_leaf] at this) (part_reps h)
  | .fn f l, x, h => by
    simp only [V.ren] at h
    cases h with
    | fn h => exact .fn (part_reps h)
  | .tup l, x, h => by
    simp only [V.ren] at h
    cases h with
    | tup h => exact .tup (part_reps h)
theorem part_reps : ∀ {v : List V} {x : List Value}, RepVs σ (rens (place sel σ.H.length) v) x → RepVs (σ.part sel H0) v x
  | [], x, h => by simp only [rens] at h; cases h; exact .nil
  | v :: r, x, h => by
    simp only [rens] at h
    cases h with
    | cons h t => exact .cons (part_rep h) (part_reps t)
end
theorem part_owns {j o : Nat} (h : (σ.part sel H0).owns j o) : ∃ b ∈ sel, σ.O b j o := by
  obtain ⟨k, hk, h⟩ := h
  rw [place_lt hk] at h
  exact ⟨_, List.getElem_mem hk, h⟩
theorem part_ok (ok : σ.ok) : (σ.part sel H0).ok := by
  obtain ⟨p1, p2⟩ := picks_at hp
  rw [List.length_map] at p1
  refine ⟨?_, ?_, ?_, ?_, ?_, ok.ltf⟩
  · intro k o h
    have hk : k < sel.length := by rw [← p1]; exact (List.getElem?_eq_some_iff.1 h).1
    have h2 : σ.H[sel[k]]? = some (o.ren (place sel σ.H.length)) := by
      rw [p2 k _ (List.getElem?_eq_getElem hk), List.getElem?_map]
      have h' : H0[k]? = some o := h
      rw [h']; rfl
    have hr := ok.objs _ _ h2
    have hpl : place sel σ.H.length k = sel[k] := place_lt hk
    cases o with
    | cells lz v cs =>
      obtain ⟨c, T, fr, r1, r2, r3, r4, r5, r6⟩ := hr
      have hlen : (rens (place sel σ.H.length) cs).length = cs.length := by rw [rens_map]; simp
      rw [hlen] at r2 r3 r4
      refine ⟨c, T, fr, by show σ.w.heap[σ.ι (place sel σ.H.length k) v]? = _; rw [hpl]; exact r1, r2, part_reps hn hlt hp r3, r4, fun x hx => ?_, fun j o => ?_⟩
      · have := r5 (x.ren (place sel σ.H.length)) (by rw [rens_map]; exact List.mem_map_of_mem hx)
        rwa [ren_leaf] at this
      · show (k < sel.length ∧ σ.O (place sel σ.H.length k) j o) ↔ j = σ.ι (place sel σ.H.length k) v
        rw [hpl, r6]; simp [hk]
    | tok T s n =>
      rcases hr with ⟨r1, r2⟩ | ⟨c, fr, q, r1, r2, r3, r4, r5⟩
      · exact .inl ⟨r1, fun j o h => r2 j o (by rw [← hpl]; exact h.2)⟩
      · refine .inr ⟨c, fr, q, by show σ.w.heap[σ.ι (place sel σ.H.length k) n]? = _; rw [hpl]; exact r1, r2, r3, r4, fun j o => ?_⟩
        show (k < sel.length ∧ σ.O (place sel σ.H.length k) j o) ↔ (j = σ.ι (place sel σ.H.length k) n ∧ n * s ≤ o)
        rw [hpl, r5]; simp [hk]
    | dead v => exact fun j o h => hr j o (by rw [← hpl]; exact h.2)
    | map ks vs =>
      obtain ⟨es, ck, l, r1, r2, r3, r4, r5, r6⟩ := hr
      refine ⟨es, ck, l, by show σ.w.heap[σ.ι (place sel σ.H.length k) 0]? = _; rw [hpl]; exact r1, r2, r3, part_reps hn hlt hp r4, part_reps hn hlt hp r5, fun j o => ?_⟩
      show (k < sel.length ∧ σ.O (place sel σ.H.length k) j o) ↔ j = σ.ι (place sel σ.H.length k) 0
      rw [hpl, r6]; simp [hk]
  · intro k h j o ho
    have h' : H0[k]? = none := h
    rw [List.getElem?_eq_none_iff] at h'
    exact absurd ho.1 (by omega)
  · intro k k' j o hne h1 h2
    have e := ok.one h1.2 h2.2
    rw [place_lt h1.1, place_lt h2.1] at e
    exact hne (nodup_inj hn h1.1 h2.1 e)
  · intro k j o h; exact ok.fz _ j o h.2
  · intro k j o h; exact ok.lt _ j o h.2
end
/-- The caller's state behind the call. -/
def St.join (σ τ0 : St) (sel : List Nat) : St where
  w := τ0.w
  Fz := τ0.Fz
  ι := fun b v => match unplace sel σ.H.length b with
    | some k => τ0.ι k v
    | none => σ.ι b v
  O := fun b => match unplace sel σ.H.length b with
    | some k => τ0.O k
    | none => σ.O b
  H := merge (place sel σ.H.length) sel σ.H τ0.H
section
variable {τ0 : St} {sel : List Nat} {H0 : AHeap} (hn : sel.Nodup) (hlt : ∀ b ∈ sel, b < σ.H.length) (hp : picks σ.H sel = some (H0.map (AObj.ren (place sel σ.H.length)))) (ext : Ext (σ.part sel H0) τ0)
include hn hlt hp ext
theorem join_size : sel.length ≤ τ0.H.length := by
  obtain ⟨p1, _⟩ := picks_at hp
  rw [List.length_map] at p1
  rcases Nat.eq_zero_or_pos sel.length with h | h
  · omega
  · have hk : sel.length - 1 < H0.length := by omega
    obtain ⟨m', h1, _⟩ := ext.ids (sel.length - 1) _ (St.vb_some (σ := σ.part sel H0) (List.getElem?_eq_getElem hk))
    have := St.vb_lt h1
    omega
theorem join_at (b : Nat) : (σ.join τ0 sel).H[b]? = match unplace sel σ.H.length b with
    | some k => (τ0.H[k]?).map (AObj.ren (place sel σ.H.length))
    | none => σ.H[b]? := by
  have hsz := join_size hn hlt hp ext
  show (merge (place sel σ.H.length) sel σ.H τ0.H)[b]? = _
  cases hu : unplace sel σ.H.length b with
  | some k =>
    have hk := (unplace_iff hn hlt b k).1 hu
    simp only
    rcases Nat.lt_or_ge k sel.length with h | h
    · rw [place_lt h] at hk
      rw [← hk, merge_in _ _ _ _ k h hsz hn hlt]
    · rw [place_ge h] at hk
      rw [merge_hi _ _ _ _ b hsz (by omega)]
      congr 2; omega
  | none =>
    simp only
    have hb : b < σ.H.length := by
      rcases Nat.lt_or_ge b σ.H.length with h | h
      · exact h
      · unfold unplace at hu; rw [if_neg (by omega)] at hu; cases hu
    refine merge_out _ _ _ _ b hsz hb (fun hm => ?_)
    obtain ⟨k, hk, e⟩ := List.getElem_of_mem hm
    have := (unplace_iff (n := σ.H.length) hn hlt b k).2 (by rw [place_lt hk, e])
    rw [hu] at this; cases this
theorem join_vb (k : Nat) : (σ.join τ0 sel).vb (place sel σ.H.length k) = τ0.vb k := by
  unfold St.vb
  rw [join_at hn hlt hp ext, (unplace_iff hn hlt _ k).2 rfl]
  simp only [Option.map_map]
  congr 1
  funext o; exact ren_ver _ o
theorem join_ι (k v : Nat) : (σ.join τ0 sel).ι (place sel σ.H.length k) v = τ0.ι k v := by
  show (match unplace sel σ.H.length (place sel σ.H.length k) with
    | some k => τ0.ι k v
    | none => σ.ι _ v) = _
  rw [(unplace_iff hn hlt _ k).2 rfl]
theorem join_has {b ver : Nat} (h : τ0.has b ver) : (σ.join τ0 sel).has (place sel σ.H.length b) ver := by
  obtain ⟨m, h1, h2⟩ := h
  exact ⟨m, by rw [join_vb hn hlt hp ext]; exact h1, h2⟩
mutual
theorem join_rep : ∀ {v : V} {x : Value}, RepV τ0 v x → RepV (σ.join τ0 sel) (v.ren (place sel σ.H.length)) x
  | .p d, x, h => by cases h with | p h => exact .p h
  | .top, x, h => .top
  | .vec b s xs, x, h => by
    simp only [V.ren]
    cases h with
    | vec hid hc hs hl hr hd hb =>
      have := RepV.vec (σ := σ.join τ0 sel) (b := place sel σ.H.length b) (s := s) (xs := xs) (join_has hn hlt hp ext hid) hc hs hl (by rw [join_ι hn hlt hp ext]; exact hr) hd (by rw [join_ι hn hlt hp ext]; exact hb)
      rw [join_ι hn hlt hp ext] at this
      exact this
    | vec0 hid => exact .vec0 (join_has hn hlt hp ext hid)
  | .row b ver off len s, x, h => by
    simp only [V.ren]
    cases h with
    | row hid hc hb =>
      have := RepV.row (σ := σ.join τ0 sel) (b := place sel σ.H.length b) (s := s) (join_has hn hlt hp ext hid) hc (by rw [join_ι hn hlt hp ext]; exact hb)
      rw [join_ι hn hlt hp ext] at this
      exact this
    | row0 hid hb => exact .row0 (join_has hn hlt hp ext hid) (by rw [join_ι hn hlt hp ext]; exact hb)
  | .vptr b s xs, x, h => by
    simp only [V.ren]
    cases h with
    | vptr hid hs hl hr hd =>
      have := RepV.vptr (σ := σ.join τ0 sel) (b := place sel σ.H.length b) (s := s) (xs := xs) (join_has hn hlt hp ext hid) hs hl (by rw [join_ι hn hlt hp ext]; exact hr) hd
      rw [join_ι hn hlt hp ext] at this
      exact this
  | .own b ver off len s full, x, h => by
    simp only [V.ren]
    cases h with
    | own hid hc hf =>
      have := RepV.own (σ := σ.join τ0 sel) (off := off) (s := s) (join_has hn hlt hp ext hid) hc hf
      rw [join_ι hn hlt hp ext] at this
      exact this
    | own0 hid hf => exact .own0 (join_has hn hlt hp ext hid) hf
  | .mp b, x, h => by
    simp only [V.ren]
    cases h with
    | mp hid =>
      have := RepV.mp (σ := σ.join τ0 sel) (join_has hn hlt hp ext hid)
      rw [join_ι hn hlt hp ext] at this
      exact this
  | .bfn f l, x, h => by
    simp only [V.ren]
    cases h with
    | bfn h => exact .bfn (join_reps h)
  | .ptr b ver off, x, h => by
    simp only [V.ren]
    cases h with
    | ptr hid =>
      have := RepV.ptr (σ := σ.join τ0 sel) (off := off) (join_has hn hlt hp ext hid)
      rw [join_ι hn hlt hp ext] at this
      exact this
  | .agg l, x, h => by
    simp only [V.ren]
    cases h with
    | agg hl h => exact .agg (fun d hd => by
        rw [rens_map] at hd
        obtain ⟨y, hy, rfl⟩ := List.mem_map.1 hd
        rw [ren_leaf]; exact hl y hy) (join_reps h)
  | .fn f l, x, h => by
    simp only [V.ren]
    cases h with
    | fn h => exact .fn (join_reps h)
  | .tup l, x, h => by
    simp only [V.ren]
    cases h with
    | tup h => exact .tup (join_reps h)
theorem join_reps : ∀ {v : List V} {x : List Value}, RepVs τ0 v x → RepVs (σ.join τ0 sel) (rens (place sel σ.H.length) v) x
  | [], x, h => by cases h; exact .nil
  | v :: r, x, h => by
    simp only [rens]
    cases h with
    | cons h t => exact .cons (join_rep h) (join_reps t)
end
theorem join_ext (ok : σ.ok) (ok0 : τ0.ok) : Ext σ (σ.join τ0 sel) := by
  have noOwn : ∀ j o, ¬ σ.owns j o → ¬ (σ.part sel H0).owns j o := fun j o h h2 => by
    obtain ⟨b, _, hb⟩ := part_owns hn hlt hp h2
    exact h ⟨b, hb⟩
  refine ⟨ext.size, ext.os, ext.tape, ext.output, fun j o hj h => ext.cell j o hj (noOwn j o h), fun j hj h => ext.block j hj (fun o => noOwn j o (h o)), ext.shape, ext.fz, ?_, ?_, ?_⟩
  · intro j o h hj
    rcases ext.fzn j o h hj with h | h
    · exact .inl h
    · obtain ⟨b, _, hb⟩ := part_owns hn hlt hp h
      exact .inr ⟨b, hb⟩
  · rintro j o ⟨b, h⟩ hj
    simp only [St.join] at h
    cases hu : unplace sel σ.H.length b with
    | some k =>
      rw [hu] at h
      obtain ⟨b', _, hb⟩ := part_owns hn hlt hp (ext.ownn j o ⟨k, h⟩ hj)
      exact ⟨b', hb⟩
    | none => rw [hu] at h; exact ⟨b, h⟩
  · intro b m hm
    cases hu : unplace sel σ.H.length b with
    | some k =>
      have hk := (unplace_iff hn hlt b k).1 hu
      subst hk
      rw [← part_vb hn hlt hp] at hm
      obtain ⟨m', h1, h2, h3⟩ := ext.ids k m hm
      exact ⟨m', by rw [join_vb hn hlt hp ext]; exact h1, h2, fun v hv => by rw [join_ι hn hlt hp ext]; exact h3 v hv⟩
    | none =>
      refine ⟨m, ?_, Nat.le_refl _, fun v _ => ?_⟩
      · unfold St.vb
        rw [join_at hn hlt hp ext, hu]
        exact hm
      · simp only [St.join, hu]
theorem join_ok (ok : σ.ok) (ok0 : τ0.ok) : (σ.join τ0 sel).ok := by
  have e := join_ext hn hlt hp ext ok ok0
  have notIn : ∀ b, unplace sel σ.H.length b = none → ∀ b' ∈ sel, b ≠ b' := by
    rintro b hu b' hb' rfl
    obtain ⟨k, hk, e⟩ := List.getElem_of_mem hb'
    have := (unplace_iff (n := σ.H.length) hn hlt b k).2 (by rw [place_lt hk, e])
    rw [hu] at this; cases this
  have apart : ∀ b, unplace sel σ.H.length b = none → ∀ j o p, σ.O b j o → ¬ (σ.part sel H0).owns j p := by
    intro b hu j o p ho h2
    obtain ⟨b', hb', hb2⟩ := part_owns hn hlt hp h2
    exact notIn b hu b' hb' (ok.one ho hb2)
  refine ⟨?_, ?_, ?_, ?_, ?_, ok0.ltf⟩
  · intro b o h
    rw [join_at hn hlt hp ext] at h
    cases hu : unplace sel σ.H.length b with
    | some k =>
      rw [hu] at h
      simp only at h
      cases hk : τ0.H[k]? with
      | none => rw [hk] at h; cases h
      | some o' =>
        rw [hk] at h; simp only [Option.map_some, Option.some.injEq] at h; subst h
        have hb := (unplace_iff hn hlt b k).1 hu
        subst hb
        have hr := ok0.objs k o' hk
        have hO : ∀ j o, (σ.join τ0 sel).O (place sel σ.H.length k) j o ↔ τ0.O k j o := by
          intro j o; simp only [St.join, hu]
        cases o' with
        | cells lz v cs =>
          obtain ⟨c, T, fr, r1, r2, r3, r4, r5, r6⟩ := hr
          have hlen : (rens (place sel σ.H.length) cs).length = cs.length := by rw [rens_map]; simp
          refine ⟨c, T, fr, by rw [join_ι hn hlt hp ext]; exact r1, by rw [hlen]; exact r2, by rw [hlen]; exact join_reps hn hlt hp ext r3, by rw [hlen]; exact r4, fun x hx => ?_, fun j o => by rw [hO, join_ι hn hlt hp ext]; exact r6 j o⟩
          rw [rens_map] at hx
          obtain ⟨y, hy, rfl⟩ := List.mem_map.1 hx
          rw [ren_leaf]; exact r5 y hy
        | tok T s n =>
          rcases hr with ⟨r1, r2⟩ | ⟨c, fr, q, r1, r2, r3, r4, r5⟩
          · exact .inl ⟨r1, fun j o => by rw [hO]; exact r2 j o⟩
          · exact .inr ⟨c, fr, q, by rw [join_ι hn hlt hp ext]; exact r1, r2, r3, r4, fun j o => by rw [hO, join_ι hn hlt hp ext]; exact r5 j o⟩
        | dead v => exact fun j o => by rw [hO]; exact hr j o
        | map ks vs =>
          obtain ⟨es, ck, l, r1, r2, r3, r4, r5, r6⟩ := hr
          exact ⟨es, ck, l, by rw [join_ι hn hlt hp ext]; exact r1, r2, r3, join_reps hn hlt hp ext r4, join_reps hn hlt hp ext r5, fun j o => by rw [hO, join_ι hn hlt hp ext]; exact r6 j o⟩
    | none =>
      rw [hu] at h
      simp only at h
      refine (ok.objs b o h).keep (e.mon ok) (fun j p => by simp only [St.join, hu]) (St.vb_some h) (fun j p hp' => ?_)
      exact ext.block j (ok.lt _ _ _ hp') (fun q => apart b hu j p q hp')
  · intro b h j o ho
    rw [join_at hn hlt hp ext] at h
    simp only [St.join] at ho
    cases hu : unplace sel σ.H.length b with
    | some k =>
      rw [hu] at h ho
      simp only [Option.map_eq_none_iff] at h
      exact ok0.out k h j o ho
    | none => rw [hu] at h ho; exact ok.out b h j o ho
  · intro b b' j o hne h1 h2
    simp only [St.join] at h1 h2
    cases hu : unplace sel σ.H.length b with
    | some k =>
      cases hu' : unplace sel σ.H.length b' with
      | some k' =>
        rw [hu] at h1; rw [hu'] at h2
        refine ok0.disj k k' j o ?_ h1 h2
        rintro rfl
        exact hne (((unplace_iff hn hlt b k).1 hu).symm.trans ((unplace_iff hn hlt b' k).1 hu'))
      | none =>
        rw [hu] at h1; rw [hu'] at h2
        exact apart b' hu' j o o h2 (ext.ownn j o ⟨k, h1⟩ (ok.lt _ _ _ h2))
    | none =>
      cases hu' : unplace sel σ.H.length b' with
      | some k' =>
        rw [hu] at h1; rw [hu'] at h2
        exact apart b hu j o o h1 (ext.ownn j o ⟨k', h2⟩ (ok.lt _ _ _ h1))
      | none => rw [hu] at h1; rw [hu'] at h2; exact ok.disj b b' j o hne h1 h2
  · intro b j o h1 h2
    simp only [St.join] at h1 h2
    cases hu : unplace sel σ.H.length b with
    | some k => rw [hu] at h1; exact ok0.fz k j o h1 h2
    | none =>
      rw [hu] at h1
      rcases ext.fzn j o h2 (ok.lt _ _ _ h1) with h3 | h3
      · exact ok.fz b j o h1 h3
      · exact apart b hu j o o h1 h3
  · intro b j o h1
    simp only [St.join] at h1
    cases hu : unplace sel σ.H.length b with
    | some k => rw [hu] at h1; exact ok0.lt k j o h1
    | none => rw [hu] at h1; exact Nat.lt_of_lt_of_le (ok.lt b j o h1) ext.size
end
theorem acall_frame {f : Nat} {args : List V} {H : AHeap} {k : V → AHeap → Prop} {sel : List Nat} {args0 : List V} {H0 : AHeap} (hn : sel.Nodup) (hlt : ∀ b ∈ sel, b < H.length)
    (hp : picks H sel = some (H0.map (AObj.ren (place sel H.length)))) (ha : args = rens (place sel H.length) args0)
    (h : ACalls C f args0 H0 fun r H1 => k (r.ren (place sel H.length)) (merge (place sel H.length) sel H H1)) : ACalls C f args H k := by
  intro σ vals hH ok hG hr
  subst hH; subst ha
  have h1 := h (σ.part sel H0) vals rfl (part_ok hn hlt hp ok) hG (part_reps hn hlt hp hr)
  refine h1.mono ?_
  rintro e w' ⟨v, r, τ0, rfl, rfl, hk, hv, ok0, ext⟩
  exact ⟨v, r.ren (place sel σ.H.length), σ.join τ0 sel, rfl, rfl, hk, join_rep hn hlt hp ext hv, join_ok hn hlt hp ext ok ok0, join_ext hn hlt hp ext ok ok0⟩
theorem acall_sound {f : Nat} {args : List V} {H : AHeap} {k : V → AHeap → Prop} (h : acall C f args H k) : ACalls C f args H k := by
  rcases h with ⟨ds, h1, h2⟩ | ⟨ds, K, h1, h2⟩ | ⟨sel, args0, H0, h1, h2, h3, h4, h5⟩
  · exact acall_const h1 h2
  · exact acall_snap h1 h2
  · exact acall_frame h1 h2 h3 h4 h5
end
end Go.Abs
