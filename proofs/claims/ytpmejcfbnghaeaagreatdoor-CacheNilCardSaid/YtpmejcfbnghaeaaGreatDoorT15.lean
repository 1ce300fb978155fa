/- Regions that draw their order: every order ends as the text's does. -/
import Derived.Test.YtpmejcfbnghaeaaGreatDoorT14
namespace Go.Abs
set_option linter.unusedVariables false
set_option linter.unusedSimpArgs false

/-! Blocks met, blocks put back -/
theorem picks_lt {H : AHeap} : ∀ {F : List Nat} {O : AHeap}, picks H F = some O → (∀ b ∈ F, b < H.length) ∧ O.length = F.length
  | [], O, h => by injection h with h; subst h; exact ⟨by simp, rfl⟩
  | b :: F, O, h => by
    simp only [picks] at h
    split at h
    · rename_i o ho
      split at h
      · rename_i l hl
        injection h with h; subst h
        obtain ⟨h1, h2⟩ := picks_lt hl
        refine ⟨fun c hc => ?_, by simp [h2]⟩
        rcases List.mem_cons.1 hc with rfl | hc
        · exact (List.getElem?_eq_some_iff.1 ho).1
        · exact h1 c hc
      · cases h
    · cases h
theorem picks_congr {H K : AHeap} : ∀ {F : List Nat}, (∀ b ∈ F, H[b]? = K[b]?) → picks H F = picks K F
  | [], _ => rfl
  | b :: F, h => by simp only [picks]; rw [h b (by simp), picks_congr fun c hc => h c (List.mem_cons_of_mem _ hc)]
theorem patch_length : ∀ (F : List Nat) (N K : AHeap), (patch F N K).length = K.length
  | [], _, _ => rfl
  | _ :: _, [], _ => rfl
  | b :: F, o :: N, K => by rw [patch, patch_length F N]; simp
theorem patch_get {b : Nat} : ∀ {F : List Nat} {N K : AHeap}, b ∉ F → (patch F N K)[b]? = K[b]?
  | [], _, _, _ => rfl
  | _ :: _, [], _, _ => rfl
  | c :: F, o :: N, K, h => by
    rw [patch, patch_get fun hb => h (List.mem_cons_of_mem _ hb), List.getElem?_set_ne fun hc => h (by simp [hc])]
theorem patch_append {Y : AHeap} : ∀ {F : List Nat} {N K : AHeap}, (∀ b ∈ F, b < K.length) → patch F N (K ++ Y) = patch F N K ++ Y
  | [], _, _, _ => rfl
  | _ :: _, [], _, _ => rfl
  | b :: F, o :: N, K, h => by
    rw [patch, patch, List.set_append_left _ _ (h b (by simp)), patch_append fun c hc => by simpa using h c (List.mem_cons_of_mem _ hc)]
theorem patch_set {b : Nat} {o : AObj} : ∀ {F : List Nat} {N K : AHeap}, b ∉ F → patch F N (K.set b o) = (patch F N K).set b o
  | [], _, _, _ => rfl
  | _ :: _, [], _, _ => rfl
  | c :: F, p :: N, K, h => by
    rw [patch, patch, List.set_comm _ _ (fun hc => h (by simp [hc])), patch_set fun hb => h (List.mem_cons_of_mem _ hb)]
theorem patch_comm {G : List Nat} {M : AHeap} : ∀ {F : List Nat} {N K : AHeap}, (∀ b ∈ F, b ∉ G) → patch F N (patch G M K) = patch G M (patch F N K)
  | [], _, _, _ => rfl
  | _ :: _, [], _, _ => rfl
  | b :: F, o :: N, K, h => by
    rw [patch, patch, ← patch_set (h b (by simp)), patch_comm fun c hc => h c (List.mem_cons_of_mem _ hc)]
theorem patch_self {H : AHeap} : ∀ {F : List Nat} {O : AHeap}, picks H F = some O → patch F O H = H
  | [], O, _ => rfl
  | b :: F, O, h => by
    simp only [picks] at h
    split at h
    · rename_i o ho
      split at h
      · rename_i l hl
        injection h with h; subst h
        obtain ⟨hlt, he⟩ := List.getElem?_eq_some_iff.1 ho
        have : H.set b o = H := by rw [← he]; exact List.set_getElem_self hlt
        rw [patch, this, patch_self hl]
      · cases h
    · cases h
def Does (C : Ctx) (m : Md) (all : List Oper) (o : Oper) (e : Env) (H : AHeap) (v : V) (H' : AHeap) : Prop :=
  (wantB all o e = some true ∧ Dstep C m o e H v H') ∨ (wantB all o e = some false ∧ v = .p (.tup []) ∧ H' = H)
/-- One operation of a region that draws. -/
def DS (C : Ctx) (nt : Nat) (md : Nat → Md) (all : List Oper) (i : Nat) (s s' : Env × AHeap) : Prop :=
  ∃ o, all[i]? = some o ∧ (∀ d, o.dst = some d → d < nt) ∧ ∃ v, s'.1 = putE o.dst v s.1 ∧ Does C (md i) all o s.1 s.2 v s'.2
def Chain (C : Ctx) (nt : Nat) (md : Nat → Md) (all : List Oper) : List Nat → Env × AHeap → Env × AHeap → Prop
  | [], s, s' => s' = s
  | i :: r, s, s' => ∃ t, DS C nt md all i s t ∧ Chain C nt md all r t s'
section
variable {C : Ctx} {nt : Nat} {md : Nat → Md} {all : List Oper}
theorem wr_out {dst : Option Nat} {v : V} {k : Env → AHeap → Prop} {e : Env} {H : AHeap} (h : wr nt dst v k e H) : (∀ d, dst = some d → d < nt) ∧ k (putE dst v e) H := by
  unfold wr at h
  cases dst with
  | none => exact ⟨fun d hd => (by cases hd), h⟩
  | some d =>
    simp only at h
    split at h
    · rename_i hb
      rw [V.cas_eq] at h
      exact ⟨fun d' hd => (by injection hd with hd; subst hd; simpa using hb), h⟩
    · exact h.elim
theorem dop_out {m : Nat} {o : Oper} {k : Env → AHeap → Prop} {e : Env} {H : AHeap} (h : dop C nt m o k e H) :
    ∃ v H', dstep C m o e H v H' ∧ (∀ d, o.dst = some d → d < nt) ∧ k (putE o.dst v e) H' := by
  unfold dop at h
  unfold dstep
  split at h
  · rename_i f args hc
    split at h
    · rename_i g caps hf
      split at h
      · rename_i hfn
        rw [evs_eq, SM.run_iff] at h
        obtain ⟨v, hout, h⟩ := h
        obtain ⟨h4, h5⟩ := wr_out h
        exact ⟨v, H, ⟨rfl, hout⟩, h4, h5⟩
      rename_i hfn
      rw [evs_eq, spine_eq] at h
      split at h
      · obtain ⟨ds, d, h1, h2, h3⟩ := h
        obtain ⟨h4, h5⟩ := wr_out h3
        exact ⟨.p d, H, ⟨rfl, ds, d, h1, rfl, h2⟩, h4, h5⟩
      · obtain ⟨ds, K, d, h1, h2, h2', h3⟩ := h
        obtain ⟨h4, h5⟩ := wr_out h3
        exact ⟨.p d, H, ⟨rfl, ds, K, d, h1, rfl, h2, h2'⟩, h4, h5⟩
      · obtain ⟨v, H', h1, h3⟩ := h
        rw [hcas_eq] at h3
        obtain ⟨h4, h5⟩ := wr_out h3
        exact ⟨v, H', h1, h4, h5⟩
    · exact h.elim
  · split at h
    · rw [SM.run_iff] at h
      obtain ⟨⟨v, H'⟩, hout, h⟩ := h
      cases H' with
      | nil =>
        obtain ⟨h4, h5⟩ := wr_out h
        exact ⟨v, H, ⟨rfl, hout⟩, h4, h5⟩
      | cons => exact h.elim
    · rw [SM.run_iff] at h
      obtain ⟨⟨v, H'⟩, hout, h0, h⟩ := h
      subst h0
      obtain ⟨h4, h5⟩ := wr_out h
      exact ⟨v, _, ⟨rfl, hout⟩, h4, h5⟩
    · rw [SM.run_iff] at h
      obtain ⟨⟨v, H'⟩, hout, h⟩ := h
      simp only [hcas_eq] at h
      obtain ⟨h4, h5⟩ := wr_out h
      exact ⟨v, H', hout, h4, h5⟩
theorem dops_chain {md : Nat → Nat} {k : Env → AHeap → Prop} : ∀ (n i : Nat) {e : Env} {H : AHeap}, i + n = all.length → dops C nt md all i (all.drop i) k e H → ∃ s, Chain C nt (fun i => .old (md i)) all (List.range' i n) (e, H) s ∧ k s.1 s.2
  | 0, i, e, H, hi, h => by
    rw [List.drop_of_length_le (by omega)] at h
    exact ⟨(e, H), rfl, h⟩
  | n + 1, i, e, H, hi, h => by
    have hlt : i < all.length := by omega
    rw [List.drop_eq_getElem_cons hlt] at h
    simp only [dops] at h
    have ho : all[i]? = some all[i] := List.getElem?_eq_getElem hlt
    rcases want_out h with ⟨h1, h2⟩ | ⟨h1, h2⟩
    · obtain ⟨v, H', h3, h4, h5⟩ := dop_out h2
      obtain ⟨s, h6, h7⟩ := dops_chain n (i + 1) (by omega) h5
      exact ⟨s, ⟨(_, H'), ⟨_, ho, h4, v, rfl, .inl ⟨h1, h3⟩⟩, h6⟩, h7⟩
    · obtain ⟨h4, h5⟩ := wr_out h2
      obtain ⟨s, h6, h7⟩ := dops_chain n (i + 1) (by omega) h5
      exact ⟨s, ⟨(_, H), ⟨_, ho, h4, .p (.tup []), rfl, .inr ⟨h1, rfl, rfl⟩⟩, h6⟩, h7⟩

/-! Reads -/
theorem mem_tmpsOf {t : Nat} : ∀ {l : List Operand}, Operand.tmp t ∈ l → t ∈ tmpsOf l
  | x :: r, h => by
    rcases List.mem_cons.1 h with h | h
    · subst h; simp [tmpsOf]
    · have := mem_tmpsOf h
      cases x <;> simp [tmpsOf, this]
theorem ev_reads {o : Oper} {e e' : Env} (h : ∀ t ∈ readsOf all o, lk e t = lk e' t) : ∀ x ∈ o.op.operands, ev C e x = ev C e' x :=
  fun x hx => ev_eqE x fun t ht => h t (List.mem_append_right _ (mem_tmpsOf (by subst ht; simpa using hx)))
theorem wantB_congr {o : Oper} {e e' : Env} (h : ∀ t ∈ readsOf all o, lk e t = lk e' t) : wantB all o e = wantB all o e' := by
  unfold wantB
  split
  · rename_i hg; rfl
  · rename_i j b hg
    split
    · rename_i g hj
      split
      · rename_i d hd
        rw [h d (List.mem_append_left _ (by rw [hg]; simp [hj, hd]))]
      · rfl
    · rfl
theorem dstep_congr {m : Nat} {o : Oper} {e e' : Env} {H H' : AHeap} {v : V} (h : ∀ x ∈ o.op.operands, ev C e x = ev C e' x) (hd : dstep C m o e H v H') : dstep C m o e' H v H' := by
  unfold dstep at hd ⊢
  split at hd
  · rename_i f args hc
    obtain ⟨ts, ho⟩ := callOf_some hc
    have hf : ev C e f = ev C e' f := h f (by rw [ho]; simp [Op.operands, Call.operands])
    have ha : args.map (ev C e) = args.map (ev C e') := List.map_congr_left fun x hx => h x (by rw [ho]; simp [Op.operands, Call.operands]; exact .inr hx)
    rw [hf, ha] at hd
    exact hd
  · rw [fop_congr h, fop_congr h] at hd
    exact hd
theorem Dstep_congr {m : Md} {o : Oper} {e e' : Env} {H H' : AHeap} {v : V} (h : ∀ x ∈ o.op.operands, ev C e x = ev C e' x) (hd : Dstep C m o e H v H') : Dstep C m o e' H v H' := by
  cases m with
  | old m => exact dstep_congr h hd
  | loc R W app n =>
    obtain ⟨P, O, N, X, h0, h1, h2, h3, h5, h6, h7⟩ := hd
    exact ⟨P, O, N, X, h0, h1, h2, h3, h5, h6, fun K q1 q2 q3 => (h7 K q1 q2 q3).imp (dstep_congr h) id⟩
theorem does_congr {m : Md} {o : Oper} {e e' : Env} {H H' : AHeap} {v : V} (h : ∀ t ∈ readsOf all o, lk e t = lk e' t) (hd : Does C m all o e H v H') : Does C m all o e' H v H' := by
  unfold Does at *
  rw [← wantB_congr h]
  exact hd.imp (fun h' => ⟨h'.1, Dstep_congr (ev_reads h) h'.2⟩) id
theorem dstep_0 {o : Oper} {e : Env} {H H' : AHeap} {v : V} (h2 : dstep C 0 o e H v H') : H' = H ∧ ∀ K, dstep C 0 o e K v K := by
  unfold dstep at h2 ⊢
  refine ⟨?_, fun K => ?_⟩
  · split at h2
    · split at h2
      · split at h2
        · exact h2.1
        · exact h2.1
      · exact h2.elim
    · exact h2.1
  · split at h2
    · split at h2
      · split at h2
        · exact ⟨rfl, h2.2⟩
        · exact ⟨rfl, h2.2⟩
      · exact h2.elim
    · exact ⟨rfl, h2.2⟩
theorem dstep_1 {o : Oper} {e : Env} {H H' : AHeap} {v : V} (h2 : dstep C 1 o e H v H') : H' = H := by
  unfold dstep at h2
  split at h2
  · split at h2
    · split at h2
      · exact h2.1
      · exact h2.1
    · exact h2.elim
  · exact h2.1
theorem lstep_0 {R W : List Nat} {app : Bool} (hq : quiet W app = true) {n : Nat} {o : Oper} {e : Env} {H H' : AHeap} {v : V} (h : lstep C R W app n o e H v H') : H' = H := by
  obtain ⟨P, O, N, X, h0, h1, h2, h3, h5, h6, h7⟩ := h
  unfold quiet at hq
  split at hq
  · have : app = false := by simpa using hq
    rw [h3, h5 this, List.append_nil]; rfl
  · cases hq
theorem does_0 {o : Oper} {e : Env} {H H' : AHeap} {v : V} (h : Does C (.old 0) all o e H v H') : H' = H ∧ ∀ K, Does C (.old 0) all o e K v K := by
  rcases h with ⟨h1, h2⟩ | ⟨h1, h2, h3⟩
  · exact ⟨(dstep_0 h2).1, fun K => .inl ⟨h1, (dstep_0 h2).2 K⟩⟩
  · exact ⟨h3, fun K => .inr ⟨h1, h2, rfl⟩⟩
theorem does_look {m : Md} (hm : m = .old 1 ∨ ∃ R W app n, quiet W app = true ∧ m = .loc R W app n) {o : Oper} {e : Env} {H H' : AHeap} {v : V} (h : Does C m all o e H v H') : H' = H := by
  rcases h with ⟨h1, h2⟩ | ⟨h1, h2, h3⟩
  · rcases hm with rfl | ⟨R, W, app, n, hq, rfl⟩
    · exact dstep_1 h2
    · exact lstep_0 hq h2
  · exact h3
theorem disjL_spec {F G : List Nat} (h : disjL F G = true) : (∀ b ∈ F, b ∉ G) ∧ ∀ b ∈ G, b ∉ F := by
  simp only [disjL, List.all_eq_true] at h
  refine ⟨fun b hb hc => ?_, fun b hb hc => ?_⟩
  · have := h b hb b hc; simp at this
  · have := h b hc b hb; simp at this
theorem lstep_swap {R W R' W' : List Nat} {p p' : Bool} {n m : Nat} {a b : Oper} {e e' : Env} {H H1 H2 : AHeap} {v u : V} (d1 : disjL W W' = true) (d2 : disjL W R' = true) (d3 : disjL W' R = true) (hpp : ¬ (p = true ∧ p' = true))
    (hG : p = true → (∀ c ∈ R', c < n) ∧ ∀ c ∈ W', c < n) (ha : lstep C R W p n a e H v H1) (hb : lstep C R' W' p' m b e' H1 u H2) : ∃ Hm, lstep C R' W' p' m b e' H u Hm ∧ lstep C R W p n a e Hm v H2 := by
  obtain ⟨P, O, N, X, p0, p1, p2, p3, p5, p6, p7⟩ := ha
  obtain ⟨P', O', N', Y, q0, q1, q2, q3, q5, q6, q7⟩ := hb
  obtain ⟨d1, d1'⟩ := disjL_spec d1
  obtain ⟨d2, d2'⟩ := disjL_spec d2
  obtain ⟨d3, d3'⟩ := disjL_spec d3
  have hW := (picks_lt p1).1
  have hR := (picks_lt p0).1
  have hlen : H1.length = H.length + X.length := by rw [p3]; simp [patch_length]
  have lt : ∀ {F : List Nat} {O : AHeap}, picks H1 F = some O → (p = true → ∀ c ∈ F, c < n) → ∀ c ∈ F, c < H.length := by
    intro F O hF hn c hc
    by_cases hk : p = true
    · rw [p6 hk]; exact hn hk c hc
    · have := (picks_lt hF).1 c hc
      rw [hlen, p5 (by simpa using hk)] at this; simpa using this
  have hWl := lt q1 fun hk => (hG hk).2
  have hRl := lt q0 fun hk => (hG hk).1
  have same : ∀ {F : List Nat} {O : AHeap}, (∀ c ∈ F, c < H.length) → (∀ c ∈ F, c ∉ W) → picks H1 F = some O → picks H F = some O := by
    intro F O hl hd hF
    rw [← hF]
    refine picks_congr fun c hc => ?_
    rw [p3, List.getElem?_append_left (by rw [patch_length]; exact hl c hc), patch_get (hd c hc)]
  have back : ∀ {F : List Nat} {O : AHeap}, (∀ c ∈ F, c < H.length) → (∀ c ∈ F, c ∉ W') → picks H F = some O → picks (patch W' N' H ++ Y) F = some O := by
    intro F O hl hd hF
    rw [← hF]
    refine picks_congr fun c hc => ?_
    rw [List.getElem?_append_left (by rw [patch_length]; exact hl c hc), patch_get (hd c hc)]
  have hbH : lstep C R' W' p' m b e' H u (patch W' N' H ++ Y) := ⟨P', O', N', Y, same hRl d2' q0, same hWl d1' q1, q2, rfl, q5, fun hj => by
    have hk : p = false := by cases p with
      | false => rfl
      | true => exact absurd ⟨rfl, hj⟩ hpp
    have := q6 hj
    rw [hlen, p5 hk] at this; simpa using this, q7⟩
  refine ⟨_, hbH, P, O, N, X, back hR d3' p0, back hW d1 p1, p2, ?_, p5, fun hk => ?_, p7⟩
  · rw [q3, p3]
    have e1 : patch W N (patch W' N' H ++ Y) = patch W N (patch W' N' H) ++ Y := patch_append fun c hc => by rw [patch_length]; exact hW c hc
    have e2 : patch W' N' (patch W N H ++ X) = patch W' N' (patch W N H) ++ X := patch_append fun c hc => by rw [patch_length]; exact hWl c hc
    rw [e1, e2, patch_comm d1]
    cases hk : p with
    | true =>
      have hj : p' = false := by cases hj : p' with
        | false => rfl
        | true => exact absurd ⟨hk, hj⟩ hpp
      rw [q5 hj]; simp
    | false => rw [p5 hk]; simp
  · have hj : p' = false := by cases hj : p' with
      | false => rfl
      | true => exact absurd ⟨hk, hj⟩ hpp
    rw [q5 hj]; simp [patch_length]; exact p6 hk
theorem disj_spec {dst : Option Nat} {l : List Nat} (h : disj dst l = true) (v : V) (e : Env) : ∀ t ∈ l, lk (putE dst v e) t = lk e t := by
  intro t ht
  cases dst with
  | none => rfl
  | some d =>
    simp only [disj, List.all_eq_true] at h
    have := h t ht
    simp only [putE, lk_cons]
    rw [if_neg]
    rintro rfl
    simp at this
theorem put_swap {a b : Option Nat} (h : disj a b.toList = true) (v u : V) (e : Env) : EqE (putE b u (putE a v e)) (putE a v (putE b u e)) := by
  cases a with
  | none => exact .refl _
  | some d => cases b with
    | none => exact .refl _
    | some d' =>
      have hne : ¬ d' = d := by rintro rfl; simp [disj] at h
      intro i
      simp only [putE, lk_cons]
      by_cases h1 : d' = i
      · by_cases h2 : d = i
        · exact absurd (h1.trans h2.symm) hne
        · simp [h1, h2]
      · simp [h1]
theorem does_swap {m n : Md} {a b : Oper} {e : Env} {H H1 H2 : AHeap} {v u : V} (hs : swaps all m n a b = true) (ha : Does C m all a e H v H1) (hb : Does C n all b (putE a.dst v e) H1 u H2) :
    ∃ Hm, Does C n all b e H u Hm ∧ Does C m all a (putE b.dst u e) Hm v H2 := by
  simp only [swaps, Bool.and_eq_true] at hs
  obtain ⟨⟨⟨h0, h1⟩, h2⟩, h3⟩ := hs
  have hb' : Does C n all b e H1 u H2 := does_congr (disj_spec h1 v e) hb
  have ca : ∀ {K K'}, Does C m all a e K v K' → Does C m all a (putE b.dst u e) K v K' := fun h => does_congr (fun t ht => (disj_spec h2 u e t ht).symm) h
  have left : m = .old 0 → ∃ Hm, Does C n all b e H u Hm ∧ Does C m all a (putE b.dst u e) Hm v H2 := by
    rintro rfl
    obtain ⟨q1, q2⟩ := does_0 ha
    subst q1
    exact ⟨H2, hb', ca (q2 H2)⟩
  have right : n = .old 0 → ∃ Hm, Does C n all b e H u Hm ∧ Does C m all a (putE b.dst u e) Hm v H2 := by
    rintro rfl
    obtain ⟨q1, q2⟩ := does_0 hb'
    subst q1
    exact ⟨H, q2 H, ca ha⟩
  have looks : (m = .old 1 ∨ ∃ R W app k, quiet W app = true ∧ m = .loc R W app k) → (n = .old 1 ∨ ∃ R W app k, quiet W app = true ∧ n = .loc R W app k) → ∃ Hm, Does C n all b e H u Hm ∧ Does C m all a (putE b.dst u e) Hm v H2 := by
    intro hm hn
    have q1 := does_look hm ha
    have q2 := does_look hn hb'
    subst q1; subst q2
    exact ⟨_, hb', ca ha⟩
  cases m with
  | old m => cases n with
    | old n =>
      simp only [mdOk, Bool.or_eq_true, Bool.and_eq_true] at h0
      rcases h0 with (h0 | h0) | ⟨h0, h0'⟩
      · exact left (by rw [Nat.eq_of_beq_eq_true h0])
      · exact right (by rw [Nat.eq_of_beq_eq_true h0])
      · exact looks (.inl (by rw [Nat.eq_of_beq_eq_true h0])) (.inl (by rw [Nat.eq_of_beq_eq_true h0']))
    | loc R W app k =>
      simp only [mdOk, Bool.or_eq_true, Bool.and_eq_true] at h0
      rcases h0 with h0 | ⟨h0, h0'⟩
      · exact left (by rw [Nat.eq_of_beq_eq_true h0])
      · exact looks (.inl (by rw [Nat.eq_of_beq_eq_true h0])) (.inr ⟨R, W, app, k, h0', rfl⟩)
  | loc R W app k => cases n with
    | old m =>
      simp only [mdOk, Bool.or_eq_true, Bool.and_eq_true] at h0
      rcases h0 with h0 | ⟨h0, h0'⟩
      · exact right (by rw [Nat.eq_of_beq_eq_true h0])
      · exact looks (.inr ⟨R, W, app, k, h0', rfl⟩) (.inl (by rw [Nat.eq_of_beq_eq_true h0]))
    | loc R' W' app' k' =>
      simp only [mdOk, Bool.and_eq_true] at h0
      obtain ⟨⟨⟨⟨d1, d2⟩, d3⟩, h5⟩, h6⟩ := h0
      rcases ha with ⟨w1, ha⟩ | ⟨w1, rfl, rfl⟩
      · rcases hb' with ⟨w2, hb'⟩ | ⟨w2, rfl, rfl⟩
        · obtain ⟨Hm, r1, r2⟩ := lstep_swap d1 d2 d3 (by rintro ⟨rfl, rfl⟩; simp at h5) (by
            rintro rfl
            simp only [Bool.not_true, Bool.false_or, Bool.and_eq_true, List.all_eq_true] at h6
            exact ⟨fun c hc => by simpa using h6.1 c hc, fun c hc => by simpa using h6.2 c hc⟩) ha hb'
          exact ⟨Hm, .inl ⟨w2, r1⟩, ca (.inl ⟨w1, r2⟩)⟩
        · exact ⟨H, .inr ⟨w2, rfl, rfl⟩, ca (.inl ⟨w1, ha⟩)⟩
      · exact ⟨H2, hb', ca (.inr ⟨w1, rfl, rfl⟩)⟩
def EqS (s s' : Env × AHeap) : Prop := EqE s.1 s'.1 ∧ s.2 = s'.2
theorem DS_congr {i : Nat} {s s' t : Env × AHeap} (h : DS C nt md all i s s') (he : EqS s t) : ∃ t', DS C nt md all i t t' ∧ EqS s' t' := by
  obtain ⟨o, h1, h2, v, h3, h4⟩ := h
  obtain ⟨e1, H1⟩ := s
  obtain ⟨e2, H2⟩ := t
  obtain ⟨q1, q2⟩ := he
  simp only at q1 q2 h3 h4
  subst q2
  exact ⟨(putE o.dst v e2, s'.2), ⟨o, h1, h2, v, rfl, does_congr (fun t _ => q1 t) h4⟩, by rw [EqS]; rw [h3]; exact ⟨q1.put _ _, rfl⟩⟩
theorem Chain_congr : ∀ {l : List Nat} {s s' t : Env × AHeap}, Chain C nt md all l s s' → EqS s t → ∃ t', Chain C nt md all l t t' ∧ EqS s' t'
  | [], s, s', t, h, he => ⟨t, rfl, by rw [h]; exact he⟩
  | i :: r, s, s', t, ⟨s1, h1, h2⟩, he => by
    obtain ⟨t1, h3, h4⟩ := DS_congr h1 he
    obtain ⟨t2, h5, h6⟩ := Chain_congr h2 h4
    exact ⟨t2, ⟨t1, h3, h5⟩, h6⟩
theorem DS_swap {i j : Nat} {s s1 s2 : Env × AHeap} (hs : ∀ oi oj, all[i]? = some oi → all[j]? = some oj → swaps all (md i) (md j) oi oj = true) (hi : DS C nt md all i s s1) (hj : DS C nt md all j s1 s2) :
    ∃ t t2, DS C nt md all j s t ∧ DS C nt md all i t t2 ∧ EqS s2 t2 := by
  obtain ⟨oi, a1, a2, v, a3, a4⟩ := hi
  obtain ⟨oj, b1, b2, u, b3, b4⟩ := hj
  have hsw := hs oi oj a1 b1
  obtain ⟨e, H⟩ := s
  obtain ⟨e1, H1⟩ := s1
  obtain ⟨e2, H2⟩ := s2
  simp only at a3 a4 b3 b4
  subst a3
  obtain ⟨Hm, c1, c2⟩ := does_swap hsw a4 b4
  refine ⟨(putE oj.dst u e, Hm), (putE oi.dst v (putE oj.dst u e), H2), ⟨oj, b1, b2, u, rfl, c1⟩, ⟨oi, a1, a2, v, rfl, c2⟩, ?_, rfl⟩
  simp only
  rw [b3]
  simp only [swaps, Bool.and_eq_true] at hsw
  exact put_swap hsw.2 v u e
theorem Chain_front : ∀ {pre post : List Nat} {j : Nat} {s s' : Env × AHeap}, (∀ i ∈ pre, ∀ oi oj, all[i]? = some oi → all[j]? = some oj → swaps all (md i) (md j) oi oj = true) →
    Chain C nt md all (pre ++ j :: post) s s' → ∃ t t', DS C nt md all j s t ∧ Chain C nt md all (pre ++ post) t t' ∧ EqS s' t'
  | [], post, j, s, s', hs, ⟨t, h1, h2⟩ => ⟨t, s', h1, h2, fun _ => rfl, rfl⟩
  | i :: pre, post, j, s, s', hs, ⟨s1, h1, h2⟩ => by
    obtain ⟨t, t', h3, h4, h5⟩ := Chain_front (fun i hi => hs i (List.mem_cons_of_mem _ hi)) h2
    obtain ⟨u, u2, h6, h7, h8⟩ := DS_swap (hs i (by simp)) h1 h3
    obtain ⟨u', h9, h10⟩ := Chain_congr h4 h8
    exact ⟨u, u', h6, ⟨u2, h7, h9⟩, fun i => (h5.1 i).trans (h10.1 i), h5.2.trans h10.2⟩

/-! Masks -/
theorem maskOf_spec {acc : List Nat} {L : Nat → Prop} (hacc : ∀ j b, (acc.getD j 0).testBit b = true → L j → L b) {b : Nat} : ∀ {l : List Edge}, (maskOf acc l).testBit b = true → (∀ e ∈ l, Region.binds .any e = true → L e.on) → L b
  | [], h, _ => by simp [maskOf] at h
  | e :: r, h, hl => by
    simp only [maskOf] at h
    split at h
    · rename_i hb
      have hon := hl e (by simp) hb
      rw [Nat.testBit_or, Nat.testBit_or, Bool.or_eq_true, Bool.or_eq_true] at h
      rcases h with (h | h) | h
      · rw [Nat.one_shiftLeft, Nat.testBit_two_pow] at h
        have : e.on = b := by simpa using h
        rw [← this]; exact hon
      · exact hacc _ _ h hon
      · exact maskOf_spec hacc h fun e' he' => hl e' (List.mem_cons_of_mem _ he')
    · exact maskOf_spec hacc h fun e' he' => hl e' (List.mem_cons_of_mem _ he')
theorem masks_spec {L : Nat → Prop} (hL : ∀ j o, all[j]? = some o → L j → ∀ e ∈ o.after, Region.binds .any e = true → L e.on) : ∀ (rest : List Oper) (acc : List Nat), all.drop acc.length = rest →
    (∀ j b o, j < acc.length → all[j]? = some o → (acc.getD j 0).testBit b = true → (∀ e ∈ o.after, Region.binds .any e = true → L e.on) → L b) →
    ∀ j b o, all[j]? = some o → ((masks acc rest).getD j 0).testBit b = true → (∀ e ∈ o.after, Region.binds .any e = true → L e.on) → L b
  | [], acc, hr, hacc => by
    intro j b o ho h hp
    have hlen := congrArg List.length hr
    simp at hlen
    have hj := (List.getElem?_eq_some_iff.1 ho).1
    exact hacc j b o (by omega) ho h hp
  | x :: rest, acc, hr, hacc => by
    have hx : all[acc.length]? = some x := by
      have := congrArg (·[0]?) hr
      simpa using this
    simp only [masks]
    refine masks_spec hL rest _ (by simp; rw [← List.drop_drop, hr]; rfl) ?_
    intro j b o hj ho h hp
    simp at hj
    by_cases hjl : j < acc.length
    · rw [List.getD_eq_getElem?_getD, List.getElem?_append_left hjl, ← List.getD_eq_getElem?_getD] at h
      exact hacc j b o hjl ho h hp
    · have : j = acc.length := by omega
      subst this
      rw [hx] at ho; injection ho with ho; subst ho
      simp at h
      refine maskOf_spec (L := L) (acc := acc) (fun j b h hj => ?_) h fun e he => hp e (by simpa using he)
      by_cases hjl : j < acc.length
      · have hlt : j < all.length := by
          have := (List.getElem?_eq_some_iff.1 hx).1; omega
        exact hacc j b _ hjl (List.getElem?_eq_getElem hlt) h (hL j _ (List.getElem?_eq_getElem hlt) hj)
      · rw [List.getD_eq_getElem?_getD, List.getElem?_eq_none (by omega)] at h; simp at h
end
end Go.Abs
