/- Soundness of the abstract interpreter as a function: regions that draw, code, calls. -/
import Derived.Test.YtpmejcfbnghaeaaGreatDoorT19
import Derived.Below
namespace Go.Abs
set_option linter.unusedVariables false
set_option linter.unusedSimpArgs false
section
variable {C : Ctx} {nt n0 : Nat} {σ0 : St} {call : XCall}
theorem Does_yes {m : Md} {all : List Oper} {o : Oper} {e : Env} {H H' : AHeap} {v : V} (hw : wantB all o e = some true) (h : Dstep C m o e H v H') : Does C m all o e H v H' := .inl ⟨hw, h⟩
theorem xdops_chain (hcall : CallOk C call) {all : List Oper} : ∀ (n i slot : Nat) (ls : List Bool) (e : Env) (H : AHeap) (ms : List Md) (eF : Env) (HF : AHeap) (md : Nat → Md), i + n = all.length → xdops call C nt all slot ls (all.drop i) e H = some (ms, eF, HF) →
    (∀ j m, ms[j]? = some m → md (i + j) = m) → ∃ s, Chain C nt md all (List.range' i n) (e, H) s ∧ EqE eF s.1 ∧ HF = s.2
  | 0, i, slot, ls, e, H, ms, eF, HF, md, hi, h, hm => by
    rw [List.drop_of_length_le (by omega)] at h
    injection h with h; injection h with h1 h; injection h with h2 h3; subst h2; subst h3
    exact ⟨(e, H), rfl, .refl _, rfl⟩
  | n + 1, i, slot, ls, e, H, ms, eF, HF, md, hi, h, hm => by
    have hlt : i < all.length := by omega
    rw [List.drop_eq_getElem_cons hlt] at h
    simp only [xdops] at h
    have ho : all[i]? = some all[i] := List.getElem?_eq_getElem hlt
    have fin : ∀ {slot : Nat} {m : Md} {v : V} {H' : AHeap} {e' : Env} {ms' : List Md}, (∀ d, (all[i]).dst = some d → d < nt) → EqE e' (putE (all[i]).dst v e) → Does C m all all[i] e H v H' → ms = m :: ms' →
        xdops call C nt all slot ls.tail (all.drop (i + 1)) e' H' = some (ms', eF, HF) → ∃ s, Chain C nt md all (List.range' i (n + 1)) (e, H) s ∧ EqE eF s.1 ∧ HF = s.2 := by
      intro slot m v H' e' ms' h1 h2 h3 h4 h5
      subst h4
      obtain ⟨s, q1, q2, q3⟩ := xdops_chain hcall n (i + 1) slot ls.tail e' H' ms' eF HF md (by omega) h5 (fun j m hj => by
        have := hm (j + 1) m (by simpa using hj)
        rw [show i + 1 + j = i + (j + 1) by omega]; exact this)
      have hmd : md i = m := by simpa using hm 0 m (by simp)
      obtain ⟨t, q4, q5⟩ := Chain_congr q1 (t := (putE (all[i]).dst v e, H')) ⟨h2, rfl⟩
      exact ⟨t, ⟨(_, H'), ⟨all[i], ho, h1, v, rfl, by rw [hmd]; exact h3⟩, q4⟩, q2.trans q5.1, q3.trans q5.2⟩
    split at h
    · rename_i hw
      split at h
      · rename_i m v H' hx
        rw [heapC_eq] at h
        obtain ⟨h1, e', h2, h3⟩ := xwr_some h
        split at h3
        · rename_i ms' e2 H2 hr
          injection h3 with h3; injection h3 with p1 h3; injection h3 with p2 p3
          subst p2; subst p3
          exact fin h1 h2 (Does_yes hw (xmode_step hcall hx)) p1.symm hr
        · cases h3
      · cases h
    · rename_i hw
      obtain ⟨h1, e', h2, h3⟩ := xwr_some h
      split at h3
      · rename_i ms' e2 H2 hr
        injection h3 with h3; injection h3 with p1 h3; injection h3 with p2 p3
        subst p2; subst p3
        exact fin h1 h2 (.inr ⟨hw, rfl, rfl⟩) p1.symm hr
      · cases h3
    · cases h
theorem meetE_get (f : Env) (i : Nat) : ∀ (e : Env), (lk (meetE f e) i = lk e i ∧ lk e i = lk f i) ∨ lk (meetE f e) i = .top
  | [] => .inr rfl
  | (j, v) :: r => by
    simp only [meetE]
    split
    · rename_i hv
      have hv := vB_spec hv
      rw [lk_cons, lk_cons]
      by_cases hij : j = i
      · subst hij; simp [hv]
      · simp only [if_neg hij]; exact meetE_get f i r
    · rw [lk_cons, lk_cons]
      by_cases hij : j = i
      · subst hij; simp
      · simp only [if_neg hij]; exact meetE_get f i r
/-- What a run as a function tells. -/
def Det (C : Ctx) (nt n0 : Nat) (σ0 : St) (c : Code) (e : Env) (H : AHeap) (x : AExit) (e' : Env) (H' : AHeap) : Prop :=
  ∀ a w, SR C nt n0 σ0 e H a w → c.wp C.P (Conc C nt n0 σ0 fun x2 e2 H2 => x2 = x ∧ e2 = e' ∧ H2 = H') a w
theorem Det.post {c : Code} {e e' : Env} {H H' : AHeap} {x : AExit} (h : Det C nt n0 σ0 c e H x e' H') {a : Act} {w : World} (hs : SR C nt n0 σ0 e H a w) {R : Exit → Act → World → Prop}
    (hR : match x with
      | .normal => ∀ a w, SR C nt n0 σ0 e' H' a w → R .normal a w
      | .exit id => ∀ a w, SR C nt n0 σ0 e' H' a w → R (.exit id) a w
      | .goto l => ∀ a w, SR C nt n0 σ0 e' H' a w → R (.goto l) a w
      | .ret => ∀ a w, SR C nt n0 σ0 e' H' a w → R .ret a w) : c.wp C.P R a w := by
  refine Go.wp_mono (h a w hs) ?_
  refine conc_mono ?_ ?_ ?_ ?_
  · rintro e H a w hs ⟨rfl, rfl, rfl⟩; exact hR a w hs
  · rintro id e H a w hs ⟨rfl, rfl, rfl⟩; exact hR a w hs
  · rintro l e H a w hs ⟨rfl, rfl, rfl⟩; exact hR a w hs
  · rintro e H a w hs ⟨rfl, rfl, rfl⟩; exact hR a w hs
theorem Det.same {c : Code} {e e' : Env} {H H' : AHeap} {x : AExit} {R : Exit → Act → World → Prop} (hR : match x with
      | .normal => ∀ a w, SR C nt n0 σ0 e' H' a w → R .normal a w
      | .exit id => ∀ a w, SR C nt n0 σ0 e' H' a w → R (.exit id) a w
      | .goto l => ∀ a w, SR C nt n0 σ0 e' H' a w → R (.goto l) a w
      | .ret => ∀ a w, SR C nt n0 σ0 e' H' a w → R .ret a w) : ∀ a w, SR C nt n0 σ0 e' H' a w → R (match x with
      | .normal => .normal
      | .exit id => .exit id
      | .goto l => .goto l
      | .ret => .ret) a w := by
  cases x <;> exact hR
/-- The end that is meant. -/
theorem conc_self {e : Env} {H : AHeap} {x : AExit} : match x with
      | .normal => ∀ a w, SR C nt n0 σ0 e H a w → Conc C nt n0 σ0 (fun x2 e2 H2 => x2 = x ∧ e2 = e ∧ H2 = H) .normal a w
      | .exit id => ∀ a w, SR C nt n0 σ0 e H a w → Conc C nt n0 σ0 (fun x2 e2 H2 => x2 = x ∧ e2 = e ∧ H2 = H) (.exit id) a w
      | .goto l => ∀ a w, SR C nt n0 σ0 e H a w → Conc C nt n0 σ0 (fun x2 e2 H2 => x2 = x ∧ e2 = e ∧ H2 = H) (.goto l) a w
      | .ret => ∀ a w, SR C nt n0 σ0 e H a w → Conc C nt n0 σ0 (fun x2 e2 H2 => x2 = x ∧ e2 = e ∧ H2 = H) .ret a w := by
  cases x <;> exact fun a w hs => ⟨e, H, hs, rfl, rfl, rfl⟩
theorem xloop_sound {c : Code} {body : Env → AHeap → XRes} (hb : ∀ e H x e' H', body e H = some (x, e', H') → Det C nt n0 σ0 c e H x e' H') {x : AExit} {e' : Env} {H' : AHeap} : ∀ (n : Nat) (e : Env) (H : AHeap), xloop body n e H = some (x, e', H') →
    ∀ a w, SR C nt n0 σ0 e H a w → Code.rounds C.P c (Conc C nt n0 σ0 fun x2 e2 H2 => x2 = x ∧ e2 = e' ∧ H2 = H') n a w
  | 0, _, _, h, _, _, _ => by cases h
  | n + 1, e, H, h, a, w, hs => by
    simp only [xloop] at h
    rw [rounds_succ]
    split at h
    · rename_i e1 H1 hx
      exact (hb _ _ _ _ _ hx).post hs fun a w hs' => xloop_sound hb n e1 H1 h a w hs'
    · rename_i hx
      have hne : x ≠ .normal := by rintro rfl; exact hx _ _ h
      refine (hb _ _ _ _ _ h).post hs ?_
      cases x with
      | normal => exact absurd rfl hne
      | exit id => exact fun a w hs => ⟨e', H', hs, rfl, rfl, rfl⟩
      | goto l => exact fun a w hs => ⟨e', H', hs, rfl, rfl, rfl⟩
      | ret => exact fun a w hs => ⟨e', H', hs, rfl, rfl, rfl⟩
theorem xscope_sound {run : Code → Env → AHeap → XRes} {whole : Code} (hrun : ∀ c e H x e' H', run c e H = some (x, e', H') → Det C nt n0 σ0 c e H x e' H') {x : AExit} {e' : Env} {H' : AHeap} : ∀ (k : Nat) (c : Code) (e : Env) (H : AHeap), xscope run whole k c e H = some (x, e', H') →
    ∀ a w, SR C nt n0 σ0 e H a w → ∀ b it cs, ∃ y a' w', Conc C nt n0 σ0 (fun x2 e2 H2 => x2 = x ∧ e2 = e' ∧ H2 = H') y a' w' ∧ Arrives C.P (lone (b.at a (.code c :: .inScope whole :: it)) cs w) b it cs y a' w'
  | 0, _, _, _, h, _, _, _ => by cases h
  | k + 1, c, e, H, h, a, w, hs => by
    intro b it cs
    simp only [xscope] at h
    cases hr : run c e H with
    | none => rw [hr] at h; cases h
    | some r =>
      obtain ⟨y, e1, H1⟩ := r
      rw [hr] at h
      obtain ⟨z, a₁, w₁, hq, harr⟩ := hrun _ _ _ _ _ _ hr a w hs b (.inScope whole :: it) cs
      cases z with
      | normal =>
        obtain ⟨e2, H2, hs2, rfl, rfl, rfl⟩ := hq
        injection h with h; injection h with h1 h; injection h with h2 h3; subst h1; subst h2; subst h3
        exact ⟨.normal, a₁, w₁, ⟨_, _, hs2, rfl, rfl, rfl⟩, Steps.trans harr (.one step_inScope)⟩
      | exit id =>
        obtain ⟨e2, H2, hs2, rfl, rfl, rfl⟩ := hq
        injection h with h; injection h with h1 h; injection h with h2 h3; subst h1; subst h2; subst h3
        exact ⟨.exit id, a₁, w₁, ⟨_, _, hs2, rfl, rfl, rfl⟩, fun k' hk => harr k' (by simp [exitTo, hk])⟩
      | goto l =>
        obtain ⟨e2, H2, hs2, rfl, rfl, rfl⟩ := hq
        simp only at h
        split at h
        · rename_i rest hf
          have hg : gotoIn l (.inScope whole :: it) = some (.code rest :: .inScope whole :: it) := by simp [gotoIn, hf]
          obtain ⟨y₂, a₂, w₂, hq₂, harr₂⟩ := xscope_sound hrun k rest _ _ h a₁ w₁ hs2 b it cs
          exact ⟨y₂, a₂, w₂, hq₂, .of_steps (harr _ hg) harr₂⟩
        · rename_i hf
          injection h with h; injection h with h1 h; injection h with h2 h3; subst h1; subst h2; subst h3
          exact ⟨.goto l, a₁, w₁, ⟨_, _, hs2, rfl, rfl, rfl⟩, fun k' hk => harr k' (by simp [gotoIn, hf, hk])⟩
      | ret =>
        obtain ⟨e2, H2, hs2, rfl, rfl, rfl⟩ := hq
        injection h with h; injection h with h1 h; injection h with h2 h3; subst h1; subst h2; subst h3
        exact ⟨.ret, a₁, w₁, ⟨_, _, hs2, rfl, rfl, rfl⟩, harr⟩
      | panic ch => exact hq.elim
      | outgrown => exact hq.elim
theorem tossAt_spec {c : Code} {r : Nat × Nat} (h : tossAt C nt c = some r) : ∃ id ops, c = .region id ops true ∧ tossOf C nt ops.toList = some r := by
  unfold tossAt at h
  split at h
  · rename_i id ops; exact ⟨id, ops, rfl, h⟩
  · cases h
theorem xboth_sound {t f : Code} {T F : Env → AHeap → XRes} (hT : ∀ e H x e' H', T e H = some (x, e', H') → Det C nt n0 σ0 t e H x e' H') (hF : ∀ e H x e' H', F e H = some (x, e', H') → Det C nt n0 σ0 f e H x e' H')
    {a0 d : Nat} {e : Env} {H : AHeap} {x : AExit} {e' : Env} {H' : AHeap} (h : xboth T F a0 d e H = some (x, e', H')) (b : Bool) :
    x = .normal ∧ Det C nt n0 σ0 (.cond (.tmp d) t f) ((d, .p (.lit (.bool b))) :: (a0, .top) :: e) (H ++ [.dead 0]) x e' H' := by
  have go : ∀ {H1 H2 : AHeap} {e1 e2 : Env} {HT : AHeap}, T (setE d (.p (.lit (.bool true))) (setE a0 .top e)) HT = some (.normal, e1, H1) → F (setE d (.p (.lit (.bool false))) (setE a0 .top e)) (H ++ [.dead 0]) = some (.normal, e2, H2) →
      (∀ {e : Env} {a : Act} {w : World}, SR C nt n0 σ0 e (H ++ [.dead 0]) a w → SR C nt n0 σ0 e HT a w) → (∀ {e : Env} {a : Act} {w : World}, SR C nt n0 σ0 e H2 a w → SR C nt n0 σ0 e H1 a w) →
      Det C nt n0 σ0 (.cond (.tmp d) t f) ((d, .p (.lit (.bool b))) :: (a0, .top) :: e) (H ++ [.dead 0]) .normal (meetE e2 e1) H1 := by
    intro H1 H2 e1 e2 HT h1 h2 hpad hkill a w hs
    have hs' := hs
    obtain ⟨σ, rfl, rw', ok, ext, he, hd, hz, hG, hn⟩ := hs'
    have hx := ev_sound hG he (.tmp d)
    have hev : ev C ((d, .p (.lit (.bool b))) :: (a0, .top) :: e) (.tmp d) = .p (.lit (.bool b)) := by simp [ev, lk]
    rw [hev] at hx
    refine Go.wp_cond (lit_bool hx) ?_
    have heq : ∀ y, EqE ((d, y) :: (a0, .top) :: e) (setE d y (setE a0 .top e)) := fun y i => by
      rw [lk_setE, lk_setE, lk_cons, lk_cons]
    cases b with
    | true =>
      refine (hT _ _ _ _ _ h1).post (hpad (hs.eqE (heq _))) fun a w hs => ⟨_, _, hs.weak fun i => ?_, rfl, rfl, rfl⟩
      rcases meetE_get e2 i e1 with h | h
      · exact .inl h.1
      · exact .inr h
    | false =>
      refine (hF _ _ _ _ _ h2).post (hs.eqE (heq _)) fun a w hs => ⟨_, _, (hkill hs).weak fun i => ?_, rfl, rfl, rfl⟩
      rcases meetE_get e2 i e1 with h | h
      · exact .inl (h.1.trans h.2)
      · exact .inr h
  unfold xboth at h
  simp only [spine_eq, hcas_eq] at h
  split at h
  · rename_i e2 H2 h2
    split at h
    · rename_i e1 H1 h1
      split at h
      · rename_i hh
        have hh := hB_spec hh
        subst hh
        injection h with h; injection h with p1 h; injection h with p2 p3
        subst p1; subst p2; subst p3
        exact ⟨rfl, go h1 h2 id id⟩
      · split at h
        · rename_i lz cs hq
          split at h
          · rename_i e3 H3 h3
            split at h
            · rename_i hh
              have hh := hB_spec hh
              subst hh
              injection h with h; injection h with p1 h; injection h with p2 p3
              subst p1; subst p2; subst p3
              refine ⟨rfl, go h3 h2 (fun hs => ?_) (fun hs => hs.kill hq)⟩
              simpa using hs.slots 1
            · cases h
          · cases h
        · cases h
    · cases h
  · cases h
theorem nilTest_spec {c : Code} {all pre : List Oper} {o : Oper} {d : Nat} (h : nilTest nt c = some (all, pre, o, d)) : ∃ id ops, c = .region id ops false ∧ all = ops.toList ∧ ops.toList = pre ++ [o] ∧ o.dst = some d ∧ o.guard = none ∧ d < nt := by
  unfold nilTest at h
  split at h
  · rename_i id ops
    split at h
    · rename_i o' r hr
      have hops : ops.toList = r.reverse ++ [o'] := by
        have := congrArg List.reverse hr
        simpa using this
      split at h
      · split at h
        · rename_i hb
          injection h with h; injection h with h1 h; injection h with h2 h; injection h with h3 h4
          subst h1; subst h2; subst h3; subst h4
          exact ⟨id, ops, rfl, rfl, hops, rfl, rfl, by simpa using hb⟩
        · cases h
      · split at h
        · rename_i hb
          injection h with h; injection h with h1 h; injection h with h2 h; injection h with h3 h4
          subst h1; subst h2; subst h3; subst h4
          exact ⟨id, ops, rfl, rfl, hops, rfl, rfl, by simpa using hb⟩
        · cases h
      · cases h
    · cases h
  · cases h
theorem exitB_spec {x y : AExit} (h : exitB x y = true) : x = y := by
  unfold exitB at h
  split at h
  · rfl
  · rfl
  · cases h
theorem xroads_sound {c : Code} {run : Env → AHeap → XRes} (hr : ∀ e H x e' H', run e H = some (x, e', H') → Det C nt n0 σ0 c e H x e' H') {d : Nat} {e : Env} {H : AHeap} {x : AExit} {e' : Env} {H' : AHeap} (h : xroads run d e H = some (x, e', H')) (b : Bool) :
    Det C nt n0 σ0 c ((d, .p (.lit (.bool b))) :: e) H x e' H' := by
  unfold xroads at h
  simp only [spine_eq] at h
  split at h
  · rename_i x1 e1 H1 h1
    split at h
    · rename_i x2 e2 H2 h2
      split at h
      · rename_i hh
        simp only [Bool.and_eq_true] at hh
        have hx := exitB_spec hh.1
        have hH := hB_spec hh.2
        subst hx; subst hH
        injection h with h; injection h with p1 h; injection h with p2 p3
        subst p1; subst p2; subst p3
        intro a w hs
        have heq : ∀ y, EqE ((d, y) :: e) (setE d y e) := fun y i => by rw [lk_setE, lk_cons]
        cases b with
        | true =>
          have wk : ∀ {a w}, SR C nt n0 σ0 e1 H1 a w → SR C nt n0 σ0 (meetE e2 e1) H1 a w := fun hs => hs.weak fun i => by
            rcases meetE_get e2 i e1 with h | h
            · exact .inl h.1
            · exact .inr h
          refine (hr _ _ _ _ _ h1).post (hs.eqE (heq _)) ?_
          cases x1 <;> exact fun a w hs => ⟨_, _, wk hs, rfl, rfl, rfl⟩
        | false =>
          have wk : ∀ {a w}, SR C nt n0 σ0 e2 H1 a w → SR C nt n0 σ0 (meetE e2 e1) H1 a w := fun hs => hs.weak fun i => by
            rcases meetE_get e2 i e1 with h | h
            · exact .inl (h.1.trans h.2)
            · exact .inr h
          refine (hr _ _ _ _ _ h2).post (hs.eqE (heq _)) ?_
          cases x1 <;> exact fun a w hs => ⟨_, _, wk hs, rfl, rfl, rfl⟩
      · cases h
    · cases h
  · cases h
/-! Calls -/
theorem closedB_spec {n : Nat} : ∀ (k : Nat) {H : AHeap}, closedB n k H = true → ∀ o ∈ H.take k, o.idsLt n = true
  | 0, H, _, o, h => by simp at h
  | k + 1, [], _, o, h => by simp at h
  | k + 1, x :: r, hb, o, h => by
    simp only [List.take_succ_cons, List.mem_cons] at h
    simp only [closedB] at hb
    split at hb
    · split at hb
      · rename_i hi
        rcases h with rfl | h
        · exact hi
        · exact closedB_spec k hb o h
      · cases hb
    · split at hb
      · rename_i hi
        rcases h with rfl | h
        · exact hi
        · exact closedB_spec k hb o h
      · cases hb
    · rename_i hne1 hne2
      rcases h with rfl | h
      · cases o with
        | cells lz ver cs => exact absurd rfl (hne1 _ _ _)
        | map ks vs => exact absurd rfl (hne2 _ _)
        | _ => rfl
      · exact closedB_spec k hb o h
/-- What is known of some functions ahead of a run. -/
def LibOk (C : Ctx) (L : XCall) : Prop := ∀ g args H r H', L g args H = some (r, H') → ACalls C g args H (fun v K => v = r ∧ K = H')
theorem noLib_ok : LibOk C noLib := by intro g args H r H' h; cases h
theorem xcallW_sound (hC : CtxOk C) {L : XCall} (hL : LibOk C L) {run : Nat → Code → Env → AHeap → XRes} (hrun : ∀ nt n0 σ0 c e H x e' H', run nt c e H = some (x, e', H') → Det C nt n0 σ0 c e H x e' H') {f : Nat} {args : List V} {H : AHeap} {r : V} {H1 : AHeap}
    (h : xcallW run L C f args H = some (r, H1)) : ACalls C f args H (fun v K => v = r ∧ K = H1) := by
  unfold xcallW at h
  split at h
  · rename_i q hq
    injection h with h; subst h
    exact hL _ _ _ _ _ hq
  split at h
  · rename_i fn hf
    split at h
    · rename_i c hb
      split at h
      · rename_i hn
        rw [spine_eq] at h
        split at h
        · rename_i x e H' hx
          have main : ∀ l, (x = .normal ∨ x = .ret) → resOf C e H' fn.results.toList = some l → xtrim H.length (retV l) H' = (r, H1) → ACalls C f args H (fun v K => v = r ∧ K = H1) := by
            intro l hxx hl ht σ vals hH ok hG hr
            subst hH
            refine calls_of_wp hf hb ?_
            have hs : SR C fn.ntmps σ.H.length σ (enum 0 args) σ.H { tmps := ⟨vals⟩ ++ Array.replicate (fn.ntmps - vals.length) undef, defers := [] } σ.w := by
              have hl := hr.length
              have := Nat.le_of_ble_eq_true hn
              refine ⟨σ, rfl, rfl, ok, .refl σ, enum_ok hr _, rfl, ?_, hG, Nat.le_refl _⟩
              simp; omega
            have fin : ∀ a w, SR C fn.ntmps σ.H.length σ e H' a w → a.defers = [] ∧ ∃ v, (results fn a.tmps).run C.P w = .ok v w ∧ ∃ v' r' τ, Ending.returned v = .returned v' ∧ τ.w = w ∧ (r' = r ∧ τ.H = H1) ∧ RepV τ r' v' ∧ τ.ok ∧ Ext σ τ := by
              rintro a w ⟨τ, rfl, rfl, ok1, ext, he, hd, hz, hG1, _⟩
              refine ⟨hd, ?_⟩
              obtain ⟨v, h1, h2⟩ := results_sound hC.ty ok1 he hl
              refine ⟨v, h1, ?_⟩
              unfold xtrim at ht
              split at ht
              · injection ht with t1 t2
                exact ⟨v, retV l, τ, rfl, rfl, ⟨t1, t2⟩, h2, ok1, ext⟩
              · split at ht
                · rename_i hil
                  split at ht
                  · rename_i hcb
                    injection ht with t1 t2
                    obtain ⟨q1, q2, q3⟩ := trim_ok ok1 ext (Nat.le_refl σ.H.length) (closedB_spec _ hcb)
                    exact ⟨v, retV l, { τ with O := fun b j o => b < σ.H.length ∧ τ.O b j o, H := τ.H.take σ.H.length }, rfl, rfl, ⟨t1, t2⟩, rep_trim q3 rfl rfl rfl h2 hil, q1, q2⟩
                  · injection ht with t1 t2
                    exact ⟨v, retV l, τ, rfl, rfl, ⟨t1, t2⟩, h2, ok1, ext⟩
                · injection ht with t1 t2
                  exact ⟨v, retV l, τ, rfl, rfl, ⟨t1, t2⟩, h2, ok1, ext⟩
            refine (hrun fn.ntmps σ.H.length σ c _ _ _ _ _ hx).post hs ?_
            rcases hxx with rfl | rfl
            · exact fin
            · exact fin
          split at h
          · cases h
          · cases h
          · rename_i hne1 hne2
            split at h
            · rename_i l hl
              injection h with h
              refine main l ?_ hl h
              cases x with
              | normal => exact .inl rfl
              | ret => exact .inr rfl
              | exit id => exact absurd rfl (hne1 id)
              | goto l => exact absurd rfl (hne2 l)
            · cases h
        · cases h
      · cases h
    · cases h
  · cases h
theorem xcode_sound (hC : CtxOk C) {L : XCall} (hL : LibOk C L) : ∀ (n : Nat) (nt n0 : Nat) (σ0 : St) (c : Code) (e : Env) (H : AHeap) (x : AExit) (e' : Env) (H' : AHeap), xcode C L n nt c e H = some (x, e', H') → Det C nt n0 σ0 c e H x e' H'
  | 0, _, _, _, _, _, _, _, _, _, h => by cases h
  | n + 1, nt, n0, σ0, c, e, H, x, e', H', h => by
    have ih := fun nt n0 σ0 => xcode_sound hC hL n nt n0 σ0
    have hcall : CallOk C (xcallW (xcode C L n) L C) := fun g args H r H' _ hx => xcallW_sound hC hL (fun nt n0 σ0 c e H x e' H' hr => ih nt n0 σ0 c e H x e' H' hr) hx
    have one : ∀ {y : AExit} {e1 : Env} {H1 : AHeap}, some (y, e1, H1) = some (x, e', H') → y = x ∧ e1 = e' ∧ H1 = H' := by
      intro y e1 H1 h; injection h with h; injection h with h1 h; injection h with h2 h3; exact ⟨h1, h2, h3⟩
    intro a w hs
    cases c with
    | skip => obtain ⟨rfl, rfl, rfl⟩ := one h; exact Go.wp_skip ⟨_, _, hs, rfl, rfl, rfl⟩
    | exit id => obtain ⟨rfl, rfl, rfl⟩ := one h; exact Go.wp_exit ⟨_, _, hs, rfl, rfl, rfl⟩
    | label l => obtain ⟨rfl, rfl, rfl⟩ := one h; exact Go.wp_label ⟨_, _, hs, rfl, rfl, rfl⟩
    | goto l => obtain ⟨rfl, rfl, rfl⟩ := one h; exact Go.wp_goto ⟨_, _, hs, rfl, rfl, rfl⟩
    | ret => obtain ⟨rfl, rfl, rfl⟩ := one h; exact Go.wp_ret ⟨_, _, hs, rfl, rfl, rfl⟩
    | region id ops draw =>
      simp only [xcode] at h
      split at h
      · split at h
        · rename_i e1 H1 hx
          obtain ⟨rfl, rfl, rfl⟩ := one h
          refine wp_region ?_
          rw [List.range_eq_range', ← List.append_nil (List.range' 0 ops.size)]
          refine xops_sound hC hcall (rest := []) (fun a w hs' => ?_) ops.size 0 ops.toList e H a w (by omega) (by rw [List.drop_zero, ← Array.length_toList, List.take_length]) hs hx
          simp only [wpOps]
          exact ⟨_, _, hs', rfl, rfl, rfl⟩
        · cases h
      · split at h
        · rename_i ms e1 H1 hx
          split at h
          · rename_i hok
            obtain ⟨rfl, rfl, rfl⟩ := one h
            obtain ⟨s, q1, q2, q3⟩ := xdops_chain hcall ops.size 0 _ _ e _ ms e1 H1 (fun i => ms.getD i (.old 2)) (by simp) (show xdops (xcallW (xcode C L n) L C) C nt ops.toList _ (looses ops.toList) (ops.toList.drop 0) e _ = _ from hx) (fun j m hj => by simp [hj])
            obtain ⟨se, sH⟩ := s
            simp only at q2 q3
            subst q3
            refine draw_chain hC hok (hs.slots _) q1 fun a w hs' => ⟨_, _, hs'.eqE q2.symm, rfl, rfl, rfl⟩
          · cases h
        · cases h
    | seq p q =>
      simp only [xcode] at h
      refine Go.wp_seq ?_
      split at h
      · rename_i a0 d ht
        obtain ⟨id, ops, rfl, ht⟩ := tossAt_spec ht
        refine toss_sound hC ht hs fun b a w hs' => ?_
        split at h
        · split at h
          · rename_i hcd
            have := Nat.eq_of_beq_eq_true hcd
            subst this
            exact (xboth_sound (fun e H x e' H' h => ih nt n0 σ0 _ _ _ _ _ _ h) (fun e H x e' H' h => ih nt n0 σ0 _ _ _ _ _ _ h) h b).2 a w hs'
          · cases h
        · split at h
          · rename_i hcd
            have := Nat.eq_of_beq_eq_true hcd
            subst this
            split at h
            · rename_i e1 H1 hx
              refine Go.wp_seq ?_
              exact (xboth_sound (fun e H x e' H' h => ih nt n0 σ0 _ _ _ _ _ _ h) (fun e H x e' H' h => ih nt n0 σ0 _ _ _ _ _ _ h) hx b).2.post hs' fun a w hs' => ih nt n0 σ0 _ _ _ _ _ _ h a w hs'
            · cases h
          · cases h
        · cases h
      split at h
      · rename_i all pre o d ht
        obtain ⟨id, ops, rfl, rfl, hops, hdst, hgd, hdlt⟩ := nilTest_spec ht
        have hlen : ops.size = pre.length + 1 := by rw [← Array.length_toList, hops]; simp
        have hpre : pre = (ops.toList.drop 0).take pre.length := by rw [hops]; simp
        have hlast : ops[pre.length]? = some o := by rw [← Array.getElem?_toList, hops]; simp
        have hone : [o] = (ops.toList.drop pre.length).take 1 := by rw [hops]; simp
        refine wp_region ?_
        rw [List.range_eq_range', hlen, show List.range' 0 (pre.length + 1) = List.range' 0 pre.length ++ [pre.length] by rw [List.range'_concat]; simp]
        split at h
        · rename_i e1 H1 hx
          refine xops_sound hC hcall (rest := [pre.length]) (fun a w hs1 => ?_) pre.length 0 pre e H a w (by omega) hpre hs hx
          split at h
          · rename_i hask
            refine nil_last hC hlast hdst hgd hdlt hask hs1 fun b a w hs2 => ?_
            exact (xroads_sound (fun e H x e' H' h => ih nt n0 σ0 _ _ _ _ _ _ h) h b) a w hs2
          · split at h
            · rename_i e2 H2 hx2
              refine xops_sound hC hcall (rest := []) (fun a w hs' => ?_) 1 pre.length [o] e1 H1 a w (by omega) hone hs1 hx2
              simp only [wpOps]
              exact ih nt n0 σ0 _ _ _ _ _ _ h a w hs'
            · cases h
        · cases h
      split at h
      · rename_i e1 H1 hx
        exact (ih nt n0 σ0 _ _ _ _ _ _ hx).post hs fun a w hs' => ih nt n0 σ0 _ _ _ _ _ _ h a w hs'
      · rename_i hx
        have hne : x ≠ .normal := by rintro rfl; exact hx _ _ h
        refine (ih nt n0 σ0 _ _ _ _ _ _ h).post hs ?_
        cases x with
        | normal => exact absurd rfl hne
        | exit id => exact fun a w hs => ⟨e', H', hs, rfl, rfl, rfl⟩
        | goto l => exact fun a w hs => ⟨e', H', hs, rfl, rfl, rfl⟩
        | ret => exact fun a w hs => ⟨e', H', hs, rfl, rfl, rfl⟩
    | cond c t f =>
      simp only [xcode] at h
      split at h
      · rename_i b hb
        have hs' := hs
        obtain ⟨σ, rfl, rfl, ok, ext, he, hd, hz, hG, hn⟩ := hs'
        have hx := ev_sound hG he c
        rw [hb] at hx
        refine Go.wp_cond (lit_bool hx) ?_
        cases b with
        | true => exact ih nt n0 σ0 _ _ _ _ _ _ h a _ hs
        | false => exact ih nt n0 σ0 _ _ _ _ _ _ h a _ hs
      · cases h
    | block id p =>
      simp only [xcode] at h
      refine Go.wp_block ?_
      split at h
      · rename_i i e1 H1 hx
        refine (ih nt n0 σ0 _ _ _ _ _ _ hx).post hs ?_
        intro a w hs'
        simp only [Exit.inBlock]
        split at h
        · rename_i hb
          obtain ⟨rfl, rfl, rfl⟩ := one h
          rw [if_pos (Nat.eq_of_beq_eq_true hb)]
          exact ⟨_, _, hs', rfl, rfl, rfl⟩
        · rename_i hb
          obtain ⟨rfl, rfl, rfl⟩ := one h
          rw [if_neg (by rintro rfl; simp at hb)]
          exact ⟨_, _, hs', rfl, rfl, rfl⟩
      · rename_i hx
        refine (ih nt n0 σ0 _ _ _ _ _ _ h).post hs ?_
        cases x with
        | normal => exact fun a w hs => ⟨e', H', hs, rfl, rfl, rfl⟩
        | exit id => exact absurd h (hx _ _ _)
        | goto l => exact fun a w hs => ⟨e', H', hs, rfl, rfl, rfl⟩
        | ret => exact fun a w hs => ⟨e', H', hs, rfl, rfl, rfl⟩
    | loop p =>
      simp only [xcode] at h
      exact Go.wp_loop_rounds n (xloop_sound (fun e H x e' H' hb => ih nt n0 σ0 _ _ _ _ _ _ hb) n e H h a w hs)
    | scope p =>
      simp only [xcode] at h
      exact wp_scopes (xscope_sound (fun c e H x e' H' hb => ih nt n0 σ0 _ _ _ _ _ _ hb) n p e H h a w hs)
    | _ => cases h
/-- A run as a function is a contract. -/
theorem xcall_sound (hC : CtxOk C) {L : XCall} (hL : LibOk C L) {n f : Nat} {args : List V} {H : AHeap} {r : V} {H1 : AHeap} (h : xcall C L n f args H = some (r, H1)) : ACalls C f args H (fun v K => v = r ∧ K = H1) :=
  xcallW_sound hC hL (fun nt n0 σ0 c e H x e' H' hr => xcode_sound hC hL n nt n0 σ0 c e H x e' H' hr) h
end
end Go.Abs
/- Which functions may be called: tested against the program. -/
namespace Go.Abs
set_option linter.unusedVariables false
def callB (P : Program) (f : Nat) : Bool := match P.funcs[f]? with
  | some fn => !(fn.name == "runtime.NumGoroutine") && !fn.body.isNone
  | none => false
theorem callB_spec {P : Program} {f : Nat} (h : callB P f = true) : Callable P f := by
  unfold callB at h
  split at h
  · rename_i fn hf
    simp only [Bool.and_eq_true, Bool.not_eq_true'] at h
    exact ⟨fn, hf, h.1, h.2⟩
  · cases h
/-- The functions from one to another but for some. -/
def fnsOf (lo hi : Nat) (bad : List Nat) (f : Nat) : Bool := match Nat.ble lo f with
  | true => match Nat.blt f hi with
    | true => !(bad.any (Nat.beq f))
    | false => false
  | false => false
theorem fnsOf_spec {P : Program} {lo hi : Nat} {bad : List Nat} (h : (List.range hi).all (fun f => match fnsOf lo hi bad f with
    | true => callB P f
    | false => true) = true) (f : Nat) (hf : fnsOf lo hi bad f = true) : Callable P f := by
  have hlt : f < hi := by
    unfold fnsOf at hf
    split at hf
    · split at hf
      · rename_i hb; simpa using hb
      · cases hf
    · cases hf
  have := (List.all_eq_true.1 h) f (by simpa using hlt)
  rw [hf] at this
  exact callB_spec this
/-- What stands in for what, by a list. -/
def extOf : List (Nat × Xt) → Nat → Xt
  | [], _ => .none
  | (i, k) :: r, f => match Nat.beq i f with
    | true => k
    | false => extOf r f
theorem extOf_spec {P : Program} : ∀ {l : List (Nat × Xt)}, (∀ p ∈ l, ExtAt P p.1 p.2) → ∀ f, extOf l f ≠ .none → ExtAt P f (extOf l f)
  | [], _, f, h => absurd rfl h
  | (i, k) :: r, hl, f, h => by
    unfold extOf at h ⊢
    split
    · rename_i hb
      have := Nat.eq_of_beq_eq_true hb; subst this
      exact hl (i, k) (by simp)
    · rename_i hb
      rw [hb] at h
      exact extOf_spec (fun p hp => hl p (List.mem_cons_of_mem _ hp)) f h
end Go.Abs
/- Contracts of the kit's shelf as contracts on abstract values: a world below which nothing has changed. -/
namespace Go.Abs
set_option linter.unusedVariables false
section
variable {σ : St}
theorem St.ok.below (ok : σ.ok) {w' : World} (h : RowKit.Below σ.w.heap.size σ.w w') : let τ : St := { σ with w := w' }; τ.ok ∧ Ext σ τ := by
  intro τ
  have hlt : ∀ {j : Nat} {o : Obj}, σ.w.heap[j]? = some o → j < σ.w.heap.size := fun h => (Array.getElem?_eq_some_iff.1 h).1
  have hcell : ∀ j o, j < σ.w.heap.size → w'.cell? ⟨j, o, none⟩ = σ.w.cell? ⟨j, o, none⟩ := fun j o hj => by simp only [World.cell?]; rw [h.block j hj]
  have e : Ext σ τ := ⟨h.size, h.os, h.tape, h.output, fun j o hj _ => hcell j o hj, fun j hj _ => h.block j hj, fun j c T fr hh => ⟨c, fr, by show w'.heap[j]? = _; rw [h.block j (hlt hh)]; exact hh, rfl⟩, fun _ _ h => h, fun _ _ h _ => .inl h, fun _ _ h _ => h, fun b m hm => ⟨m, hm, Nat.le_refl _, fun _ _ => rfl⟩⟩
  refine ⟨⟨fun b o hb => (ok.objs b o hb).keep (e.mon ok) (fun _ _ => Iff.rfl) (St.vb_some hb) (fun j p hp => h.block j (ok.lt b j p hp)), ok.out, ok.disj, ok.fz, fun b j o hh => Nat.lt_of_lt_of_le (ok.lt b j o hh) h.size, fun j o hh => Nat.lt_of_lt_of_le (ok.ltf j o hh) h.size⟩, e⟩
/-- What the kit's shelf says of a call that changes nothing below: a contract. -/
theorem ACalls_of_below {C : Ctx} {f : Nat} {args : List V} {H : AHeap} {d : D} (h : ∀ (σ : St) (vals : List Value), σ.H = H → σ.ok → GOk C σ → RepVs σ args vals →
    Calls C.P f ⟨vals⟩ σ.w fun e w' => ∃ v, e = .returned v ∧ RowKit.Below σ.w.heap.size σ.w w' ∧ RepD w' σ.Fz d v) : ACalls C f args H fun r K => r = .p d ∧ K = H := by
  intro σ vals hH ok hG hr
  refine (h σ vals hH ok hG hr).mono fun e w' ⟨v, he, hb, hv⟩ => ?_
  obtain ⟨p1, p2⟩ := ok.below hb
  exact ⟨v, .p d, { σ with w := w' }, he, rfl, ⟨rfl, hH⟩, .p hv, p1, p2⟩
/-- What is known of functions of data. -/
def libOf (F : Nat → List D → Option D) : XCall := fun f args H => match toDs args with
  | some ds => match F f ds with
    | some d => some (.p d, H)
    | none => none
  | none => match frzA H args with
    | some (ds, _) => match F f ds with
      | some d => match noRef d with
        | true => some (.p d, H)
        | false => none
      | none => none
    | none => none
theorem libOf_ok {C : Ctx} {F : Nat → List D → Option D} (hF : ∀ f ds d, F f ds = some d → ACalls C f (ds.map .p) [] fun r _ => r.toD = some d) : LibOk C (libOf F) := by
  intro f args H r H' h
  unfold libOf at h
  split at h
  · rename_i ds hds
    split at h
    · rename_i d hd
      injection h with h; injection h with h1 h2; subst h1; subst h2
      exact acall_sound (.inl ⟨ds, hds, (hF _ _ _ hd).mono fun r _ hr => ⟨d, hr, rfl, rfl⟩⟩)
    · cases h
  · split at h
    · rename_i ds K hds
      split at h
      · rename_i d hd
        split at h
        · rename_i hn
          injection h with h; injection h with h1 h2; subst h1; subst h2
          exact acall_sound (.inr (.inl ⟨ds, K, hds, (hF _ _ _ hd).mono fun r _ hr => ⟨d, hr, hn, rfl, rfl⟩⟩))
        · cases h
      · cases h
    · cases h
end
end Go.Abs
