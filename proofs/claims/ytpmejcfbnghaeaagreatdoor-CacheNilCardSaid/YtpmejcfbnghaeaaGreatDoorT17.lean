/- Soundness of the abstract run of code, and of a function's body. -/
import Derived.Test.YtpmejcfbnghaeaaGreatDoorT16
import Derived.LoopN
import Derived.ScopeJumps
namespace Go.Abs
set_option linter.unusedVariables false
set_option linter.unusedSimpArgs false
section
variable {C : Ctx} {nt n0 : Nat} {σ0 : St}
/-- Code's abstract run says what becomes of its real run. -/
def Sound (C : Ctx) (nt n0 : Nat) (σ0 : St) (run : Post → Env → AHeap → Prop) (c : Code) : Prop :=
  ∀ (Q : Post) (e : Env) (H : AHeap) (a : Act) (w : World), SR C nt n0 σ0 e H a w → run Q e H → c.wp C.P (Conc C nt n0 σ0 Q) a w
theorem conc_mono {Q : Post} {R : Exit → Act → World → Prop} (hn : ∀ e H a w, SR C nt n0 σ0 e H a w → Q .normal e H → R .normal a w) (hx : ∀ id e H a w, SR C nt n0 σ0 e H a w → Q (.exit id) e H → R (.exit id) a w)
    (hg : ∀ l e H a w, SR C nt n0 σ0 e H a w → Q (.goto l) e H → R (.goto l) a w) (hr : ∀ e H a w, SR C nt n0 σ0 e H a w → Q .ret e H → R .ret a w) : ∀ x a w, Conc C nt n0 σ0 Q x a w → R x a w := by
  intro x a w h
  cases x with
  | normal => obtain ⟨e, H, h1, h2⟩ := h; exact hn e H a w h1 h2
  | exit id => obtain ⟨e, H, h1, h2⟩ := h; exact hx id e H a w h1 h2
  | goto l => obtain ⟨e, H, h1, h2⟩ := h; exact hg l e H a w h1 h2
  | ret => obtain ⟨e, H, h1, h2⟩ := h; exact hr e H a w h1 h2
  | panic ch => exact h.elim
  | outgrown => exact h.elim
theorem rounds_sound {body : Post → Env → AHeap → Prop} {c : Code} (hb : Sound C nt n0 σ0 body c) {Q : Post} : ∀ (n : Nat) (e : Env) (H : AHeap) (a : Act) (w : World), SR C nt n0 σ0 e H a w → rounds body Q n e H → Code.rounds C.P c (Conc C nt n0 σ0 Q) n a w
  | 0, _, _, _, _, _, h => h
  | n + 1, e, H, a, w, hs, h => by
    rw [rounds_succ]
    refine Go.wp_mono (hb _ e H a w hs h) ?_
    refine conc_mono ?_ ?_ ?_ ?_
    · exact fun e H a w h1 h2 => rounds_sound hb n e H a w h1 h2
    · exact fun id e H a w h1 h2 => ⟨e, H, h1, h2⟩
    · exact fun id e H a w h1 h2 => ⟨e, H, h1, h2⟩
    · exact fun e H a w h1 h2 => ⟨e, H, h1, h2⟩
theorem loopP_sound {body : Post → Env → AHeap → Prop} {c : Code} (hb : Sound C nt n0 σ0 body c) {Q : Post} {S : Type} {en : S → Env} {hp : S → AHeap} {μ : S → Nat}
    (h : ∀ s, body (fun x e H => match x with
      | .normal => ∃ s', μ s' < μ s ∧ SubE (en s') e ∧ hp s' = H
      | x => Q x e H) (en s) (hp s)) : ∀ (m : Nat) (s : S), μ s < m → ∀ (a : Act) (w : World), SR C nt n0 σ0 (en s) (hp s) a w → Code.rounds C.P c (Conc C nt n0 σ0 Q) m a w
  | 0, _, hm, _, _, _ => by omega
  | m + 1, s, hm, a, w, hs => by
    rw [rounds_succ]
    refine Go.wp_mono (hb _ _ _ a w hs (h s)) ?_
    refine conc_mono ?_ ?_ ?_ ?_
    · rintro e H a w h1 ⟨s', q1, q2, q3⟩
      subst q3
      exact loopP_sound hb h m s' (by omega) a w (h1.weak q2)
    · exact fun id e H a w h1 h2 => ⟨e, H, h1, h2⟩
    · exact fun id e H a w h1 h2 => ⟨e, H, h1, h2⟩
    · exact fun e H a w h1 h2 => ⟨e, H, h1, h2⟩
theorem scopes_sound {run : Code → Post → Env → AHeap → Prop} {whole : Code} (hrun : ∀ c, Sound C nt n0 σ0 (run c) c) {Q : Post} : ∀ (k : Nat) (c : Code) (e : Env) (H : AHeap) (a : Act) (w : World), SR C nt n0 σ0 e H a w →
    awp.scopes run whole Q k c e H → ∀ b it cs, ∃ x a' w', Conc C nt n0 σ0 Q x a' w' ∧ Arrives C.P (lone (b.at a (.code c :: .inScope whole :: it)) cs w) b it cs x a' w'
  | 0, _, _, _, _, _, _, h => h.elim
  | k + 1, c, e, H, a, w, hs, h => by
    intro b it cs
    obtain ⟨x, a₁, w₁, hq, harr⟩ := hrun c _ e H a w hs h b (.inScope whole :: it) cs
    cases x with
    | normal => exact ⟨.normal, a₁, w₁, hq, Steps.trans harr (.one step_inScope)⟩
    | exit id => exact ⟨.exit id, a₁, w₁, hq, fun k' hk => harr k' (by simp [exitTo, hk])⟩
    | goto l =>
      obtain ⟨e1, H1, hs1, h1⟩ := hq
      simp only at h1
      split at h1
      · rename_i rest hf
        have hg : gotoIn l (.inScope whole :: it) = some (.code rest :: .inScope whole :: it) := by simp [gotoIn, hf]
        obtain ⟨e₂, a₂, w₂, hq₂, harr₂⟩ := scopes_sound hrun k rest e1 H1 a₁ w₁ hs1 h1 b it cs
        exact ⟨e₂, a₂, w₂, hq₂, .of_steps (harr _ hg) harr₂⟩
      · rename_i hf
        exact ⟨.goto l, a₁, w₁, ⟨e1, H1, hs1, h1⟩, fun k' hk => harr k' (by simp [gotoIn, hf, hk])⟩
    | ret => exact ⟨.ret, a₁, w₁, hq, harr⟩
    | panic ch => exact hq.elim
    | outgrown => exact hq.elim
theorem scopeP_from {run : Code → Post → Env → AHeap → Prop} {whole : Code} (hrun : ∀ c, Sound C nt n0 σ0 (run c) c) {Q : Post} {S : Type} {lab : S → Nat} {en : S → Env} {hp : S → AHeap} {ok : S → Prop} {c : Code} {e : Env} {H : AHeap}
    (h : run c (fun x e H => match x with
      | .goto l => (∃ s', lab s' = l ∧ ok s' ∧ SubE (en s') e ∧ hp s' = H) ∨ (findLabel whole l = none ∧ Q (.goto l) e H)
      | x => Q x e H) e H) {a : Act} {w : World} (hs : SR C nt n0 σ0 e H a w)
    (hgo : ∀ s, ok s → ∀ a w, SR C nt n0 σ0 (en s) (hp s) a w → ∀ rest, findLabel whole (lab s) = some rest → ∀ b it cs, ∃ x a' w', Conc C nt n0 σ0 Q x a' w' ∧ Arrives C.P (lone (b.at a (.code rest :: .inScope whole :: it)) cs w) b it cs x a' w')
    (hlab : ∀ s, ∃ rest, findLabel whole (lab s) = some rest) :
    ∀ b it cs, ∃ x a' w', Conc C nt n0 σ0 Q x a' w' ∧ Arrives C.P (lone (b.at a (.code c :: .inScope whole :: it)) cs w) b it cs x a' w' := by
  intro b it cs
  obtain ⟨x, a₁, w₁, hq, harr⟩ := hrun c _ e H a w hs h b (.inScope whole :: it) cs
  cases x with
  | normal => exact ⟨.normal, a₁, w₁, hq, Steps.trans harr (.one step_inScope)⟩
  | exit id => exact ⟨.exit id, a₁, w₁, hq, fun k' hk => harr k' (by simp [exitTo, hk])⟩
  | goto l =>
    obtain ⟨e1, H1, hs1, h1⟩ := hq
    rcases h1 with ⟨s', q1, q2, q3, q4⟩ | ⟨hf, h1⟩
    · subst q1; subst q4
      obtain ⟨rest, hf⟩ := hlab s'
      have hg : gotoIn (lab s') (.inScope whole :: it) = some (.code rest :: .inScope whole :: it) := by simp [gotoIn, hf]
      obtain ⟨e₂, a₂, w₂, hq₂, harr₂⟩ := hgo s' q2 a₁ w₁ (hs1.weak q3) rest hf b it cs
      exact ⟨e₂, a₂, w₂, hq₂, .of_steps (harr _ hg) harr₂⟩
    · exact ⟨.goto l, a₁, w₁, ⟨e1, H1, hs1, h1⟩, fun k' hk => harr k' (by simp [gotoIn, hf, hk])⟩
  | ret => exact ⟨.ret, a₁, w₁, hq, harr⟩
  | panic ch => exact hq.elim
  | outgrown => exact hq.elim
theorem scopeP_sound {run : Code → Post → Env → AHeap → Prop} {whole : Code} (hrun : ∀ c, Sound C nt n0 σ0 (run c) c) {Q : Post} {S : Type} {lab : S → Nat} {en : S → Env} {hp : S → AHeap} {μ : S → Nat} {c : Code} {e : Env} {H : AHeap}
    (h1 : run c (fun x e H => match x with
      | .goto l => (∃ s', lab s' = l ∧ SubE (en s') e ∧ hp s' = H) ∨ (findLabel whole l = none ∧ Q (.goto l) e H)
      | x => Q x e H) e H)
    (h2 : ∀ s, ∃ rest, findLabel whole (lab s) = some rest ∧ run rest (fun x e H => match x with
      | .goto l => (∃ s', lab s' = l ∧ μ s' < μ s ∧ SubE (en s') e ∧ hp s' = H) ∨ (findLabel whole l = none ∧ Q (.goto l) e H)
      | x => Q x e H) (en s) (hp s)) {a : Act} {w : World} (hs : SR C nt n0 σ0 e H a w) :
    ∀ b it cs, ∃ x a' w', Conc C nt n0 σ0 Q x a' w' ∧ Arrives C.P (lone (b.at a (.code c :: .inScope whole :: it)) cs w) b it cs x a' w' := by
  have hlab : ∀ s, ∃ rest, findLabel whole (lab s) = some rest := fun s => let ⟨r, h, _⟩ := h2 s; ⟨r, h⟩
  have go : ∀ (m : Nat) (s : S), μ s < m → ∀ a w, SR C nt n0 σ0 (en s) (hp s) a w → ∀ rest, findLabel whole (lab s) = some rest → ∀ b it cs, ∃ x a' w', Conc C nt n0 σ0 Q x a' w' ∧ Arrives C.P (lone (b.at a (.code rest :: .inScope whole :: it)) cs w) b it cs x a' w' := by
    intro m
    induction m with
    | zero => intro s hm; omega
    | succ m ih =>
      intro s hm a w hs rest hf
      obtain ⟨rest', hf', hr⟩ := h2 s
      rw [hf] at hf'; injection hf' with hf'; subst hf'
      exact scopeP_from hrun (ok := fun s' => μ s' < μ s) hr hs (fun s' hok a w hs rest hf => ih s' (by omega) a w hs rest hf) hlab
  refine scopeP_from hrun (ok := fun _ => True) (h := ?_) hs (fun s _ a w hs rest hf => go (μ s + 1) s (Nat.lt_succ_self _) a w hs rest hf) hlab
  have : (fun (x : AExit) (e : Env) (H : AHeap) => match x with
      | .goto l => (∃ s', lab s' = l ∧ SubE (en s') e ∧ hp s' = H) ∨ (findLabel whole l = none ∧ Q (.goto l) e H)
      | x => Q x e H) = (fun (x : AExit) (e : Env) (H : AHeap) => match x with
      | .goto l => (∃ s', lab s' = l ∧ True ∧ SubE (en s') e ∧ hp s' = H) ∨ (findLabel whole l = none ∧ Q (.goto l) e H)
      | x => Q x e H) := by
    funext x e H
    cases x <;> simp
  rw [this] at h1
  exact h1
theorem wp_scopes {Q : Exit → Act → World → Prop} {c : Code} {a : Act} {w : World} (h : ∀ b it cs, ∃ x a' w', Q x a' w' ∧ Arrives C.P (lone (b.at a (.code c :: .inScope c :: it)) cs w) b it cs x a' w') : (Code.scope c).wp C.P Q a w := by
  intro b k cs
  obtain ⟨x, a₁, w₁, hq, harr⟩ := h b k cs
  exact ⟨x, a₁, w₁, hq, .of_steps (.one step_scope) harr⟩
theorem awp_sound (hC : CtxOk C) {A : Ann} (hA : A.nt = nt) (hA0 : A.n0 = n0) : ∀ (n : Nat) (c : Code), Sound C nt n0 σ0 (awp C A n c) c
  | 0, c => fun Q e H a w hs h => by cases c <;> exact h.elim
  | n + 1, c => by
    intro Q e H a w hs h
    cases c with
    | skip => exact Go.wp_skip ⟨e, H, hs, h⟩
    | region id ops draw =>
      simp only [awp, hA0] at h
      obtain ⟨e1, H1, hs1, h1⟩ := ghs_sound hs h
      cases draw with
      | false =>
        simp only [hA] at h1
        refine wp_region ?_
        rw [List.range_eq_range']
        refine aops_sound hC (k := Q .normal) (fun e H a w hs' h' => ⟨e, H, hs', h'⟩) ops.size 0 e1 H1 a w (by simp) hs1 h1
      | true =>
        simp only [hA] at h1
        split at h1
        · rename_i a0 d ht
          exact toss_sound hC ht hs1 fun b a w hs' => ⟨_, _, hs', h1 b⟩
        · exact draw_sound hC h1.1 hs1 (fun e H a w hs' h' => ⟨e, H, hs', h'⟩) h1.2
    | seq x y =>
      refine Go.wp_seq (Go.wp_mono (awp_sound hC hA hA0 n x _ e H a w hs h) ?_)
      refine conc_mono ?_ ?_ ?_ ?_
      · exact fun e H a w h1 h2 => awp_sound hC hA hA0 n y _ e H a w h1 h2
      · exact fun id e H a w h1 h2 => ⟨e, H, h1, h2⟩
      · exact fun id e H a w h1 h2 => ⟨e, H, h1, h2⟩
      · exact fun e H a w h1 h2 => ⟨e, H, h1, h2⟩
    | cond c t f =>
      simp only [awp] at h
      split at h
      · rename_i b hb
        have hs' := hs
        obtain ⟨σ, rfl, rfl, ok, ext, he, hd, hz, hG, hn⟩ := hs'
        have hx := ev_sound hG he c
        rw [hb] at hx
        refine Go.wp_cond (lit_bool hx) ?_
        cases b with
        | true => exact awp_sound hC hA hA0 n t _ e _ a _ hs h
        | false => exact awp_sound hC hA hA0 n f _ e _ a _ hs h
      · exact h.elim
    | block id x =>
      refine Go.wp_block (Go.wp_mono (awp_sound hC hA hA0 n x _ e H a w hs h) ?_)
      refine conc_mono ?_ ?_ ?_ ?_
      · exact fun e H a w h1 h2 => ⟨e, H, h1, h2⟩
      · intro i e H a w h1 h2
        simp only at h2
        simp only [Exit.inBlock]
        split at h2
        · rename_i hb
          rw [if_pos (Nat.eq_of_beq_eq_true hb)]
          exact ⟨e, H, h1, h2⟩
        · rename_i hb
          rw [if_neg (by rintro rfl; simp at hb)]
          exact ⟨e, H, h1, h2⟩
      · exact fun id e H a w h1 h2 => ⟨e, H, h1, h2⟩
      · exact fun e H a w h1 h2 => ⟨e, H, h1, h2⟩
    | loop x =>
      rcases h with ⟨k, h⟩ | ⟨S, en, hp, μ, s0, h1, h2, h3⟩
      · exact Go.wp_loop_rounds k (rounds_sound (awp_sound hC hA hA0 n x) k e H a w hs h)
      · subst h2
        exact Go.wp_loop_rounds (μ s0 + 1) (loopP_sound (awp_sound hC hA hA0 n x) h3 (μ s0 + 1) s0 (Nat.lt_succ_self _) a w (hs.weak h1))
    | exit id => exact Go.wp_exit ⟨e, H, hs, h⟩
    | label l => exact Go.wp_label ⟨e, H, hs, h⟩
    | goto l => exact Go.wp_goto ⟨e, H, hs, h⟩
    | ret => exact Go.wp_ret ⟨e, H, hs, h⟩
    | scope x =>
      rcases h with ⟨k, h⟩ | ⟨S, lab, en, hp, μ, h1, h2⟩
      · exact wp_scopes (scopes_sound (fun c => awp_sound hC hA hA0 n c) k x e H a w hs h)
      · exact wp_scopes (scopeP_sound (fun c => awp_sound hC hA hA0 n c) h1 h2 hs)
    | rangeFunc _ _ _ _ => exact h.elim
    | _ => exact h.elim
end
end Go.Abs
/- A contract out of an abstract run of a function's body. -/
namespace Go.Abs
set_option linter.unusedVariables false
set_option linter.unusedSimpArgs false
theorem lk_enum : ∀ (l : List V) (n i : Nat), lk (enum n l) i = if n ≤ i then (l[i - n]?).getD .top else .top
  | [], n, i => by simp [enum, lk]
  | v :: r, n, i => by
    rw [enum, lk_cons, lk_enum r (n + 1) i]
    by_cases h : n = i
    · subst h; simp
    · by_cases h2 : n ≤ i
      · have h3 : n + 1 ≤ i := by omega
        have h4 : i - n = (i - (n + 1)) + 1 := by omega
        simp [h, h2, h3, h4]
      · have h3 : ¬ n + 1 ≤ i := by omega
        simp [h, h2, h3]
section
variable {C : Ctx}
theorem enum_ok {σ : St} {args : List V} {vals : List Value} (h : RepVs σ args vals) (n : Nat) : EnvOk σ (enum 0 args) { tmps := ⟨vals⟩ ++ Array.replicate (n - vals.length) undef, defers := [] } := by
  intro i
  rw [lk_enum]
  simp only [Nat.zero_le, if_true, Nat.sub_zero]
  cases hi : args[i]? with
  | none => exact .top
  | some v =>
    obtain ⟨x, hx, hr⟩ := h.at hi
    have hlt := (List.getElem?_eq_some_iff.1 hx).1
    have : ((⟨vals⟩ : Array Value) ++ Array.replicate (n - vals.length) undef).getD i undef = x := by
      rw [Array.getD_eq_getD_getElem?, Array.getElem?_append_left (by simpa using hlt)]
      simp [hx]
    rw [this]
    exact hr
def resOne (tmps : Array Value) : ResultVar → Sem Value
  | .tmp t => pure (tmps.getD t undef)
  | .cell b t => do loadVar t (← asAddr (tmps.getD b undef))
theorem results_eq (fn : Func) (tmps : Array Value) : results fn tmps = (do
    let vs ← fn.results.mapM (resOne tmps)
    pure (if h : vs.size = 1 then vs[0] else .tuple vs)) := by
  unfold results
  congr 1
theorem loadAt_addr {H : AHeap} {σ : St} {t : Nat} {a v : V} {x : Value} (hx : RepV σ a x) (h : loadAt C H t a = some v) : (asAddr x : Sem Addr) = Instr.sureAddr x := by
  unfold loadAt at h
  split at h
  · cases hx with
    | ptr => rfl
    | p hx => cases hx with
      | rp => rfl
      | _ => cases h
    | _ => cases h
  · cases h
theorem resOf_sound (hT : TyOk C) {σ : St} (ok : σ.ok) {e : Env} {a : Act} (he : EnvOk σ e a) : ∀ {l : List ResultVar} {vs : List V}, resOf C e σ.H l = some vs →
    ∃ xs, (l.mapM (resOne a.tmps)).run C.P σ.w = .ok xs σ.w ∧ RepVs σ vs xs
  | [], vs, h => by
    injection h with h; subst h
    exact ⟨[], rfl, .nil⟩
  | .tmp t :: r, vs, h => by
    simp only [resOf] at h
    split at h
    · rename_i l hl
      injection h with h; subst h
      obtain ⟨xs, h1, h2⟩ := resOf_sound hT ok he hl
      refine ⟨a.tmps.getD t undef :: xs, ?_, .cons (he t) h2⟩
      simp only [List.mapM_cons, resOne, Sem.run_bind, Sem.run_pure, Result.andThen_ok, h1]
    · cases h
  | .cell b t :: r, vs, h => by
    simp only [resOf] at h
    split at h
    · rename_i v hv
      split at h
      · rename_i l hl
        injection h with h; subst h
        obtain ⟨xs, h1, h2⟩ := resOf_sound hT ok he hl
        obtain ⟨y, h3, h4⟩ := loadAt_sound hT ok (he b) hv
        refine ⟨y :: xs, ?_, .cons h4 h2⟩
        have h3' : (resOne a.tmps (.cell b t)).run C.P σ.w = .ok y σ.w := by
          show (do loadVar t (← asAddr (a.tmps.getD b undef)) : Sem Value).run C.P σ.w = _
          rw [loadAt_addr (he b) hv]; exact h3
        rw [List.mapM_cons, Sem.run_bind, h3']
        simp only [Sem.run_bind, Sem.run_pure, Result.andThen_ok, h1]
      · cases h
    · cases h
theorem results_sound (hT : TyOk C) {σ : St} (ok : σ.ok) {e : Env} {a : Act} (he : EnvOk σ e a) {fn : Func} {vs : List V} (h : resOf C e σ.H fn.results.toList = some vs) :
    ∃ v, (results fn a.tmps).run C.P σ.w = .ok v σ.w ∧ RepV σ (retV vs) v := by
  obtain ⟨xs, h1, h2⟩ := resOf_sound hT ok he h
  have hl := h2.length
  refine ⟨if h : (⟨xs⟩ : Array Value).size = 1 then (⟨xs⟩ : Array Value)[0] else .tuple ⟨xs⟩, ?_, ?_⟩
  · rw [results_eq, Sem.run_bind]
    have h3 : (fn.results.mapM (resOne a.tmps)).run C.P σ.w = .ok ⟨xs⟩ σ.w := by
      have : fn.results = fn.results.toList.toArray := by simp
      rw [this, List.mapM_toArray, map_eq_pure_bind, Sem.run_bind, h1]; rfl
    rw [h3]
    rfl
  · cases vs with
    | nil =>
      cases h2
      simp only [retV, toDs]
      exact .p (.tup .nil)
    | cons v r =>
      cases r with
      | nil =>
        cases h2 with
        | cons h t => cases t; exact h
      | cons v' r =>
        have hne : ¬ (⟨xs⟩ : Array Value).size = 1 := by simp at hl ⊢; omega
        rw [dif_neg hne]
        simp only [retV]
        split
        · rename_i ds hd
          exact .p (.tup (h2.toDs hd))
        · exact .tup h2
theorem ACalls_of_awp (hC : CtxOk C) {f : Nat} {fn : Func} {c : Code} {args : List V} {H : AHeap} {Q : V → AHeap → Prop} (A : Ann) (fuel : Nat) (hf : C.P.funcs[f]? = some fn) (hb : fn.body = some c)
    (hnt : A.nt = fn.ntmps) (hn0 : Nat.ble H.length A.n0 = true) (hn : Nat.ble args.length fn.ntmps = true) (h : awp C A fuel c (retQ C fn.results.toList Q) (enum 0 args) H) : ACalls C f args H Q := by
  intro σ vals hH ok hG hr
  subst hH
  refine calls_of_wp hf hb ?_
  have hs : SR C fn.ntmps A.n0 σ (enum 0 args) σ.H { tmps := ⟨vals⟩ ++ Array.replicate (fn.ntmps - vals.length) undef, defers := [] } σ.w := by
    have hl := hr.length
    have := Nat.le_of_ble_eq_true hn
    refine ⟨σ, rfl, rfl, ok, .refl σ, enum_ok hr _, rfl, ?_, hG, Nat.le_of_ble_eq_true hn0⟩
    simp; omega
  refine Go.wp_mono (awp_sound hC hnt rfl fuel c _ _ _ _ _ hs h) ?_
  have fin : ∀ e H a w, SR C fn.ntmps A.n0 σ e H a w → (match resOf C e H fn.results.toList with
      | some l => (retV l).cas fun v => Q v H
      | none => False) → a.defers = [] ∧ ∃ v, (results fn a.tmps).run C.P w = .ok v w ∧ ∃ v' r τ, Ending.returned v = .returned v' ∧ τ.w = w ∧ Q r τ.H ∧ RepV τ r v' ∧ τ.ok ∧ Ext σ τ := by
    rintro e H a w ⟨τ, rfl, rfl, ok1, ext, he, hd, hz, hG1, _⟩ hq
    refine ⟨hd, ?_⟩
    split at hq
    · rename_i l hl
      rw [V.cas_eq] at hq
      obtain ⟨v, h1, h2⟩ := results_sound hC.ty ok1 he hl
      exact ⟨v, h1, v, retV l, τ, rfl, rfl, hq, h2, ok1, ext⟩
    · exact hq.elim
  refine conc_mono ?_ ?_ ?_ ?_
  · exact fun e H a w h1 h2 => fin e H a w h1 h2
  · exact fun id e H a w h1 h2 => h2.elim
  · exact fun id e H a w h1 h2 => h2.elim
  · exact fun e H a w h1 h2 => fin e H a w h1 h2
end
end Go.Abs
/- A table of types, tested against the program's. -/
namespace Go.Abs
set_option linter.unusedVariables false
set_option linter.unusedSimpArgs false
def zvB : D → Value → Bool
  | .lit (.int k n), .int k' m => decide (k = k') && decide (n = m)
  | .lit (.bool b), .bool c => b == c
  | .lit (.string s), .string t => decide (s.data.toList = t.data.toList)
  | .lit (.float a b), .float c d => decide (a = c) && decide (b = d)
  | .lit (.complex a b c), .complex d e f => decide (a = d) && decide (b = e) && decide (c = f)
  | .lit (.pointer none), .pointer none => true
  | .lit (.map none), .map none => true
  | .lit .nilFunc, .nilFunc => true
  | .lit .nilIface, .nilIface => true
  | .sl [] true, .slice none 0 0 => true
  | _, _ => false
theorem zvB_spec {d : D} {v : Value} (h : zvB d v = true) : zOk d = true ∧ v = zval d := by
  unfold zvB at h
  split at h
  case h_1 => simp at h; obtain ⟨rfl, rfl⟩ := h; exact ⟨rfl, rfl⟩
  case h_2 => simp at h; subst h; exact ⟨rfl, rfl⟩
  case h_3 s t => simp at h; refine ⟨rfl, ?_⟩; simp only [zval]; congr 1; exact (ByteArray.ext h).symm
  case h_4 => simp at h; obtain ⟨rfl, rfl⟩ := h; exact ⟨rfl, rfl⟩
  case h_5 => simp at h; obtain ⟨⟨rfl, rfl⟩, rfl⟩ := h; exact ⟨rfl, rfl⟩
  all_goals first | exact ⟨rfl, rfl⟩ | cases h
def zsB : List D → List Value → Bool
  | [], [] => true
  | d :: r, v :: s => match zvB d v with
    | true => zsB r s
    | false => false
  | _, _ => false
theorem zsB_spec : ∀ {ds : List D} {vs : List Value}, zsB ds vs = true → (∀ d ∈ ds, zOk d = true) ∧ vs = ds.map zval
  | [], [], _ => ⟨by simp, rfl⟩
  | d :: r, v :: s, h => by
    simp only [zsB] at h
    split at h
    · rename_i h1
      obtain ⟨p1, p2⟩ := zvB_spec h1
      obtain ⟨q1, q2⟩ := zsB_spec h
      refine ⟨fun x hx => ?_, by rw [p2, q2]; rfl⟩
      rcases List.mem_cons.1 hx with hx | hx
      · subst hx; exact p1
      · exact q1 x hx
    · cases h
  | [], _ :: _, h => by cases h
  | _ :: _, [], h => by cases h
def fsB : List (Nat × Nat) → List (Nat × Nat) → Bool
  | [], [] => true
  | (a, b) :: r, (c, d) :: s => Nat.beq a c && Nat.beq b d && fsB r s
  | _, _ => false
theorem fsB_spec : ∀ {a b : List (Nat × Nat)}, fsB a b = true → a = b
  | [], [], _ => rfl
  | (a, b) :: r, (c, d) :: s, h => by
    simp only [fsB, Bool.and_eq_true] at h
    have h1 := Nat.eq_of_beq_eq_true h.1.1
    have h2 := Nat.eq_of_beq_eq_true h.1.2
    rw [h1, h2, fsB_spec h.2]
  | [], _ :: _, h => by cases h
  | _ :: _, [], h => by cases h
def tkB : TK → TK → Bool
  | .int k, .int k' => decide (k = k')
  | .str, .str => true
  | .bool, .bool => true
  | .slice e, .slice e' => Nat.beq e e'
  | .array n e, .array m f => Nat.beq n m && Nat.beq e f
  | .struct a, .struct b => fsB a b
  | .ptr e, .ptr f => Nat.beq e f
  | .ifc, .ifc => true
  | .map a b, .map c d => Nat.beq a c && Nat.beq b d
  | .flt a, .flt b => decide (a = b)
  | .cpx a, .cpx b => decide (a = b)
  | .uptr, .uptr => true
  | .other, .other => true
  | _, _ => false
theorem tkB_spec {a b : TK} (h : tkB a b = true) : a = b ∧ b ≠ .bad := by
  unfold tkB at h
  split at h
  case h_1 => simp at h; subst h; exact ⟨rfl, by simp⟩
  case h_4 => rw [Nat.eq_of_beq_eq_true h]; exact ⟨rfl, by simp⟩
  case h_5 => simp only [Bool.and_eq_true] at h; rw [Nat.eq_of_beq_eq_true h.1, Nat.eq_of_beq_eq_true h.2]; exact ⟨rfl, by simp⟩
  case h_6 => rw [fsB_spec h]; exact ⟨rfl, by simp⟩
  case h_7 => rw [Nat.eq_of_beq_eq_true h]; exact ⟨rfl, by simp⟩
  case h_9 => simp only [Bool.and_eq_true] at h; rw [Nat.eq_of_beq_eq_true h.1, Nat.eq_of_beq_eq_true h.2]; exact ⟨rfl, by simp⟩
  case h_10 => simp at h; subst h; exact ⟨rfl, by simp⟩
  case h_11 => simp at h; subst h; exact ⟨rfl, by simp⟩
  all_goals first | exact ⟨rfl, by simp⟩ | cases h
def tyB (P : Program) (t : Nat) (i : TI) : Bool := match i.kind with
  | .bad => true
  | k => (match P.underlying t with
    | some d => tkB (descKind d) k
    | none => false) && (match P.info? t with
    | some inf => Nat.beq inf.size i.size && Nat.beq inf.bytes i.bytes && (match inf.zero, i.agg with
      | some (.agg ⟨vs⟩), true => zsB i.zero vs
      | some v, false => (match i.zero with
        | [d] => zvB d v
        | _ => false)
      | _, _ => false)
    | none => false) && Nat.beq i.zero.length i.size && (match i.agg with
    | true => true
    | false => Nat.beq i.size 1) && (match i.cmp with
    | true => !P.stoodInHeld t && !P.eqGuardType P.depth t
    | false => true)
theorem tyB_spec {P : Program} {t : Nat} {i : TI} (h : tyB P t i = true) (hb : i.kind ≠ .bad) : TyAt P t i := by
  unfold tyB at h
  split at h
  · rename_i hk; exact absurd hk hb
  · simp only [Bool.and_eq_true] at h
    obtain ⟨⟨⟨⟨h1, h2⟩, h3⟩, h4⟩, h5⟩ := h
    refine ⟨?_, ?_, Nat.eq_of_beq_eq_true h3, ?_, hb, ?_, ?_⟩
    · split at h1
      · rename_i d hd
        exact ⟨d, hd, (tkB_spec h1).1⟩
      · cases h1
    · split at h2
      · rename_i inf hi
        simp only [Bool.and_eq_true] at h2
        refine ⟨inf, hi, Nat.eq_of_beq_eq_true h2.1.1, Nat.eq_of_beq_eq_true h2.1.2, ?_⟩
        have h2 := h2.2
        unfold zeroOf
        split at h2
        · rename_i hz ha
          rw [ha, hz, (zsB_spec h2).2]
        · rename_i v hz ha
          rw [ha, hz]
          split at h2
          · rename_i d hd; rw [hd, (zvB_spec h2).2]
          · cases h2
        · cases h2
      · cases h2
    · split at h2
      · simp only [Bool.and_eq_true] at h2
        have h2 := h2.2
        split at h2
        · exact (zsB_spec h2).1
        · split at h2
          · rename_i d hd; rw [hd]; intro x hx; simp at hx; subst hx; exact (zvB_spec h2).1
          · cases h2
        · cases h2
      · cases h2
    · intro ha
      rw [ha] at h4
      exact Nat.eq_of_beq_eq_true h4
    · intro hc
      rw [hc] at h5
      simp at h5
      exact h5
theorem tyOk_of {C : Ctx} {P : Program} {ty : Nat → TI} (n : Nat) (hP : C.P = P) (ht : C.ty = ty) (hfar : ∀ t, n ≤ t → ty t = ⟨.bad, 0, 0, [], false⟩) (h : (List.range n).all (fun t => tyB P t (ty t)) = true) : TyOk C := by
  intro t i hi
  have hk := tyOf_kind hi
  have hb : i.kind ≠ .bad := by
    intro e
    unfold tyOf at hi
    rw [hk, e] at hi
    cases hi
  rw [hP]
  rw [ht] at hk
  rcases Nat.lt_or_ge t n with hlt | hge
  · have := (List.all_eq_true.1 h) t (by simpa using hlt)
    rw [hk] at this
    exact tyB_spec this hb
  · rw [hfar t hge] at hk
    subst hk
    exact absurd rfl hb
end Go.Abs
