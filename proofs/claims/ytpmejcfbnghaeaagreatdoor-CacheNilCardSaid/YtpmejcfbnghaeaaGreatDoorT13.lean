/- Soundness of ghost steps and of regions that keep the text's order. -/
import Derived.Test.YtpmejcfbnghaeaaGreatDoorT12
namespace Go.Abs
set_option linter.unusedVariables false
set_option linter.unusedSimpArgs false

/-- A function that may be called: it has a body. -/
def Callable (P : Program) (f : Nat) : Prop := ∃ fn, P.funcs[f]? = some fn ∧ (fn.name == "runtime.NumGoroutine") = false ∧ fn.body.isNone = false
/-- The entry of the model's table that is meant. -/
def extFn : Xt → Array Value → Sem Value
  | .idx => Extern.BytealgIndexByte.indexByte
  | .cnt => Extern.BytealgCount.count
  | .same => Extern.AbiNoEscape.same
  | .none => fun _ => pure undef
def ExtAt (P : Program) (f : Nat) (k : Xt) : Prop := ∃ fn, P.funcs[f]? = some fn ∧ (fn.name == "runtime.NumGoroutine") = false ∧ fn.body.isNone = true ∧ Extern.findNext fn = none ∧ Extern.find fn = some (extFn k)
structure CtxOk (C : Ctx) : Prop where
  ty : TyOk C
  fns : ∀ f, C.fns f = true → Callable C.P f
  mixed : C.P.follows .mixedOrders = true
  ext : ∀ f, C.ext f ≠ .none → ExtAt C.P f (C.ext f)
/-- The run's state is what the abstract one says; since the call began at σ0 nothing else has changed. -/
def SR (C : Ctx) (nt n0 : Nat) (σ0 : St) (e : Env) (H : AHeap) (a : Act) (w : World) : Prop :=
  ∃ σ, σ.w = w ∧ σ.H = H ∧ σ.ok ∧ Ext σ0 σ ∧ EnvOk σ e a ∧ a.defers = [] ∧ a.tmps.size = nt ∧ GOk C σ ∧ σ0.H.length ≤ n0
/-- What an abstract end says of a run's. -/
def Conc (C : Ctx) (nt n0 : Nat) (σ0 : St) (Q : Post) : Exit → Act → World → Prop
  | .normal, a, w => ∃ e H, SR C nt n0 σ0 e H a w ∧ Q .normal e H
  | .exit id, a, w => ∃ e H, SR C nt n0 σ0 e H a w ∧ Q (.exit id) e H
  | .goto l, a, w => ∃ e H, SR C nt n0 σ0 e H a w ∧ Q (.goto l) e H
  | .ret, a, w => ∃ e H, SR C nt n0 σ0 e H a w ∧ Q .ret e H
  | _, _, _ => False

section
variable {C : Ctx} {nt n0 : Nat} {σ0 : St}

theorem keepE_ok {σ : St} {e : Env} {a : Act} (he : EnvOk σ e a) : ∀ (l : List Nat), EnvOk σ (keepE e l) a
  | [] => fun i => .top
  | j :: r => by
    intro i
    rw [keepE, V.cas_eq]
    simp only [lk]
    cases hb : Nat.beq j i with
    | true => have := Nat.eq_of_beq_eq_true hb; subst this; exact he j
    | false => exact keepE_ok he r i
theorem lk_cons (e : Env) (d i : Nat) (v : V) : lk ((d, v) :: e) i = if d = i then v else lk e i := by
  simp only [lk]
  cases hb : Nat.beq d i with
  | true => have := Nat.eq_of_beq_eq_true hb; subst this; simp
  | false => have : d ≠ i := by rintro rfl; simp at hb
             rw [if_neg this]
mutual
theorem rep_trim {σ τ : St} {n : Nat} (hvb : ∀ b, b < n → τ.vb b = σ.vb b) (hw : τ.w = σ.w) (hF : τ.Fz = σ.Fz) (hι : τ.ι = σ.ι) : ∀ {v : V} {x : Value}, RepV σ v x → v.idsLt n = true → RepV τ v x
  | _, _, .p h, _ => by rw [← hw, ← hF] at h; exact .p h
  | _, _, .top, _ => .top
  | _, _, .vec (b := b) hid hc hs hl hr h hb, e => by
    simp only [V.idsLt] at e
    have hlt : b < n := by simpa using e
    rw [← hw, ← hF, ← hι] at hr; rw [← hw, ← hF] at h; rw [← hw, ← hι] at hb
    obtain ⟨m, h1, h2⟩ := hid
    have := RepV.vec (σ := τ) ⟨m, by rw [hvb b hlt]; exact h1, h2⟩ hc hs hl hr h hb
    rw [hι] at this; exact this
  | _, _, .vptr (b := b) hid hs hl hr h, e => by
    simp only [V.idsLt] at e
    have hlt : b < n := by simpa using e
    rw [← hw, ← hF, ← hι] at hr; rw [← hw, ← hF] at h
    obtain ⟨m, h1, h2⟩ := hid
    have := RepV.vptr (σ := τ) ⟨m, by rw [hvb b hlt]; exact h1, h2⟩ hs hl hr h
    rw [hι] at this; exact this
  | _, _, .row0 (b := b) hid hb, e => by
    simp only [V.idsLt] at e
    have hlt : b < n := by simpa using e
    rw [← hw, ← hι] at hb
    obtain ⟨m, h1, h2⟩ := hid
    exact .row0 ⟨m, by rw [hvb b hlt]; exact h1, h2⟩ hb
  | _, _, .row (b := b) hid hc hb, e => by
    simp only [V.idsLt] at e
    have hlt : b < n := by simpa using e
    rw [← hw, ← hι] at hb
    obtain ⟨m, h1, h2⟩ := hid
    have := RepV.row (σ := τ) ⟨m, by rw [hvb b hlt]; exact h1, h2⟩ hc hb
    rw [hι] at this; exact this
  | _, _, .vec0 (b := b) hid, e => by
    simp only [V.idsLt] at e
    have hlt : b < n := by simpa using e
    obtain ⟨m, h1, h2⟩ := hid
    exact .vec0 ⟨m, by rw [hvb b hlt]; exact h1, h2⟩
  | _, _, .own (b := b) hid hc hf, e => by
    simp only [V.idsLt] at e
    have hlt : b < n := by simpa using e
    obtain ⟨m, h1, h2⟩ := hid
    rw [← hι]
    exact .own ⟨m, by rw [hvb b hlt]; exact h1, h2⟩ hc hf
  | _, _, .own0 (b := b) hid hf, e => by
    simp only [V.idsLt] at e
    have hlt : b < n := by simpa using e
    obtain ⟨m, h1, h2⟩ := hid
    exact .own0 ⟨m, by rw [hvb b hlt]; exact h1, h2⟩ hf
  | _, _, .mp (b := b) hid, e => by
    simp only [V.idsLt] at e
    have hlt : b < n := by simpa using e
    obtain ⟨m, h1, h2⟩ := hid
    rw [← hι]
    exact .mp ⟨m, by rw [hvb b hlt]; exact h1, h2⟩
  | _, _, .ptr (b := b) hid, e => by
    simp only [V.idsLt] at e
    have hlt : b < n := by simpa using e
    obtain ⟨m, h1, h2⟩ := hid
    rw [← hι]
    exact .ptr ⟨m, by rw [hvb b hlt]; exact h1, h2⟩
  | _, _, .agg hl h, e => .agg hl (reps_trim hvb hw hF hι h (by simpa [V.idsLt] using e))
  | _, _, .fn h, e => .fn (reps_trim hvb hw hF hι h (by simpa [V.idsLt] using e))
  | _, _, .bfn h, e => .bfn (reps_trim hvb hw hF hι h (by simpa [V.idsLt] using e))
  | _, _, .tup h, e => .tup (reps_trim hvb hw hF hι h (by simpa [V.idsLt] using e))
theorem reps_trim {σ τ : St} {n : Nat} (hvb : ∀ b, b < n → τ.vb b = σ.vb b) (hw : τ.w = σ.w) (hF : τ.Fz = σ.Fz) (hι : τ.ι = σ.ι) : ∀ {v : List V} {x : List Value}, RepVs σ v x → idsLts n v = true → RepVs τ v x
  | _, _, .nil, _ => .nil
  | _, _, .cons (d := v) (l := r) h t, e => by
    simp only [idsLts] at e
    cases hv : V.idsLt n v with
    | false => simp [hv] at e
    | true => simp [hv] at e; exact .cons (rep_trim hvb hw hF hι h hv) (reps_trim hvb hw hF hι t e)
end
theorem env_trim {σ τ : St} {n : Nat} (hvb : ∀ b, b < n → τ.vb b = σ.vb b) (hw : τ.w = σ.w) (hF : τ.Fz = σ.Fz) (hι : τ.ι = σ.ι) {e : Env} {a : Act} (he : EnvOk σ e a) (hl : envLt n e = true) : EnvOk τ e a := by
  intro i
  have key : ∀ e : Env, envLt n e = true → (lk e i).idsLt n = true := by
    intro e
    induction e with
    | nil => intro _; rfl
    | cons q r ih =>
      obtain ⟨d, v⟩ := q
      intro h
      simp only [envLt] at h
      cases hv : v.idsLt n with
      | false => simp [hv] at h
      | true =>
        simp [hv] at h
        rw [lk_cons]
        split
        · exact hv
        · exact ih h
  exact rep_trim hvb hw hF hι (he i) (key e hl)
theorem trimK_out {n : Nat} : ∀ {H : AHeap} {k : Prop}, trimK n H k → k ∧ ∀ o ∈ H, o.idsLt n = true
  | [], k, h => ⟨h, by simp⟩
  | o :: r, k, h => by
    have go : o.idsLt n = true → trimK n r k → k ∧ ∀ x ∈ o :: r, x.idsLt n = true := by
      intro h1 h2
      obtain ⟨p1, p2⟩ := trimK_out h2
      refine ⟨p1, fun x hx => ?_⟩
      rcases List.mem_cons.1 hx with rfl | hx
      · exact h1
      · exact p2 x hx
    cases o with
    | cells lz ver cs =>
      cases lz with
      | z => exact go h.1 h.2
      | r _ =>
        simp only [trimK] at h
        cases hi : idsLts n cs with
        | false => simp [hi] at h
        | true => simp only [hi] at h; exact go hi h
      | t _ =>
        simp only [trimK] at h
        cases hi : idsLts n cs with
        | false => simp [hi] at h
        | true => simp only [hi] at h; exact go hi h
    | map ks vs =>
      simp only [trimK] at h
      cases hi : (AObj.map ks vs).idsLt n with
      | false => simp [hi] at h
      | true => simp only [hi] at h; exact go hi h
    | tok T s m => exact go rfl (show trimK n r k from h)
    | dead m => exact go rfl (show trimK n r k from h)
theorem trim_ok {σ : St} (ok : σ.ok) (ext : Ext σ0 σ) {n : Nat} (hn : σ0.H.length ≤ n) (hc : ∀ o ∈ σ.H.take n, o.idsLt n = true) :
    let τ : St := { σ with O := fun b j o => b < n ∧ σ.O b j o, H := σ.H.take n }; τ.ok ∧ Ext σ0 τ ∧ ∀ b, b < n → τ.vb b = σ.vb b := by
  intro τ
  have hat : ∀ b, b < n → τ.H[b]? = σ.H[b]? := fun b hb => by show (σ.H.take n)[b]? = _; rw [List.getElem?_take, if_pos hb]
  have hvb : ∀ b, b < n → τ.vb b = σ.vb b := fun b hb => by unfold St.vb; rw [hat b hb]
  have hnone : ∀ b o, τ.H[b]? = some o → b < n := fun b o h => by
    have h' : (σ.H.take n)[b]? = some o := h
    rw [List.getElem?_take] at h'
    split at h'
    · assumption
    · cases h'
  refine ⟨⟨?_, ?_, fun b b' j o hne h h' => ok.disj b b' j o hne h.2 h'.2, fun b j o h => ok.fz b j o h.2, fun b j o h => ok.lt b j o h.2, ok.ltf⟩, ?_, hvb⟩
  · intro b o h
    have hb := hnone b o h
    have h' : σ.H[b]? = some o := by rw [← hat b hb]; exact h
    have hr := ok.objs b o h'
    have hO : ∀ j p, τ.O b j p ↔ σ.O b j p := fun j p => ⟨fun h => h.2, fun h => ⟨hb, h⟩⟩
    cases o with
    | cells lz v cs =>
      obtain ⟨c, T, fr, r1, r2, r3, r4, r5, r6⟩ := hr
      exact ⟨c, T, fr, r1, r2, reps_trim hvb rfl rfl rfl r3 (hc _ (List.mem_of_getElem? h)), r4, r5, fun j o => by rw [hO]; exact r6 j o⟩
    | tok T s m =>
      rcases hr with ⟨r1, r2⟩ | ⟨c, fr, q, r1, r2, r3, r4, r5⟩
      · exact .inl ⟨r1, fun j o => by rw [hO]; exact r2 j o⟩
      · exact .inr ⟨c, fr, q, r1, r2, r3, r4, fun j o => by rw [hO]; exact r5 j o⟩
    | dead v => exact fun j o => by rw [hO]; exact hr j o
    | map ks vs =>
      obtain ⟨es, ck, l, r1, r2, r3, r4, r5, r6⟩ := hr
      have hi := hc _ (List.mem_of_getElem? h)
      simp only [AObj.idsLt] at hi
      split at hi
      · rename_i hk
        exact ⟨es, ck, l, r1, r2, r3, reps_trim hvb rfl rfl rfl r4 hk, reps_trim hvb rfl rfl rfl r5 hi, fun j o => by rw [hO]; exact r6 j o⟩
      · cases hi
  · intro b h j o ho
    refine ok.out b ?_ j o ho.2
    rw [← hat b ho.1]; exact h
  · refine ⟨ext.size, ext.os, ext.tape, ext.output, ext.cell, ext.block, ext.shape, ext.fz, ext.fzn, fun j o ⟨b, h⟩ hj => ext.ownn j o ⟨b, h.2⟩ hj, fun b m hm => ?_⟩
    obtain ⟨m', h1, h2, h3⟩ := ext.ids b m hm
    exact ⟨m', by rw [hvb b (Nat.lt_of_lt_of_le (St.vb_lt hm) hn)]; exact h1, h2, h3⟩
theorem nil_slice {σ : St} {x : Value} (h : RepV σ (.p (.sl [] true)) x) : ∃ a, x = .slice a 0 0 := by
  cases h with
  | p h => cases h with
    | sl hc hf _ _ _ _ => have := hf rfl; subst this; exact ⟨_, rfl⟩
    | sl0 hf => have := hf rfl; subst this; exact ⟨_, rfl⟩
theorem gh_sound {g : Gh} {k : Env → AHeap → Prop} {e : Env} {H : AHeap} {a : Act} {w : World} (hs : SR C nt n0 σ0 e H a w) (h : gh n0 g k e H) : ∃ e' H', SR C nt n0 σ0 e' H' a w ∧ k e' H' := by
  obtain ⟨σ, rfl, rfl, ok, ext, he, hd, hz, hG, hn⟩ := hs
  cases g with
  | keep l =>
    simp only [gh, spine_eq] at h
    exact ⟨_, _, ⟨σ, rfl, rfl, ok, ext, keepE_ok he l, hd, hz, hG, hn⟩, h⟩
  | prom slot T s =>
    simp only [gh] at h
    split at h
    · rename_i hl
      obtain ⟨p1, p2, p3⟩ := push_virtual ok T s
      have hx := he slot
      rw [hl] at hx
      obtain ⟨ad, hx⟩ := nil_slice hx
      refine ⟨_, _, ⟨{ σ with H := σ.H ++ [.tok T s 0] }, rfl, rfl, p1, ext.trans p2, fun i => ?_, hd, hz, hG.mon (p2.mon ok), hn⟩, h⟩
      rw [lk_cons]
      split
      · rename_i hi; subst hi; rw [hx]; exact .vec0 p3
      · exact (he i).mon (p2.mon ok)
    · exact ⟨_, _, ⟨σ, rfl, rfl, ok, ext, he, hd, hz, hG, hn⟩, h⟩
    · exact h.elim
  | promc slot cell T s =>
    simp only [gh] at h
    split at h
    · rename_i b ver off hl
      split at h
      · rename_i lz cs ho
        split at h
        · rename_i hc
          obtain ⟨hH, _⟩ := ok.cellsAt ho
          obtain ⟨c, T', fr, hh, hsz, hcs, hfr, hleaf, hO⟩ := ok.objs b _ hH
          obtain ⟨p1, p2, p3⟩ := push_virtual ok T s
          have hblt : b < σ.H.length := (List.getElem?_eq_some_iff.1 hH).1
          have hm := p2.mon ok
          obtain ⟨xv, hxv, hxr⟩ := hcs.at hc
          obtain ⟨ad, hx⟩ := nil_slice hxr
          -- the abstract cell becomes a row that may be appended to
          have hset : ∀ b', b' ≠ b → (σ.H.set b (.cells lz ver (cs.set (off + cell) (.vec σ.H.length s []))) ++ [.tok T s 0])[b']? = (σ.H ++ [.tok T s 0])[b']? := by
            intro b' hb'
            rcases Nat.lt_or_ge b' σ.H.length with h | h
            · rw [List.getElem?_append_left (by simpa using h), List.getElem?_append_left h, List.getElem?_set_ne (Ne.symm hb')]
            · rw [List.getElem?_append_right (by simpa using h), List.getElem?_append_right h]; simp
          have hsetb : (σ.H.set b (.cells lz ver (cs.set (off + cell) (.vec σ.H.length s []))) ++ [.tok T s 0])[b]? = some (.cells lz ver (cs.set (off + cell) (.vec σ.H.length s []))) := by
            rw [List.getElem?_append_left (by simpa using hblt)]; simp [hblt]
          have holdb : (σ.H ++ [AObj.tok T s 0])[b]? = some (.cells lz ver cs) := by rw [List.getElem?_append_left hblt]; exact hH
          let τ1 : St := { σ with H := σ.H ++ [.tok T s 0] }
          let τ : St := { σ with H := σ.H.set b (.cells lz ver (cs.set (off + cell) (.vec σ.H.length s []))) ++ [.tok T s 0] }
          have hvb : ∀ b', τ.vb b' = τ1.vb b' := by
            intro b'
            by_cases hb' : b' = b
            · subst hb'
              show ((σ.H.set b' _ ++ _)[b']?).map AObj.ver = ((σ.H ++ _)[b']?).map AObj.ver
              rw [hsetb, holdb]; rfl
            · show ((σ.H.set b _ ++ _)[b']?).map AObj.ver = ((σ.H ++ _)[b']?).map AObj.ver
              rw [hset b' hb']
          have e2 : Ext τ1 τ := ⟨Nat.le_refl _, rfl, rfl, rfl, fun _ _ _ _ => rfl, fun _ _ _ => rfl, fun _ c T fr h => ⟨c, fr, h, rfl⟩, fun _ _ h => h, fun _ _ h _ => .inl h, fun _ _ h _ => h, fun b m h => ⟨m, by rw [hvb]; exact h, Nat.le_refl _, fun _ _ => rfl⟩⟩
          have hm2 := e2.mon p1
          have okτ : τ.ok := by
            refine ⟨?_, ?_, p1.disj, p1.fz, p1.lt, p1.ltf⟩
            · intro b' o h'
              by_cases hb' : b' = b
              · subst hb'
                have : o = .cells lz ver (cs.set (off + cell) (.vec σ.H.length s [])) := by
                  have h2 : (σ.H.set b' (.cells lz ver (cs.set (off + cell) (.vec σ.H.length s []))) ++ [.tok T s 0])[b']? = some o := h'
                  rw [hsetb] at h2; injection h2 with h2; exact h2.symm
                subst this
                refine ⟨c, T', fr, hh, by simpa using hsz, ?_, by simpa using hfr, fun x hx' => ?_, hO⟩
                · have h1 := (hcs.mon hm).mon hm2
                  have hv : RepV τ (.vec σ.H.length s []) xv := by
                    rw [hx]
                    obtain ⟨m, q1, q2⟩ := p3
                    exact .vec0 ⟨m, by rw [hvb]; exact q1, q2⟩
                  have h2 := h1.set (i := off + cell) hv
                  have h3 : (c.toList.take cs.length).set (off + cell) xv = c.toList.take cs.length := by
                    apply List.ext_getElem?
                    intro i
                    by_cases hi : i = off + cell
                    · subst hi
                      rw [hxv, List.getElem?_set_self (by exact (List.getElem?_eq_some_iff.1 hxv).1)]
                    · rw [List.getElem?_set_ne (Ne.symm hi)]
                  rw [h3] at h2
                  simpa using h2
                · rcases List.mem_or_eq_of_mem_set hx' with hx' | hx'
                  · exact hleaf x hx'
                  · rw [hx']; rfl
              · have h2 : τ1.H[b']? = some o := by
                  show (σ.H ++ [AObj.tok T s 0])[b']? = some o
                  rw [← hset b' hb']; exact h'
                exact (p1.objs b' o h2).keep hm2 (fun _ _ => Iff.rfl) (St.vb_some h2) (fun _ _ _ => rfl)
            · intro b' h' j o ho'
              have hb' : b' ≠ b := by rintro rfl; have h2 : (σ.H.set b' (.cells lz ver (cs.set (off + cell) (.vec σ.H.length s []))) ++ [.tok T s 0])[b']? = none := h'; rw [hsetb] at h2; cases h2
              refine p1.out b' ?_ j o ho'
              show (σ.H ++ [AObj.tok T s 0])[b']? = none
              rw [← hset b' hb']; exact h'
          exact ⟨_, _, ⟨τ, rfl, rfl, okτ, (ext.trans p2).trans e2, (he.mon hm).mon hm2, hd, hz, (hG.mon hm).mon hm2, hn⟩, h⟩
        · exact ⟨_, _, ⟨σ, rfl, rfl, ok, ext, he, hd, hz, hG, hn⟩, h⟩
        · exact h.elim
      · exact h.elim
    · exact h.elim
  | trim n =>
    simp only [gh] at h
    split at h
    · rename_i hn0
      split at h
      · rename_i hl
        obtain ⟨hk, hc⟩ := trimK_out h
        have hle : σ0.H.length ≤ n := Nat.le_trans hn (Nat.le_of_ble_eq_true hn0)
        obtain ⟨q1, q2, q3⟩ := trim_ok ok ext hle hc
        exact ⟨_, _, ⟨{ σ with O := fun b j o => b < n ∧ σ.O b j o, H := σ.H.take n }, rfl, rfl, q1, q2, env_trim q3 rfl rfl rfl he hl, hd, hz, hG, hn⟩, hk⟩
      · exact h.elim
    · exact h.elim
  | frz slot =>
    simp only [gh] at h
    split at h
    · rename_i d H' hf
      obtain ⟨τ, t1, t2, t3, t4, t5, _⟩ := frz_ok 40 σ (lk e slot) _ d H' ok (he slot) hf
      refine ⟨_, _, ⟨τ, t1, t2, t3, ext.trans t4, fun i => ?_, hd, hz, hG.mon (t4.mon ok), hn⟩, h⟩
      rw [lk_cons]
      split
      · rename_i hi; subst hi; exact .p t5
      · exact (he i).mon (t4.mon ok)
    · exact h.elim
theorem ghs_sound : ∀ {gs : List Gh} {k : Env → AHeap → Prop} {e : Env} {H : AHeap} {a : Act} {w : World}, SR C nt n0 σ0 e H a w → ghs n0 gs k e H → ∃ e' H', SR C nt n0 σ0 e' H' a w ∧ k e' H'
  | [], k, e, H, a, w, hs, h => ⟨e, H, hs, h⟩
  | g :: r, k, e, H, a, w, hs, h => by
    simp only [ghs, hcas_eq] at h
    obtain ⟨e1, H1, hs1, h1⟩ := gh_sound hs h
    exact ghs_sound hs1 h1
end
end Go.Abs
/- Soundness of the operations of a region that keeps the text's order. -/
namespace Go.Abs
set_option linter.unusedVariables false
set_option linter.unusedSimpArgs false
section
variable {C : Ctx} {nt n0 : Nat} {σ0 : St}
theorem SM.ret_out' {α : Type} {a b : α} : (SM.ret a).out b ↔ b = a := by simp [SM.out, SM.run]; exact eq_comm
theorem evs_eq (C : Ctx) (e : Env) : ∀ (l : List Operand) (k : List V → Prop), evs C e k l = k (l.map (ev C e))
  | [], _ => rfl
  | x :: r, k => by rw [evs, V.cas_eq, evs_eq C e r]; rfl
theorem callOf_some {op : Op} {f : Operand} {args : List Operand} (h : callOf op = some (f, args)) : ∃ ts, op = .call { callee := .value f, args := ⟨args⟩, argTypes := ts } := by
  unfold callOf at h
  split at h
  · injection h with h; injection h with h1 h2; subst h1; subst h2; exact ⟨_, rfl⟩
  · cases h
theorem fnOf_rep {σ : St} {v : V} {x : Value} (hx : RepV σ v x) {g : Nat} {caps : List V → List V} (h : fnOf v = some (g, caps)) : ∃ fs cs, x = .func (.func g) ⟨fs⟩ ⟨cs⟩ ∧ ∀ {l : List V} {vs : List Value}, RepVs σ l vs → RepVs σ (caps l) (fs ++ vs ++ cs) := by
  unfold fnOf at h
  split at h
  · injection h with h; injection h with h1 h2; subst h1; subst h2
    cases hx with | p hx => cases hx with | fn h => exact ⟨[], _, rfl, fun hl => by simpa using hl.append h.toV⟩
  · injection h with h; injection h with h1 h2; subst h1; subst h2
    cases hx with | fn h => exact ⟨[], _, rfl, fun hl => by simpa using hl.append h⟩
  · injection h with h; injection h with h1 h2; subst h1; subst h2
    cases hx with | bfn h => exact ⟨_, [], rfl, fun hl => by simpa using h.append hl⟩
  · cases h
/-- A call of a function value is entered. -/
theorem call_run {P : Program} {w : World} {a : Act} {o : Oper} {f : Operand} {args : List Operand} {ts : Array TypeId} (ho : o.op = .call { callee := .value f, args := ⟨args⟩, argTypes := ts }) {g : Nat} {fs vs : List Value}
    (hf : a.eval f = .func (.func g) ⟨fs⟩ ⟨vs⟩) (hc : Callable P g) : (execOp a.eval o).run P w = .ok (.enter g ⟨fs ++ args.map a.eval ++ vs⟩) w := by
  obtain ⟨fn, h1, h2, h3⟩ := hc
  simp only [execOp, ho, resolve, List.map_toArray, pure_bind, hf, Deferred.ofValue, invoke, callFunc, Sem.run_bind, run_program, Result.andThen_ok, h1, h2, h3]
  simp
theorem run_count_string {P : Program} (s : ByteArray) (c : Int) (w : World) : (Extern.BytealgCount.count #[.string s, .int .u8 c]).run P w = .ok (.int .i64 (countB s c.toNat.toUInt8)) w := by
  change Sem.run P (do
    let b ← Extern.Bytes.bytesOf (.string s)
    let c' ← Extern.Bytes.asByte (.int .u8 c)
    pure (goInt (b.foldl (fun n x => if x == c' then n + 1 else n) (0 : Nat)))) w = _
  simp only [Extern.Bytes.bytesOf, Extern.Bytes.asByte, countB, Sem.run_bind, Sem.run_pure, Result.andThen]
  rfl
/-- A function without a body: what stands in for it. -/
theorem extop_sound {C : Ctx} (hC : CtxOk C) {σ : St} {g : Nat} {l : List V} {vs : List Value} {v : V} {w : World} (hr : RepVs σ l vs) (h : (extop (C.ext g) l).out v) :
    ∃ x, (callFunc g ⟨vs⟩).run C.P w = .ok (.value x) w ∧ RepV σ v x := by
  have hne : C.ext g ≠ .none := by intro e; rw [e] at h; unfold extop at h; split at h <;> first | exact h.elim | (rename_i q; cases q)
  obtain ⟨fn, h1, h2, h3, h4, h5⟩ := hC.ext g hne
  have key : ∀ x, (extFn (C.ext g) ⟨vs⟩).run C.P w = .ok x w → (callFunc g ⟨vs⟩).run C.P w = .ok (.value x) w := by
    intro x hx
    rw [run_callFunc_extern h1 h2 h3 h4 h5, hx]; rfl
  unfold extop at h
  split at h
  · rename_i s c he
    rw [SM.ret_out'] at h; subst h
    cases hr with | cons a t => cases t with | cons b t => cases t with | nil =>
    have := lit_str a; subst this
    have := lit_int b; subst this
    refine ⟨_, key _ ?_, rep_lit rfl⟩
    rw [he]
    show (Extern.BytealgIndexByte.indexByte #[.string s, .int .u8 c]).run C.P w = _
    exact run_indexByte_string _ _ _
  · rename_i s c he
    rw [SM.ret_out'] at h; subst h
    cases hr with | cons a t => cases t with | cons b t => cases t with | nil =>
    have := lit_str a; subst this
    have := lit_int b; subst this
    refine ⟨_, key (.int .i64 (countB s c.toNat.toUInt8)) ?_, rep_lit rfl⟩
    rw [he]
    show (Extern.BytealgCount.count #[.string s, .int .u8 c]).run C.P w = _
    exact run_count_string _ _ _
  · rename_i v' he
    rw [SM.ret_out'] at h; subst h
    cases hr with | cons a t => cases t with | nil =>
    refine ⟨_, key _ ?_, a⟩
    rw [he]; rfl
  · exact h.elim
theorem ext_run {P : Program} {w : World} {a : Act} {o : Oper} {f : Operand} {args : List Operand} {ts : Array TypeId} (ho : o.op = .call { callee := .value f, args := ⟨args⟩, argTypes := ts }) {g : Nat} {fs vs : List Value}
    (hf : a.eval f = .func (.func g) ⟨fs⟩ ⟨vs⟩) {x : Value} (hc : (callFunc g ⟨fs ++ args.map a.eval ++ vs⟩).run P w = .ok (.value x) w) : (execOp a.eval o).run P w = .ok (.value x) w := by
  simp only [execOp, ho, resolve, List.map_toArray, pure_bind, hf, Deferred.ofValue, invoke]
  simpa using hc
theorem wr_sound {σ : St} {e : Env} {a : Act} {dst : Option Nat} {v : V} {x : Value} {k : Env → AHeap → Prop} (ok : σ.ok) (ext : Ext σ0 σ) (he : EnvOk σ e a) (hd : a.defers = []) (hz : a.tmps.size = nt) (hG : GOk C σ) (hn : σ0.H.length ≤ n0)
    (hv : RepV σ v x) (h : wr nt dst v k e σ.H) : ∃ e', SR C nt n0 σ0 e' σ.H (a.put dst x) σ.w ∧ k e' σ.H := by
  unfold wr at h
  cases dst with
  | none => exact ⟨e, ⟨σ, rfl, rfl, ok, ext, he, hd, hz, hG, hn⟩, h⟩
  | some d =>
    simp only at h
    split at h
    · rename_i hb
      rw [V.cas_eq] at h
      have hlt : d < nt := by simpa using hb
      exact ⟨_, ⟨σ, rfl, rfl, ok, ext, he.put (by omega) hv, hd, by rw [EnvOk.put_size]; exact hz, hG, hn⟩, h⟩
    · exact h.elim
/-- Whether an operation is done. -/
def wantB (all : List Oper) (o : Oper) (e : Env) : Option Bool := match o.guard with
  | none => some true
  | some (j, b) => match all[j]? with
    | some g => match g.dst with
      | some d => match lk e d with
        | .p (.lit (.bool b')) => some (b' == b)
        | .p (.tup []) => some false
        | _ => none
      | none => none
    | none => none
theorem want_out {all : List Oper} {o : Oper} {e : Env} {yes no : Prop} (h : want all o e yes no) : (wantB all o e = some true ∧ yes) ∨ (wantB all o e = some false ∧ no) := by
  unfold want at h
  unfold wantB
  split at h
  · rename_i hg; rw [hg]; exact .inl ⟨rfl, h⟩
  · rename_i j b hg
    rw [hg]
    simp only
    split at h
    · rename_i g hj
      rw [hj]; simp only
      split at h
      · rename_i d hd
        rw [hd]; simp only
        split at h
        · rename_i b' hl
          rw [hl]; simp only
          cases b <;> cases b' <;> first | exact .inl ⟨rfl, h⟩ | exact .inr ⟨rfl, h⟩
        · rename_i hl
          rw [hl]; exact .inr ⟨rfl, h⟩
        · exact h.elim
      · exact h.elim
    · exact h.elim
theorem wantB_sound {σ : St} {ops : Array Oper} {o : Oper} {e : Env} {a : Act} {b : Bool} (he : EnvOk σ e a) (h : wantB ops.toList o e = some b) : Region.wanted o (yielded ops a.tmps) = b := by
  unfold wantB at h
  unfold Region.wanted
  split at h
  · rename_i hg; rw [hg]; injection h
  · rename_i j c hg
    rw [hg]
    simp only
    split at h
    · rename_i g hj
      split at h
      · rename_i d hd
        split at h
        · rename_i b' hl
          injection h with h
          have hx := he d
          rw [hl] at hx
          have hx' := lit_bool hx
          have hy : yielded ops a.tmps j = some b' := by
            unfold yielded
            have hj' : ops[j]? = some g := by simpa using hj
            rw [hj']
            simp only [Option.bind_some, hd]
            cases ht : a.tmps[d]? with
            | none => rw [Array.getD_eq_getD_getElem?, ht] at hx'; simp [undef] at hx'
            | some y => rw [Array.getD_eq_getD_getElem?, ht] at hx'; simp at hx'; subst hx'; rfl
          rw [hy, ← h]
          cases b' <;> cases c <;> rfl
        · rename_i hl
          injection h with h
          have hx := he d
          rw [hl] at hx
          have hx' : a.tmps.getD d undef = undef := by
            generalize a.tmps.getD d undef = z at hx ⊢
            cases hx with | p hx => cases hx with | tup hx => cases hx; rfl
          have hy : yielded ops a.tmps j = none := by
            unfold yielded
            have hj' : ops[j]? = some g := by simpa using hj
            rw [hj']
            simp only [Option.bind_some, hd]
            cases ht : a.tmps[d]? with
            | none => rfl
            | some y => rw [Array.getD_eq_getD_getElem?, ht] at hx'; simp [undef] at hx'; subst hx'; rfl
          rw [hy, ← h]
          cases c <;> rfl
        · cases h
      · cases h
    · cases h
theorem emptyV_rep {σ : St} {v : V} {x : Value} (h : RepV σ v x) (he : emptyV v = true) : ∃ a n c, x = .slice a n c := by
  unfold emptyV at he
  split at he
  · cases h with | p h => cases h with
      | sl => exact ⟨_, _, _, rfl⟩
      | sl0 => exact ⟨_, _, _, rfl⟩
  · cases h with
    | vec => exact ⟨_, _, _, rfl⟩
    | vec0 => exact ⟨_, _, _, rfl⟩
  · cases h with
    | own => exact ⟨_, _, _, rfl⟩
    | own0 => exact ⟨_, _, _, rfl⟩
  · cases h with
    | row => exact ⟨_, _, _, rfl⟩
    | row0 => exact ⟨_, _, _, rfl⟩
  · cases he
theorem asksNil_sound (hT : TyOk C) {σ : St} (hG : GOk C σ) {e : Env} {a : Act} (he : EnvOk σ e a) {o : Oper} (h : asksNil C e o.op = true) : ∃ b, (execOp a.eval o).run C.P σ.w = .ok (.value (.bool b)) σ.w := by
  have key : ∀ {t : Nat} {x : Operand} {op : BinOp} {ty : TypeId} {n : Nat}, (C.ty t).kind = .slice n → emptyV (ev C e x) = true → (op = .eql ∨ op = .neq) → o.op = .binOp op t x (.const (.slice none 0 0)) ty →
      ∃ b, (execOp a.eval o).run C.P σ.w = .ok (.value (.bool b)) σ.w := by
    intro t x op ty n hk hx ho heq
    obtain ⟨d, hu, hd⟩ := und_kind hT (t := t) (by rw [hk]; simp)
    rw [hk] at hd; have := desc_slice hd; subst this
    obtain ⟨ad, l, c, hx⟩ := emptyV_rep (ev_sound hG he x) hx
    have hev : a.eval (.const (.slice none 0 0)) = .slice none 0 0 := rfl
    have hbool : ∃ r, (Op.equal t (.slice ad l c) (.slice none 0 0)).run C.P σ.w = .ok r σ.w := by
      cases ad with
      | none => exact ⟨true, equal_run fun d => by simp [Op.equalIn, run_underlying hu]⟩
      | some ad => exact ⟨false, equal_run fun d => by simp [Op.equalIn, run_underlying hu]⟩
    obtain ⟨r, hr⟩ := hbool
    have hg : (eqGuard op t x (.const (.slice none 0 0)) (.slice ad l c) (.slice none 0 0)).run C.P σ.w = .ok () σ.w := by
      rcases ho with rfl | rfl <;> rfl
    unfold execOp
    rw [heq]
    simp only [hev, hx]
    rcases ho with rfl | rfl
    · exact ⟨r, by simp only [Sem.run_bind, hg, Result.andThen_ok, binOp, hr, Sem.run_pure]⟩
    · exact ⟨!r, by simp only [Sem.run_bind, hg, Result.andThen_ok, binOp, hr, Sem.run_pure]⟩
  unfold asksNil at h
  split at h
  · rename_i t x ty heq
    split at h
    · rename_i n hk; exact key hk h (.inl rfl) heq
    · cases h
  · rename_i t x ty heq
    split at h
    · rename_i n hk; exact key hk h (.inr rfl) heq
    · cases h
  · cases h
theorem asksNil_fop {e : Env} {H : AHeap} {op : Op} {r : V × AHeap} (h : asksNil C e op = true) : ¬ (fop C e H op).out r := by
  have key : ∀ {t : Nat} {x : Operand} {bop : BinOp} {n : Nat}, (C.ty t).kind = .slice n → emptyV (ev C e x) = true → ¬ (pair H (slcNil bop (C.ty t).kind (ev C e x))).out r := by
    intro t x bop n hk hx hout
    obtain ⟨v, H'⟩ := r
    obtain ⟨_, h2⟩ := out_pair hout
    rw [hk] at h2
    generalize ev C e x = v at hx h2
    unfold emptyV at hx
    split at hx
    · exact h2
    · exact h2
    · exact h2
    · exact h2
    · cases hx
  unfold asksNil at h
  split at h
  · split at h
    · rename_i hk; exact key hk h
    · cases h
  · split at h
    · rename_i hk; exact key hk h
    · cases h
  · cases h
theorem aop_sound (hC : CtxOk C) {o : Oper} {k : Env → AHeap → Prop} {e : Env} {H : AHeap} {a : Act} {w : World} {next : Act → World → Prop} {Q : Exit → Act → World → Prop}
    (hs : SR C nt n0 σ0 e H a w) (hk : ∀ e H a w, SR C nt n0 σ0 e H a w → k e H → next a w) (h : aop C nt o k e H) : o.wp C.P a w next Q := by
  obtain ⟨σ, rfl, rfl, ok, ext, he, hd, hz, hG, hn⟩ := hs
  unfold aop at h
  unfold Oper.wp
  split at h
  · rename_i f args hc
    obtain ⟨ts, ho⟩ := callOf_some hc
    split at h
    · rename_i g caps hf
      obtain ⟨fs, vs, hfv, hcaps⟩ := fnOf_rep (ev_sound hG he f) hf
      split at h
      · rename_i hfn
        rw [evs_eq, spine_eq] at h
        rw [call_run ho hfv (hC.fns g hfn), Oper.upon_enter]
        have hargs := hcaps (repVs_map hG he args)
        refine (acall_sound h σ _ rfl ok hG hargs).mono ?_
        rintro e' w' ⟨v, r, τ, rfl, rfl, hq, hv, ok1, ext1⟩
        rw [hcas_eq] at hq
        have hm := ext1.mon ok
        obtain ⟨e2, hs2, hk2⟩ := wr_sound ok1 (ext.trans ext1) (he.mon hm) hd hz (hG.mon hm) hn hv hq
        exact hk _ _ _ _ hs2 hk2
      · rw [evs_eq, SM.run_iff] at h
        obtain ⟨v, hout, h⟩ := h
        have hargs := hcaps (repVs_map hG he args)
        obtain ⟨x, hx, hv⟩ := extop_sound hC (w := σ.w) hargs hout
        rw [ext_run ho hfv hx, Oper.upon_value]
        obtain ⟨e2, hs2, hk2⟩ := wr_sound ok ext he hd hz hG hn hv h
        exact hk _ _ _ _ hs2 hk2
    · exact h.elim
  · split at h
    · rename_i hask
      obtain ⟨b, hb⟩ := asksNil_sound hC.ty hG he hask
      rw [hb, Oper.upon_value]
      obtain ⟨e2, hs2, hk2⟩ := wr_sound ok ext he hd hz hG hn (x := .bool b) (rep_lit rfl) (h b)
      exact hk _ _ _ _ hs2 hk2
    rename_i hask
    rw [SM.run_iff] at h
    obtain ⟨⟨v, H'⟩, hout, h⟩ := h
    simp only [hcas_eq] at h
    obtain ⟨n, τ, hrun, hH, ok1, ext1, hv⟩ := fop_sound hC.ty ok hG he hout
    subst hH
    rw [hrun]
    have hm := ext1.mon ok
    rcases hv with ⟨x, rfl, hv⟩ | ⟨rfl, rfl⟩
    · rw [Oper.upon_value]
      obtain ⟨e2, hs2, hk2⟩ := wr_sound ok1 (ext.trans ext1) (he.mon hm) hd hz (hG.mon hm) hn hv h
      exact hk _ _ _ _ hs2 hk2
    · rw [Oper.upon_skip]
      obtain ⟨e2, hs2, hk2⟩ := wr_sound ok1 (ext.trans ext1) (he.mon hm) hd hz (hG.mon hm) hn (x := undef) .top h
      exact hk _ _ _ _ hs2 hk2
theorem aops_sound (hC : CtxOk C) {ops : Array Oper} {k : Env → AHeap → Prop} {Q : Exit → Act → World → Prop} (hk : ∀ e H a w, SR C nt n0 σ0 e H a w → k e H → Q .normal a w) :
    ∀ (n i : Nat) (e : Env) (H : AHeap) (a : Act) (w : World), i + n = ops.size → SR C nt n0 σ0 e H a w → aops C nt ops.toList (ops.toList.drop i) k e H → wpOps C.P ops Q (List.range' i n) a w
  | 0, i, e, H, a, w, hi, hs, h => by
    rw [List.drop_of_length_le (by simp; omega)] at h
    exact hk _ _ _ _ hs h
  | n + 1, i, e, H, a, w, hi, hs, h => by
    have hlt : i < ops.toList.length := by simp; omega
    rw [List.drop_eq_getElem_cons hlt] at h
    rw [List.range'_succ]
    have ho : ops[i]? = some (ops.toList[i]) := by rw [← Array.getElem?_toList, List.getElem?_eq_getElem hlt]
    simp only [wpOps, ho]
    simp only [aops] at h
    obtain ⟨σ, hw, hH, ok, ext, he, hd, hz, hG, hn⟩ := hs
    rcases want_out h with ⟨h1, h2⟩ | ⟨h1, h2⟩
    · rw [wantB_sound he h1]
      simp only [if_true]
      exact .inl (aop_sound hC ⟨σ, hw, hH, ok, ext, he, hd, hz, hG, hn⟩ (fun e H a w hs hk' => aops_sound hC hk n (i + 1) e H a w (by omega) hs hk') h2)
    · rw [wantB_sound he h1]
      simp only [Bool.false_eq_true, if_false]
      subst hw; subst hH
      obtain ⟨e2, hs2, hk2⟩ := wr_sound ok ext he hd hz hG hn (x := undef) (.p (.tup .nil)) h2
      exact aops_sound hC hk n (i + 1) e2 _ _ _ (by omega) hs2 hk2
end
end Go.Abs
