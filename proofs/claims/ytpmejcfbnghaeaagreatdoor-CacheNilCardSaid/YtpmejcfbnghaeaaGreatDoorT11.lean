/- Soundness of single operations: all of them. -/
import Derived.Test.YtpmejcfbnghaeaaGreatDoorT10
namespace Go.Abs
set_option linter.unusedVariables false
set_option linter.unusedSimpArgs false
section
variable {C : Ctx} {σ : St} {e : Env} {a : Act}
theorem res_of_made {P : Program} {m : Sem Value} {n : Sem Next} {v : V} {H' : AHeap} (h : Made P σ m v H') (he : n = (do pure (.value (← m)))) : Res P σ n v H' := by
  subst he; exact h.res
theorem repVs_map (hG : GOk C σ) (he : EnvOk σ e a) : ∀ (l : List Operand), RepVs σ (l.map (ev C e)) (l.map a.eval)
  | [] => .nil
  | x :: r => .cons (ev_sound hG he x) (repVs_map hG he r)
theorem pair_res (ok : σ.ok) {P : Program} {m : Sem Value} {s : SM V} {v : V} {H' : AHeap} (h : (pair σ.H s).out (v, H')) (hs : s.out v → ∃ z, m.run P σ.w = .ok z σ.w ∧ RepV σ v z) : Res P σ (do pure (.value (← m))) v H' := by
  obtain ⟨rfl, h2⟩ := out_pair h
  obtain ⟨z, h3, h4⟩ := hs h2
  exact Res.val ok h3 h4
theorem ret_pair {v w : V} {H K : AHeap} (h : (SM.ret (v, H)).out (w, K)) : w = v ∧ K = H := by
  have := out_ret h
  injection this with h1 h2
  exact ⟨h1, h2⟩
theorem Res.congr {P : Program} {m m' : Sem Next} {v : V} {H' : AHeap} (h : Res P σ m' v H') (e : m = m') : Res P σ m v H' := by subst e; exact h
theorem fop_sound (hT : TyOk C) (ok : σ.ok) (hG : GOk C σ) (he : EnvOk σ e a) {o : Oper} {v : V} {H' : AHeap} (h : (fop C e σ.H o.op).out (v, H')) : Res C.P σ (execOp a.eval o) v H' := by
  unfold execOp
  generalize o.op = op at h ⊢
  cases op with
  | move x => obtain ⟨rfl, rfl⟩ := ret_pair h; exact Res.same ok rfl (ev_sound hG he x)
  | assign x => obtain ⟨rfl, rfl⟩ := ret_pair h; exact Res.same ok rfl (ev_sound hG he x)
  | pick c x y =>
    simp only [fop] at h
    have hc := ev_sound hG he c
    split at h
    · rename_i b hb
      rw [hb] at hc
      have hc' := lit_bool hc
      cases b with
      | true => obtain ⟨rfl, rfl⟩ := ret_pair h; exact Res.same ok (by simp [hc', asBool]) (ev_sound hG he x)
      | false => obtain ⟨rfl, rfl⟩ := ret_pair h; exact Res.same ok (by simp [hc', asBool]) (ev_sound hG he y)
    · exact (out_fail h).elim
  | alloc t =>
    simp only [fop] at h
    split at h
    · rename_i i hi
      obtain ⟨rfl, rfl⟩ := ret_pair h
      exact (alloc_sound hT ok hi).res
    · exact (out_fail h).elim
  | box t x =>
    simp only [fop] at h
    split at h
    · rename_i l hl
      obtain ⟨rfl, rfl⟩ := ret_pair h
      exact (box_sound ok (ev_sound hG he x) hl).res
    · exact (out_fail h).elim
  | build t parts =>
    simp only [fop] at h
    split at h
    · rename_i i hi
      split at h
      · rename_i pl hpl
        split at h
        · rename_i cs hcs
          split at h
          · rename_i w hw
            obtain ⟨rfl, rfl⟩ := ret_pair h
            have hb := build_sound hT ok hi hpl (evParts_rep hG he parts.toList) hcs hw
            exact res_of_made hb (congrArg (fun q => (do pure (Next.value (← Instr.build t q)) : Sem Next)) (Array.ext' (by simp)))
          · exact (out_fail h).elim
        · exact (out_fail h).elim
      · exact (out_fail h).elim
    · exact (out_fail h).elim
  | buildSlice t len parts =>
    simp only [fop] at h
    split at h
    · rename_i ti hti
      split at h
      · rename_i cs hcs
        split at h
        · rename_i ds hds
          split at h
          · rename_i xs hxs
            obtain ⟨hc, h2⟩ := out_chk h
            simp only [decide_eq_true_eq] at hc
            obtain ⟨rfl, rfl⟩ := ret_pair h2
            have hb := buildSlice_sound (t := t) hT ok hti (evParts_rep hG he parts.toList) hcs (toDsIf_some hds) hxs hc
            exact res_of_made hb (congrArg (fun q => (do pure (Next.value (← Instr.buildSlice t len q)) : Sem Next)) (Array.ext' (by simp)))
          · exact (out_fail h).elim
        · obtain ⟨hc, h2⟩ := out_chk h
          simp only [decide_eq_true_eq] at hc
          obtain ⟨rfl, rfl⟩ := ret_pair h2
          have hb := buildSliceRow_sound (t := t) hT ok hti (evParts_rep hG he parts.toList) hcs hc
          exact res_of_made hb (congrArg (fun q => (do pure (Next.value (← Instr.buildSlice t len q)) : Sem Next)) (Array.ext' (by simp)))
      · exact (out_fail h).elim
    · exact (out_fail h).elim
  | load t x =>
    simp only [fop] at h
    split at h
    · rename_i w hw
      obtain ⟨rfl, rfl⟩ := ret_pair h
      obtain ⟨y, h1, h2⟩ := loadAt_sound hT ok (ev_sound hG he x) hw
      exact Res.val ok h1 h2
    · exact (out_fail h).elim
  | store t x y =>
    simp only [fop] at h
    split at h
    · rename_i i hi
      split at h
      · rename_i l hl
        split at h
        · rename_i hb
          obtain ⟨H2, h1, h2⟩ := out_bind h
          obtain ⟨rfl, rfl⟩ := ret_pair h2
          obtain ⟨τ, s1, s2, s3, s4⟩ := store_sound hT ok hi (ev_sound hG he y) (ev_sound hG he x) hl hb h1
          exact ⟨.skip, τ, by simp only [Sem.run_bind, s1, Result.andThen_ok, Sem.run_pure], s2, s3, s4, .inr ⟨rfl, rfl⟩⟩
        · exact (out_fail h).elim
      · exact (out_fail h).elim
    · exact (out_fail h).elim
  | nilCheck x =>
    simp only [fop] at h
    have hx := ev_sound hG he x
    split at h
    · rename_i b ver off hb
      obtain ⟨rfl, rfl⟩ := ret_pair h
      rw [hb] at hx
      cases hx' : a.eval x <;> rw [hx'] at hx <;> cases hx
      rename_i hid
      exact Res.same ok (by simp [hx']) (.ptr hid)
    · rename_i cs hb
      obtain ⟨rfl, rfl⟩ := ret_pair h
      rw [hb] at hx
      generalize hx' : a.eval x = xv at hx
      cases hx with
      | p hd => cases hd with
        | rp hl hr hs => exact Res.same ok (by simp [hx']) (.p (.rp hl hr hs))
    · exact (out_fail h).elim
  | binOp op t x y yt =>
    simp only [fop] at h
    split at h
    · exact pair_res ok h fun h2 => bin_sound hT (ev_sound hG he x) (ev_sound hG he y) h2
    · rename_i hk
      unfold nilK at hk
      split at hk
      · exact pair_res ok h fun h2 => ifcNil_sound hT (ev_sound hG he x) h2
      · cases hk
      · cases hk
    · rename_i hk1 hk2
      have hy : y = .const (.slice none 0 0) := by
        unfold nilK at hk1 hk2
        split at hk1
        · exact absurd rfl hk2
        · rfl
        · exact absurd rfl hk1
      subst hy
      exact pair_res ok h fun h2 => slcNil_sound hT (ev_sound hG he x) h2
  | unOp op t x =>
    simp only [fop] at h
    have hx := ev_sound hG he x
    split at h
    · rename_i b hb
      rw [hb] at hx
      have hx' := lit_bool hx
      obtain ⟨rfl, rfl⟩ := ret_pair h
      exact Res.same ok (by simp [hx', Op.unary]) (rep_lit rfl)
    · rename_i k n hb
      rw [hb] at hx
      have hx' := lit_int hx
      obtain ⟨rfl, rfl⟩ := ret_pair h
      exact Res.same ok (by simp [hx', Op.unary, Op.intArith]) (rep_lit rfl)
    · rename_i k n hb
      rw [hb] at hx
      have hx' := lit_float hx
      obtain ⟨rfl, rfl⟩ := ret_pair h
      exact Res.same ok (by simp [hx', Op.unary]) (rep_lit rfl)
    · rename_i k n hb
      rw [hb] at hx
      have hx' := lit_int hx
      obtain ⟨rfl, rfl⟩ := ret_pair h
      exact Res.same ok (by simp [hx', Op.unary, Op.intBits]) (rep_lit rfl)
    · exact (out_fail h).elim
  | convert s d x => exact (convertOp_sound hT ok (ev_sound hG he x) h).res
  | makeFunc fn first captured =>
    cases fn with
    | func f =>
      simp only [fop] at h
      have hcap := repVs_map hG he captured.toList
      have hfirst := repVs_map hG he first.toList
      have hca : captured.map a.eval = ⟨captured.toList.map a.eval⟩ := Array.ext' (by simp)
      have hfa : first.map a.eval = ⟨first.toList.map a.eval⟩ := Array.ext' (by simp)
      split at h
      · rename_i x r hf
        split at h
        · rename_i hc
          obtain ⟨rfl, rfl⟩ := ret_pair h
          rw [hf] at hfirst hfa
          have hc' : captured = #[] := by
            have := congrArg List.toArray hc
            simpa using this
          exact Res.same ok (by simp [Instr.makeFunc, hfa, hc']) (.bfn hfirst)
        · exact (out_fail h).elim
      · rename_i hf
        have hf' : first = #[] := by
          have := congrArg List.toArray hf
          simpa using this
        split at h
        · rename_i ds hds
          obtain ⟨rfl, rfl⟩ := ret_pair h
          exact Res.same ok (by simp [Instr.makeFunc, hf', hca]) (.p (.fn (hcap.toDs hds)))
        · obtain ⟨rfl, rfl⟩ := ret_pair h
          exact Res.same ok (by simp [Instr.makeFunc, hf', hca]) (.fn hcap)
    | _ => exact (out_fail h).elim
  | makeSlice t l c =>
    simp only [fop] at h
    have hl := ev_sound hG he l
    have hc := ev_sound hG he c
    split at h
    · rename_i ti k n k' m hti h1 h2
      rw [h1] at hl; rw [h2] at hc
      have hl' := lit_int hl; have hc' := lit_int hc
      obtain ⟨hcond, h3⟩ := out_chk h
      simp only [decide_eq_true_eq] at hcond
      obtain ⟨rfl, rfl⟩ := ret_pair h3
      have := (makeSlice_sound (t := t) (k := k) (k' := k') hT ok hti hcond).res
      simpa only [hl', hc'] using this
    · exact (out_fail h).elim
  | slice t x lo hi mx =>
    simp only [fop] at h
    split at h
    · rename_i l hh m h1 h2 h3
      exact pair_res ok h fun h4 => sliceOp_sound hT ok (ev_sound hG he x) (evInt_sound hG he h1) (evInt_sound hG he h2) (evInt_sound hG he h3) h4
    · exact (out_fail h).elim
  | fieldAddr t x k =>
    simp only [fop] at h
    split at h
    · rename_i off fi hf
      split at h
      · exact (out_fail h).elim
      · rename_i hz
        have hx := ev_sound hG he x
        split at h
        · rename_i b ver o hb
          obtain ⟨rfl, rfl⟩ := ret_pair h
          obtain ⟨z, h1, h2⟩ := fieldAddr_sound (v := .ptr b ver (o + off)) hT hx hf hz (by rw [hb]; rfl)
          exact Res.val ok h1 h2
        · rename_i cs hb
          obtain ⟨rfl, rfl⟩ := ret_pair h
          obtain ⟨z, h1, h2⟩ := fieldAddr_sound (v := .p (.rp (cs.drop off))) hT hx hf hz (by rw [hb]; rfl)
          exact Res.val ok h1 h2
        · exact (out_fail h).elim
    · exact (out_fail h).elim
  | field t x k =>
    simp only [fop] at h
    split at h
    · rename_i off fi hf
      split at h
      · rename_i l hl
        split at h
        · rename_i hb
          split at h
          · rename_i w hw
            obtain ⟨rfl, rfl⟩ := ret_pair h
            obtain ⟨z, h1, h2⟩ := field_sound hT (ev_sound hG he x) hf hl hb hw
            exact Res.val ok h1 h2
          · exact (out_fail h).elim
        · exact (out_fail h).elim
      · exact (out_fail h).elim
    · exact (out_fail h).elim
  | indexAddr t x i =>
    simp only [fop] at h
    have hi := ev_sound hG he i
    split at h
    · rename_i k n hb
      rw [hb] at hi
      have hi' := lit_int hi
      refine pair_res ok h fun h2 => ?_
      rw [hi']
      exact indexAddr_sound hT (ev_sound hG he x) h2
    · exact (out_fail h).elim
  | index t x i =>
    simp only [fop] at h
    have hi := ev_sound hG he i
    split at h
    · rename_i k n hb
      rw [hb] at hi
      have hi' := lit_int hi
      refine pair_res ok h fun h2 => ?_
      rw [hi']
      exact index_sound hT (ev_sound hG he x) h2
    · exact (out_fail h).elim
  | extract x i =>
    simp only [fop] at h
    have hx := ev_sound hG he x
    split at h
    · rename_i l hb
      split at h
      · rename_i d hd
        obtain ⟨rfl, rfl⟩ := ret_pair h
        rw [hb] at hx
        generalize hx' : a.eval x = xv at hx
        cases hx with
        | p hx => cases hx with
          | tup hs =>
            obtain ⟨y, h1, h2⟩ := hs.at hd
            exact Res.same ok (by simp [hx', Instr.extract, h1]) (.p h2)
      · exact (out_fail h).elim
    · rename_i l hb
      split at h
      · rename_i d hd
        obtain ⟨rfl, rfl⟩ := ret_pair h
        rw [hb] at hx
        generalize hx' : a.eval x = xv at hx
        cases hx with
        | tup hs =>
          obtain ⟨y, h1, h2⟩ := hs.at hd
          exact Res.same ok (by simp [hx', Instr.extract, h1]) h2
      · exact (out_fail h).elim
    · exact (out_fail h).elim
  | makeInterface t x =>
    simp only [fop] at h
    have hx := ev_sound hG he x
    split at h
    · exact (out_fail h).elim
    · exact (out_fail h).elim
    · rename_i d hd hk1 hk2
      obtain ⟨rfl, rfl⟩ := ret_pair h
      obtain ⟨ds, hu, hds⟩ := und_kind hT (t := t) hk2
      refine Res.congr (Res.val (m := Instr.makeInterface t (a.eval x)) ok (x := .iface t (a.eval x)) ?_ (.p (.ifc (hx.toD hd)))) rfl
      unfold Instr.makeInterface
      rw [Sem.run_bind, run_underlying hu]
      simp only [Result.andThen_ok]
      cases ds <;> first | rfl | (exfalso; apply hk1; rw [← hds]; rfl)
    · exact (out_fail h).elim
  | makeMap t r =>
    cases r with
    | none =>
      simp only [fop] at h
      split at h
      · obtain ⟨rfl, rfl⟩ := ret_pair h
        exact (makeMap_sound ok).res
      · exact (out_fail h).elim
    | some _ => exact (out_fail h).elim
  | lookup t m k cok =>
    simp only [fop] at h
    exact pair_res ok h fun h2 => lookupOp_sound hT ok (ev_sound hG he m) (ev_sound hG he k) h2
  | mapUpdate t m k x =>
    simp only [fop] at h
    obtain ⟨H2, h1, h2⟩ := out_bind h
    obtain ⟨rfl, rfl⟩ := ret_pair h2
    obtain ⟨τ, s1, s2, s3, s4⟩ := mapPut_sound hT ok (ev_sound hG he m) (ev_sound hG he k) (ev_sound hG he x) h1
    exact ⟨.skip, τ, by simp only [Sem.run_bind, s1, Result.andThen_ok, Sem.run_pure], s2, s3, s4, .inr ⟨rfl, rfl⟩⟩
  | insert t m k x =>
    simp only [fop] at h
    obtain ⟨H2, h1, h2⟩ := out_bind h
    obtain ⟨rfl, rfl⟩ := ret_pair h2
    obtain ⟨τ, s1, s2, s3, s4⟩ := mapPut_sound hT ok (ev_sound hG he m) (ev_sound hG he k) (ev_sound hG he x) h1
    exact ⟨.skip, τ, by simp only [Sem.run_bind, s1, Result.andThen_ok, Sem.run_pure], s2, s3, s4, .inr ⟨rfl, rfl⟩⟩
  | sliceToArrayPointer t x =>
    simp only [fop] at h
    exact pair_res ok h fun h2 => arrayAt_sound hT (ev_sound hG he x) h2
  | call c =>
    unfold fop at h
    split at h
    all_goals first | exact (out_fail h).elim | skip
    all_goals (rename_i heq; first | (injection heq with heq; subst heq) | cases heq)
    · rename_i x t
      split at h
      · rename_i n hn
        obtain ⟨rfl, rfl⟩ := ret_pair h
        refine Res.congr (Res.val ok (lenV_sound (ty := o.type) hT (ev_sound hG he x) hn) (rep_lit rfl)) ?_
        simp only [resolve, List.map_toArray, List.map_cons, List.map_nil, pure_bind, invoke, builtin]
      · split at h
        · rename_i kt et ks vs hk hma
          obtain ⟨rfl, rfl⟩ := ret_pair h
          obtain ⟨d, hu, hd⟩ := und_kind hT (t := t) (by rw [hk]; simp)
          rw [hk] at hd; have := desc_map hd; subst this
          refine Res.congr (Res.val (m := Builtin.len_ #[t] o.type #[a.eval x]) ok (x := .int .i64 ks.length) ?_ (rep_lit rfl)) ?_
          · exact mapLen_sound ok (ev_sound hG he x) hu hma
          · simp only [resolve, List.map_toArray, List.map_cons, List.map_nil, pure_bind, invoke, builtin]
        · exact (out_fail h).elim
    · rename_i x t
      split at h
      · rename_i xs hk hx
        obtain ⟨rfl, rfl⟩ := ret_pair h
        obtain ⟨d, hu, hd⟩ := und_kind hT (t := t) (by rw [hk]; simp)
        rw [hk] at hd; have := desc_slice hd; subst this
        have hxr := ev_sound hG he x
        rw [hx] at hxr
        refine Res.congr (Res.val (m := Builtin.cap_ #[t] o.type #[a.eval x]) ok (x := .int .i64 xs.length) ?_ (rep_lit rfl)) ?_
        · generalize a.eval x = xv at hxr
          cases hxr with
          | p hxr => cases hxr with
            | sl hc hf => have := hf rfl; subst this; simp [Builtin.cap_, run_underlying hu, goInt]
            | sl0 hf => have := hf rfl; subst this; simp [Builtin.cap_, run_underlying hu, goInt]
        · simp only [resolve, List.map_toArray, List.map_cons, List.map_nil, pure_bind, invoke, builtin]
      · exact (out_fail h).elim
    · rename_i x ts
      split at h
      · rename_i b s y ys hx
        obtain ⟨rfl, rfl⟩ := ret_pair h
        have hxr := ev_sound hG he x
        rw [hx] at hxr
        generalize hxv : a.eval x = xv at hxr
        cases hxr with
        | @vec _ _ _ c vs hid hc hs hl hr hd hb =>
          refine Res.congr (Res.val (m := Builtin.unsafeSliceData_ ts o.type #[a.eval x]) ok (x := .pointer (some ⟨σ.ι b (y :: ys).length, 0, none⟩)) ?_ (.vptr hid hs hl hr hd)) ?_
          · rw [hxv]; exact Lib.run_unsafeSliceData_row σ.w ts o.type _ _ _ (by simp at hc; omega)
          · simp only [resolve, List.map_toArray, List.map_cons, List.map_nil, pure_bind, invoke, builtin]
      · exact (out_fail h).elim
    · rename_i x n t t2
      refine Res.congr (unsafeStr_sound (t2 := t2) (ty := o.type) hT ok (ev_sound hG he x) (ev_sound hG he n) h).res ?_
      simp only [resolve, List.map_toArray, List.map_cons, List.map_nil, pure_bind, invoke, builtin]
    · rename_i m k t u
      obtain ⟨H2, h1, h2⟩ := out_bind h
      obtain ⟨rfl, rfl⟩ := ret_pair h2
      obtain ⟨τ, s1, s2, s3, s4⟩ := mapDrop_sound (u := u) (ty := o.type) hT ok (ev_sound hG he m) (ev_sound hG he k) h1
      refine Res.congr (Made.res (m := Builtin.delete_ #[t, u] o.type #[a.eval m, a.eval k]) ⟨.tuple #[], τ, s1, s2, s3, s4, .p (.tup .nil)⟩) ?_
      simp only [resolve, List.map_toArray, List.map_cons, List.map_nil, pure_bind, invoke, builtin]
    · rename_i d x t u
      refine Res.congr (copyOp_sound (ty := o.type) hT ok (ev_sound hG he d) (ev_sound hG he x) h).res ?_
      simp only [resolve, List.map_toArray, List.map_cons, List.map_nil, pure_bind, invoke, builtin]
    · rename_i d t
      refine Res.congr (clearOp_sound (ty := o.type) hT ok (ev_sound hG he d) h).res ?_
      simp only [resolve, List.map_toArray, List.map_cons, List.map_nil, pure_bind, invoke, builtin]
    · rename_i x y ts
      split at h
      · rename_i k p k' q hx hy
        obtain ⟨hc, h2⟩ := out_chk h
        simp only [decide_eq_true_eq] at hc
        subst hc
        obtain ⟨rfl, rfl⟩ := ret_pair h2
        have hxr := ev_sound hG he x
        rw [hx] at hxr
        have hyr := ev_sound hG he y
        rw [hy] at hyr
        refine Res.congr (Res.val (m := Builtin.complex_ ts o.type #[a.eval x, a.eval y]) ok (x := .complex k p q) (by rw [lit_float hxr, lit_float hyr]; cases k <;> rfl) (rep_lit rfl)) ?_
        simp only [resolve, List.map_toArray, List.map_cons, List.map_nil, pure_bind, invoke, builtin]
      · exact (out_fail h).elim
    · rename_i x ts
      split at h
      · rename_i k p q hx
        obtain ⟨rfl, rfl⟩ := ret_pair h
        have hxr := ev_sound hG he x
        rw [hx] at hxr
        refine Res.congr (Res.val (m := Builtin.real_ ts o.type #[a.eval x]) ok (x := .float k p) (by rw [lit_complex hxr]; rfl) (rep_lit rfl)) ?_
        simp only [resolve, List.map_toArray, List.map_cons, List.map_nil, pure_bind, invoke, builtin]
      · exact (out_fail h).elim
    · rename_i x ts
      split at h
      · rename_i k p q hx
        obtain ⟨rfl, rfl⟩ := ret_pair h
        have hxr := ev_sound hG he x
        rw [hx] at hxr
        refine Res.congr (Res.val (m := Builtin.imag_ ts o.type #[a.eval x]) ok (x := .float k q) (by rw [lit_complex hxr]; rfl) (rep_lit rfl)) ?_
        simp only [resolve, List.map_toArray, List.map_cons, List.map_nil, pure_bind, invoke, builtin]
      · exact (out_fail h).elim
    · rename_i x r ts
      refine Res.congr (pair_res (m := Builtin.max_ ts o.type ⟨a.eval x :: r.map a.eval⟩) ok h fun h2 => folds_sound (fun p q t => max2_sound p q t) (repVs_map hG he r) (ev_sound hG he x) h2) ?_
      simp only [resolve, List.map_toArray, List.map_cons, pure_bind, invoke, builtin]
    · rename_i x r ts
      refine Res.congr (pair_res (m := Builtin.min_ ts o.type ⟨a.eval x :: r.map a.eval⟩) ok h fun h2 => folds_sound (fun p q t => min2_sound p q t) (repVs_map hG he r) (ev_sound hG he x) h2) ?_
      simp only [resolve, List.map_toArray, List.map_cons, pure_bind, invoke, builtin]
    · rename_i s x t u
      split at h
      · refine Res.congr (appendRow_sound (ty := o.type) hT ok (ev_sound hG he s) (ev_sound hG he x) h).res ?_
        simp only [resolve, List.map_toArray, List.map_cons, List.map_nil, pure_bind, invoke, builtin]
      · refine Res.congr (appendOp_sound (ty := o.type) hT ok (ev_sound hG he s) (ev_sound hG he x) h).res ?_
        simp only [resolve, List.map_toArray, List.map_cons, List.map_nil, pure_bind, invoke, builtin]
  | _ => exact (out_fail h).elim
end
end Go.Abs
/- Soundness of calls: of data; over a look at the call's own blocks. -/
namespace Go.Abs
set_option linter.unusedVariables false
set_option linter.unusedSimpArgs false
section
variable {C : Ctx} {σ : St}
/-- The call's own blocks laid aside: they are not touched; with them, or without them, among what never changes. -/
def St.aside (σ : St) (Fz : Cells) : St := { σ with Fz := Fz, O := fun _ _ _ => False, H := [] }
theorem aside_ok (ok : σ.ok) {Fz : Cells} (hF : ∀ j o, Fz j o → σ.Fz j o ∨ σ.owns j o) : (σ.aside Fz).ok := by
  refine ⟨fun b o h => by simp [St.aside] at h, fun b _ j o h => h, fun b b' j o _ h => h.elim, fun b j o h => h.elim, fun b j o h => h.elim, fun j o h => ?_⟩
  rcases hF j o h with h | ⟨b, h⟩
  · exact ok.ltf j o h
  · exact ok.lt b j o h
theorem aside_back {Fz Fz' : Cells} (ok : σ.ok) (hF : ∀ j o, σ.Fz j o → Fz j o) {τ0 : St} (e : Ext (σ.aside Fz) τ0) (ok0 : τ0.ok) (hF1 : ∀ j o, σ.Fz j o → Fz' j o) (hF2 : ∀ j o, Fz' j o → τ0.Fz j o)
    (hF3 : ∀ j o, Fz' j o → j < σ.w.heap.size → σ.Fz j o) : let τ : St := { w := τ0.w, Fz := Fz', ι := σ.ι, O := σ.O, H := σ.H }; τ.ok ∧ Ext σ τ := by
  intro τ
  have no : ∀ j o, ¬ (σ.aside Fz).owns j o := fun j o ⟨b, h⟩ => h
  have blk : ∀ j, j < σ.w.heap.size → τ.w.heap[j]? = σ.w.heap[j]? := fun j hj => e.block j hj (fun o => no j o)
  have ext : Ext σ τ := by
    refine ⟨e.size, e.os, e.tape, e.output, fun j o hj _ => e.cell j o hj (no j o), fun j hj _ => blk j hj, fun j c T fr h => ⟨c, fr, by rw [blk j (heap_lt h)]; exact h, rfl⟩, hF1, fun j o h hj => .inl (hF3 j o h hj), fun j o h _ => h, fun b m h => ⟨m, h, Nat.le_refl _, fun _ _ => rfl⟩⟩
  refine ⟨⟨?_, ok.out, ok.disj, ?_, ?_, ?_⟩, ext⟩
  · intro b o h
    exact (ok.objs b o h).keep (ext.mon ok) (fun _ _ => Iff.rfl) (St.vb_some h) (fun j p hp => blk j (ok.lt _ _ _ hp))
  · intro b j o h h2
    exact ok.fz b j o h (hF3 j o h2 (ok.lt b j o h))
  · intro b j o h; exact Nat.lt_of_lt_of_le (ok.lt b j o h) e.size
  · intro j o h; exact ok0.ltf j o (hF2 j o h)
theorem GOk.aside (hG : GOk C σ) {Fz : Cells} (hF : ∀ j o, σ.Fz j o → Fz j o) : GOk C (σ.aside Fz) :=
  fun g cs h => (hG g cs h).mon hF (fun _ _ _ => rfl) (fun _ _ => rfl)

def AC (C : Ctx) (f : Nat) (args : List V) (H : AHeap) (k : V → AHeap → Prop) : Prop := ACalls C f args H k
theorem acall_const {f : Nat} {args : List V} {H : AHeap} {k : V → AHeap → Prop} {ds : List D} (hd : toDs args = some ds)
    (h : ACalls C f (ds.map .p) [] fun r _ => ∃ d, r.toD = some d ∧ k (.p d) H) : ACalls C f args H k := by
  intro σ vals hH ok hG hr
  have h1 := h (σ.aside σ.Fz) vals rfl (aside_ok ok fun j o h => .inl h) (hG.aside fun _ _ h => h) (RepDs.toV (σ := σ.aside σ.Fz) (hr.toDs hd))
  refine h1.mono ?_
  rintro e w' ⟨v, r, τ0, rfl, rfl, ⟨d, hrd, hk⟩, hv, ok0, ext⟩
  obtain ⟨a1, a2⟩ := aside_back (Fz' := τ0.Fz) ok (fun _ _ h => h) ext ok0 ext.fz (fun _ _ h => h) (fun j o h hj => by
    rcases ext.fzn j o h hj with h | ⟨b, h⟩
    · exact h
    · exact h.elim)
  exact ⟨v, .p d, { w := τ0.w, Fz := τ0.Fz, ι := σ.ι, O := σ.O, H := σ.H }, rfl, rfl, by rw [hH]; exact hk, .p (hv.toD hrd), a1, a2⟩

theorem lits_any {w w' : World} {Fz Fz' : Cells} : ∀ {l : List D} {vs : List Value}, l.all isLit = true → RepDs w Fz l vs → RepDs w' Fz' l vs := by
  intro l
  induction l with
  | nil => intro vs _ h; cases h; exact .nil
  | cons d r ih =>
    intro vs h hr
    cases hr with
    | cons hd t =>
      simp only [List.all_cons, Bool.and_eq_true] at h
      cases d with
      | lit v => cases hd with | lit hs => exact .cons (.lit hs) (ih h.2 t)
      | _ => simp [isLit] at h
theorem noRef_any {w w' : World} {Fz Fz' : Cells} {d : D} {v : Value} (h : noRef d = true) (hr : RepD w Fz d v) : RepD w' Fz' d v := by
  cases hr with
  | lit hs => exact .lit hs
  | agg hl hs => exact .agg hl (lits_any h hs)
  | tup hs => exact .tup (lits_any h hs)
  | _ => simp [noRef] at h
theorem acall_snap {f : Nat} {args : List V} {H : AHeap} {k : V → AHeap → Prop} {ds : List D} {K : AHeap} (hd : frzA H args = some (ds, K))
    (h : ACalls C f (ds.map .p) [] fun r _ => ∃ d, r.toD = some d ∧ noRef d = true ∧ k (.p d) H) : ACalls C f args H k := by
  intro σ vals hH ok hG hr
  subst hH
  obtain ⟨τ, t1, t2, t3, t4, t5⟩ := frzA_sound ok hd hr
  have h1 := h (τ.aside τ.Fz) vals rfl (aside_ok t3 fun j o h => .inl h) ((GOk.mon (t4.mon ok) hG).aside fun _ _ h => h) (RepDs.toV (σ := τ.aside τ.Fz) t5)
  have ew : (τ.aside τ.Fz).w = σ.w := t1
  rw [ew] at h1
  refine h1.mono ?_
  rintro e w' ⟨v, r, τ0, rfl, rfl, ⟨d, hrd, hnr, hk⟩, hv, ok0, ext⟩
  have ext' : Ext (σ.aside τ.Fz) τ0 := by
    have e1 : (σ.aside τ.Fz).w = (τ.aside τ.Fz).w := t1.symm
    refine ⟨?_, ?_, ?_, ?_, ?_, ?_, ?_, ext.fz, ?_, ?_, ?_⟩
    · rw [e1]; exact ext.size
    · rw [e1]; exact ext.os
    · rw [e1]; exact ext.tape
    · rw [e1]; exact ext.output
    · rw [e1]; exact ext.cell
    · rw [e1]; exact ext.block
    · rw [e1]; exact ext.shape
    · rw [e1]; exact ext.fzn
    · rw [e1]; exact ext.ownn
    · intro b m hm; simp [St.vb, St.aside] at hm
  obtain ⟨a1, a2⟩ := aside_back (Fz' := σ.Fz) ok t4.fz ext' ok0 (fun _ _ h => h) (fun j o h => ext.fz j o (t4.fz j o h)) (fun j o h _ => h)
  exact ⟨v, .p d, { w := τ0.w, Fz := σ.Fz, ι := σ.ι, O := σ.O, H := σ.H }, rfl, rfl, hk, .p (noRef_any hnr (hv.toD hrd)), a1, a2⟩
/-- What a call hands back may be made data. -/
theorem ACalls.frozen {f : Nat} {args : List V} {H : AHeap} {Q : V → AHeap → Prop} (h : ACalls C f args H fun r K => ∃ d K', frz 40 K r = some (d, K') ∧ Q (.p d) K') : ACalls C f args H Q := by
  intro σ vals hH ok hG hr
  refine (h σ vals hH ok hG hr).mono ?_
  rintro e w' ⟨v, r, τ, rfl, rfl, ⟨d, K', hd, hq⟩, hv, ok0, ext⟩
  obtain ⟨τ1, t1, t2, t3, t4, t5, _⟩ := frz_ok 40 τ r v d K' ok0 hv hd
  exact ⟨v, .p d, τ1, rfl, t1, by rw [t2]; exact hq, .p t5, t3, ext.trans t4⟩
end
end Go.Abs
