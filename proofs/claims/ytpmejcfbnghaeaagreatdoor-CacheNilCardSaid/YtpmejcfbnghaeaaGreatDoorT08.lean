/- Soundness of pointers of no type, of texts out of rows of bytes, of comparisons with nil. -/
import Derived.Test.YtpmejcfbnghaeaaGreatDoorT07
import Derived.Lib.UnsafeStr
import Derived.Lib.Builder
namespace Go.Abs
set_option linter.unusedVariables false
set_option linter.unusedSimpArgs false
section
variable {C : Ctx} {σ : St}
theorem eqlV_out {op : BinOp} {b : Bool} {v : V} (h : (eqlV op b).out v) : (op = .eql ∧ v = .p (.lit (.bool b))) ∨ (op = .neq ∧ v = .p (.lit (.bool !b))) := by
  unfold eqlV at h
  split at h
  · exact .inl ⟨rfl, out_ret h⟩
  · exact .inr ⟨rfl, out_ret h⟩
  · exact (out_fail h).elim
theorem eqlV_run {P : Program} {op : BinOp} {t : TypeId} {x y : Operand} {a b : Value} {r : Bool} {v : V} (hv : (eqlV op r).out v) (hg : (eqGuard op t x y a b).run P σ.w = .ok () σ.w)
    (he : (Op.equal t a b).run P σ.w = .ok r σ.w) (h1 : binOp .eql t a b = (do pure (.bool (← Op.equal t a b)))) (h2 : binOp .neq t a b = (do pure (.bool (!(← Op.equal t a b))))) :
    ∃ z, ((do eqGuard op t x y a b; binOp op t a b : Sem Value)).run P σ.w = .ok z σ.w ∧ RepV σ v z := by
  rcases eqlV_out hv with ⟨rfl, rfl⟩ | ⟨rfl, rfl⟩
  · exact ⟨.bool r, by rw [Sem.run_bind, hg]; simp only [Result.andThen_ok, h1, Sem.run_bind, he, Sem.run_pure], rep_lit rfl⟩
  · exact ⟨.bool (!r), by rw [Sem.run_bind, hg]; simp only [Result.andThen_ok, h2, Sem.run_bind, he, Sem.run_pure], rep_lit rfl⟩
theorem ifcNil_sound (hT : TyOk C) {t : Nat} {op : BinOp} {x : Operand} {va v : V} {a : Value} (ha : RepV σ va a) (h : (ifcNil op (C.ty t).kind va).out v) :
    ∃ z, ((do eqGuard op t x (.const .nilIface) a .nilIface; binOp op t a .nilIface : Sem Value)).run C.P σ.w = .ok z σ.w ∧ RepV σ v z := by
  unfold ifcNil at h
  split at h
  · rename_i hk
    obtain ⟨d, hu, hd⟩ := und_kind hT (t := t) (by rw [hk]; simp)
    rw [hk] at hd
    have : ∃ ms, d = .interface ms := by cases d <;> first | exact ⟨_, rfl⟩ | (simp [descKind] at hd; done) | (simp only [descKind] at hd; split at hd <;> cases hd)
    obtain ⟨ms, rfl⟩ := this
    have ha' : a = .nilIface := by cases ha with | p ha => cases ha with | lit _ => rfl
    subst ha'
    refine eqlV_run h ?_ (equal_run fun d => by simp [Op.equalIn, run_underlying hu]) rfl rfl
    cases op <;> cases x <;> rfl
  · rename_i hk
    obtain ⟨d, hu, hd⟩ := und_kind hT (t := t) (by rw [hk]; simp)
    rw [hk] at hd
    have : ∃ ms, d = .interface ms := by cases d <;> first | exact ⟨_, rfl⟩ | (simp [descKind] at hd; done) | (simp only [descKind] at hd; split at hd <;> cases hd)
    obtain ⟨ms, rfl⟩ := this
    cases ha with
    | p ha => cases ha with
      | ifc hv =>
        refine eqlV_run h ?_ (equal_run fun d => by simp [Op.equalIn, run_underlying hu]) rfl rfl
        cases op <;> rfl
  · exact (out_fail h).elim
theorem slcNil_sound (hT : TyOk C) {t : Nat} {op : BinOp} {x : Operand} {va v : V} {a : Value} (ha : RepV σ va a) (h : (slcNil op (C.ty t).kind va).out v) :
    ∃ z, ((do eqGuard op t x (.const (.slice none 0 0)) a (.slice none 0 0); binOp op t a (.slice none 0 0) : Sem Value)).run C.P σ.w = .ok z σ.w ∧ RepV σ v z := by
  have key : ∀ {e ad l c}, (C.ty t).kind = .slice e → a = .slice (some ad) l c → (eqlV op false).out v → ∃ z, ((do eqGuard op t x (.const (.slice none 0 0)) a (.slice none 0 0); binOp op t a (.slice none 0 0) : Sem Value)).run C.P σ.w = .ok z σ.w ∧ RepV σ v z := by
    intro e ad l c hk ha h
    obtain ⟨d, hu, hd⟩ := und_kind hT (t := t) (by rw [hk]; simp)
    rw [hk] at hd; have := desc_slice hd; subst this
    subst ha
    refine eqlV_run h ?_ (equal_run fun d => by simp [Op.equalIn, run_underlying hu]) rfl rfl
    cases op <;> rfl
  unfold slcNil at h
  split at h
  · rename_i hk
    cases ha with | p ha => cases ha with
      | sl => exact key hk rfl h
  · rename_i hk
    cases ha with
    | vec => exact key hk rfl h
  · rename_i hk
    cases ha with
    | own => exact key hk rfl h
  · rename_i hk
    cases ha with
    | row => exact key hk rfl h
  · exact (out_fail h).elim
/-- Bytes of a row are frozen that never change anyway. -/
theorem St.ok.freeze (ok : σ.ok) {b T s m n : Nat} (hb : σ.H[b]? = some (.tok T s m)) {c : Array Value} {fr : Nat × Nat} {T' : TypeId} (hh : σ.w.heap[σ.ι b m]? = some (.cells c T' fr)) {k : Nat} (hc : c.size = k * s) (hm : 0 < m ∧ m ≤ k) (hT : T' = T)
    (hfr : fr.1 = fr.2 ∨ fr.2 ≤ m * s) (hO : ∀ j o, σ.O b j o ↔ (j = σ.ι b m ∧ m * s ≤ o)) (hn : n ≤ m * s) :
    let τ : St := { σ with w := σ.w.freeze ⟨σ.ι b m, 0, none⟩ n }; τ.ok ∧ Ext σ τ := by
  intro τ
  subst hT
  by_cases h0 : n = 0
  · subst h0
    have : τ = σ := by show { σ with w := σ.w.freeze _ 0 } = σ; simp [World.freeze]
    rw [this]; exact ⟨ok, .refl σ⟩
  have hw : σ.w.freeze ⟨σ.ι b m, 0, none⟩ n = { σ.w with heap := σ.w.heap.modify (σ.ι b m) fun
      | .cells c elem (lo, hi) => .cells c elem (if lo == hi then (0, 0 + n) else (min lo 0, max hi (0 + n)))
      | o => o } := by unfold World.freeze; rw [if_neg h0]; rfl
  have hne : ∀ j, j ≠ σ.ι b m → τ.w.heap[j]? = σ.w.heap[j]? := by
    intro j hj
    show (σ.w.freeze _ n).heap[j]? = _
    rw [hw]
    simp only [Array.getElem?_modify]
    rw [if_neg (Ne.symm hj)]
  obtain ⟨lo, hi⟩ := fr
  have heq : τ.w.heap[σ.ι b m]? = some (.cells c T' (if lo == hi then (0, 0 + n) else (min lo 0, max hi (0 + n)))) := by
    show (σ.w.freeze _ n).heap[σ.ι b m]? = _
    rw [hw]
    simp only [Array.getElem?_modify, if_true, hh, Option.map_some]
  have hcell : ∀ j o, τ.w.cell? ⟨j, o, none⟩ = σ.w.cell? ⟨j, o, none⟩ := by
    intro j o
    by_cases hj : j = σ.ι b m
    · subst hj; rw [cell_of heq, cell_of hh]
    · simp only [World.cell?]; rw [hne j hj]
  have e : Ext σ τ := by
    refine ⟨?_, ?_, ?_, ?_, fun j o _ _ => hcell j o, ?_, ?_, fun _ _ h => h, fun _ _ h _ => .inl h, fun _ _ h _ => h, fun _ q h => ⟨q, h, Nat.le_refl _, fun _ _ => rfl⟩⟩
    · show σ.w.heap.size ≤ (σ.w.freeze _ n).heap.size; rw [hw]; simp
    · show (σ.w.freeze _ n).os = _; rw [hw]
    · show (σ.w.freeze _ n).tape = _; rw [hw]
    · show (σ.w.freeze _ n).output = _; rw [hw]
    · intro j hj hn'
      exact hne j (by rintro rfl; exact hn' (m * s) ⟨b, (hO _ _).2 ⟨rfl, Nat.le_refl _⟩⟩)
    · intro j c' T2 fr' h
      by_cases hj : j = σ.ι b m
      · subst hj
        rw [hh] at h; injection h with h; injection h with h1 h2 h3; subst h1; subst h2
        exact ⟨_, _, heq, rfl⟩
      · exact ⟨c', fr', by rw [hne j hj]; exact h, rfl⟩
  have hsz : τ.w.heap.size = σ.w.heap.size := by show (σ.w.freeze _ n).heap.size = _; rw [hw]; simp
  refine ⟨⟨?_, ok.out, ok.disj, ok.fz, fun b' j o h => by rw [hsz]; exact ok.lt b' j o h, fun j o h => by rw [hsz]; exact ok.ltf j o h⟩, e⟩
  intro b' o h
  by_cases hbb : b' = b
  · subst hbb
    have h' : σ.H[b']? = some o := h
    rw [hb] at h'; injection h' with h'; subst h'
    refine .inr ⟨c, _, k, heq, hc, hm, ?_, hO⟩
    simp only at hfr ⊢
    split
    · right; simp; omega
    · rename_i hne
      have : lo ≠ hi := by intro e; apply hne; simp [e]
      right; simp; omega
  · refine (ok.objs b' o h).keep (e.mon ok) (fun _ _ => Iff.rfl) (St.vb_some h) (fun j p hp => hne j ?_)
    rintro rfl
    exact hbb (ok.one hp ((hO _ (m * s)).2 ⟨rfl, Nat.le_refl _⟩))
/-- Bytes of a block of the call's own are frozen; the block is no more. -/
theorem St.ok.freezeCells (ok : σ.ok) {b ver : Nat} {lz : Lz} {cs : List V} (ho : objCells σ.H[b]? ver = some (lz, cs)) (n : Nat) :
    let τ : St := { σ with w := σ.w.freeze ⟨σ.ι b ver, 0, none⟩ n, O := fun b' j o => b' ≠ b ∧ σ.O b' j o, H := σ.H.set b (.dead ver) }; τ.ok ∧ Ext σ τ := by
  intro τ
  obtain ⟨hH, c, T', fr, hh, _, _, _, _, hO⟩ := ok.cellsAt ho
  have hblt : b < σ.H.length := (List.getElem?_eq_some_iff.1 hH).1
  have hset : ∀ b', b' ≠ b → (σ.H.set b (.dead ver))[b']? = σ.H[b']? := fun b' h => List.getElem?_set_ne (Ne.symm h)
  have hsetb : (σ.H.set b (.dead ver))[b]? = some (.dead ver) := by simp [hblt]
  have hvb : ∀ b', τ.vb b' = σ.vb b' := by
    intro b'
    by_cases h : b' = b
    · subst h; show ((σ.H.set b' _)[b']?).map _ = (σ.H[b']?).map _; rw [hsetb, hH]; rfl
    · show ((σ.H.set b _)[b']?).map _ = (σ.H[b']?).map _; rw [hset b' h]
  have hne : ∀ j, j ≠ σ.ι b ver → τ.w.heap[j]? = σ.w.heap[j]? := by
    intro j hj
    show (σ.w.freeze _ n).heap[j]? = _
    unfold World.freeze
    split
    · rfl
    · simp only [Array.getElem?_modify]
      rw [if_neg (Ne.symm hj)]
  have heq : ∃ fr', τ.w.heap[σ.ι b ver]? = some (.cells c T' fr') := by
    show ∃ fr', (σ.w.freeze _ n).heap[σ.ι b ver]? = _
    unfold World.freeze
    split
    · exact ⟨fr, hh⟩
    · obtain ⟨lo, hi⟩ := fr
      simp only [Array.getElem?_modify, if_true, hh, Option.map_some]
      exact ⟨_, rfl⟩
  obtain ⟨fr', heq⟩ := heq
  have hcell : ∀ j o, τ.w.cell? ⟨j, o, none⟩ = σ.w.cell? ⟨j, o, none⟩ := by
    intro j o
    by_cases hj : j = σ.ι b ver
    · subst hj; rw [cell_of heq, cell_of hh]
    · simp only [World.cell?]; rw [hne j hj]
  have hsz : τ.w.heap.size = σ.w.heap.size := by
    show (σ.w.freeze _ n).heap.size = _
    unfold World.freeze
    split <;> simp
  have e : Ext σ τ := by
    refine ⟨by omega, ?_, ?_, ?_, fun j o _ _ => hcell j o, ?_, ?_, fun _ _ h => h, fun _ _ h _ => .inl h, fun j o ⟨b', h⟩ _ => ⟨b', h.2⟩, fun b' q h => ⟨q, by rw [hvb]; exact h, Nat.le_refl _, fun _ _ => rfl⟩⟩
    · show (σ.w.freeze _ n).os = _; unfold World.freeze; split <;> rfl
    · show (σ.w.freeze _ n).tape = _; unfold World.freeze; split <;> rfl
    · show (σ.w.freeze _ n).output = _; unfold World.freeze; split <;> rfl
    · intro j hj hn'
      exact hne j (by rintro rfl; exact hn' 0 ⟨b, (hO _ _).2 rfl⟩)
    · intro j c' T2 fr2 h
      by_cases hj : j = σ.ι b ver
      · subst hj
        rw [hh] at h; injection h with h; injection h with h1 h2 h3; subst h1; subst h2
        exact ⟨_, _, heq, rfl⟩
      · exact ⟨c', fr2, by rw [hne j hj]; exact h, rfl⟩
  refine ⟨⟨?_, ?_, fun b1 b2 j o h h1 h2 => ok.disj b1 b2 j o h h1.2 h2.2, fun b1 j o h => ok.fz b1 j o h.2, fun b' j o h => by rw [hsz]; exact ok.lt b' j o h.2, fun j o h => by rw [hsz]; exact ok.ltf j o h⟩, e⟩
  · intro b' o h
    by_cases hbb : b' = b
    · subst hbb
      have h' : (σ.H.set b' (.dead ver))[b']? = some o := h
      rw [hsetb] at h'; injection h' with h'; subst h'
      exact fun j p hp => hp.1 rfl
    · have h' : σ.H[b']? = some o := by rw [← hset b' hbb]; exact h
      refine (ok.objs b' o h').keep (e.mon ok) (fun j p => ⟨fun h => h.2, fun h => ⟨hbb, h⟩⟩) (St.vb_some h') (fun j p hp => hne j ?_)
      rintro rfl
      exact hbb (ok.one hp ((hO _ 0).2 rfl))
  · intro b' h j o ho'
    exact ok.out b' (by rw [← hset b' ho'.1]; exact h) j o ho'.2
theorem run_loadBytes' {P : Program} {w : World} : ∀ (ns : List Int) (g o : Nat) (acc : ByteArray), (∀ j n, ns[j]? = some n → w.cell? ⟨g, o + j, none⟩ = some (.int .u8 n)) →
    (loadBytes ⟨g, o, none⟩ acc ns.length).run P w = .ok ⟨acc.data ++ (ns.map fun n => UInt8.ofNat n.toNat).toArray⟩ w
  | [], g, o, acc, _ => by simp [loadBytes]
  | n :: ns, g, o, acc, h => by
    have h0 : w.cell? ⟨g, o, none⟩ = some (.int .u8 n) := by simpa using h 0 n rfl
    have ih := run_loadBytes' (P := P) ns g (o + 1) (acc.push n.toNat.toUInt8) (fun j y hy => by
      have := h (j + 1) y (by simpa using hy)
      rw [show o + 1 + j = o + (j + 1) by omega]; exact this)
    simp only [List.length_cons, loadBytes, Sem.run_bind, run_load, h0, Result.andThen, add_at]
    rw [ih]
    congr 1
    apply ByteArray.ext
    simp [ByteArray.push]
theorem run_unsafeString' {P : Program} {w : World} (pt it ty e : TypeId) (hp : P.underlying pt = some (.pointer e)) (hc : P.cellsOf e = 1) (g cells : Nat) (hsh : w.shape? g = some (e, cells)) (l : List Int) (h0 : l ≠ []) (hn : l.length ≤ cells) (h63 : l.length ≤ 9223372036854775807)
    (hcell : ∀ j x, l[j]? = some x → w.cell? ⟨g, 0 + j, none⟩ = some (.int .u8 x)) :
    (Builtin.unsafeString_ #[pt, it] ty #[.pointer (some ⟨g, 0, none⟩), .int .i64 l.length]).run P w = .ok (.string ⟨(l.map fun n => UInt8.ofNat n.toNat).toArray⟩) (w.freeze ⟨g, 0, none⟩ l.length) := by
  have hl : l.length ≠ 0 := by simpa using h0
  have hlb := run_loadBytes' (P := P) (w := w) l g 0 .empty hcell
  have hlies := Lib.liesAt_bytes (P := P) hc (cells / P.cellsOf e) l.length (by rw [hc]; simpa using hn)
  have h63' : ¬ (9223372036854775807 : Int) < (l.length : Int) := by omega
  have hdef : Builtin.unsafeString_ #[pt, it] ty #[.pointer (some ⟨g, 0, none⟩), .int .i64 l.length] =
      (do
        let n ← asInt (.int .i64 l.length)
        if n < 0 then runtimePanic (.error "unsafe.String: len out of range")
        if n > IntKind.i64.max then unsupported (.unsafePointer "String: a length above the largest int")
        if n = 0 then pure (.string .empty)
        else if ← variablesAt ⟨g, 0, none⟩ (← elemOf pt) n.toNat then do
          let s ← loadBytes ⟨g, 0, none⟩ .empty n.toNat
          freeze ⟨g, 0, none⟩ n.toNat
          pure (.string s)
        else unsupported (.unsafePointer "String: not so many bytes at ptr")) := rfl
  rw [hdef]
  have hmax : IntKind.i64.max = 9223372036854775807 := rfl
  have hneg : ¬ (l.length : Int) < 0 := by omega
  simp [asInt, asIntOf, hmax, h63', hneg, hl, variablesAt, hsh, elemOf, run_underlying hp, hlies, hlb]
theorem unsafeStr_sound (hT : TyOk C) (ok : σ.ok) {t t2 ty : Nat} {x n v : V} {xv nv : Value} {H' : AHeap} (hx : RepV σ x xv) (hn : RepV σ n nv) (h : (unsafeStr C σ.H t x n).out (v, H')) :
    Made C.P σ (Builtin.unsafeString_ #[t, t2] ty #[xv, nv]) v H' := by
  unfold unsafeStr at h
  split at h
  · rename_i b s xs n
    obtain rfl := lit_int hn
    split at h
    · rename_i u T s' m hk hH
      split at h
      · rename_i i hi
        split at h
        · rename_i hik hTu
          obtain ⟨hc, hq⟩ := out_chk h
          clear h
          simp only [decide_eq_true_eq] at hc
          obtain ⟨rfl, rfl, rfl, rfl, h63⟩ := hc
          obtain ⟨bs, hbs, hq2⟩ := out_optL hq
          have := out_ret hq2; injection this with h1 h2; subst h1; subst h2
          have hTu := Nat.eq_of_beq_eq_true hTu
          subst hTu
          obtain ⟨d, hu, hd⟩ := und_kind hT (t := t) (by rw [hk]; simp)
          rw [hk] at hd; have := desc_ptr hd; subst this
          have ht := hT _ i hi
          have hcs : C.P.cellsOf T = 1 := by rw [cellsOf_size ht]; exact ht.one (by unfold TI.agg; rw [hik])
          cases hx with
          | vptr hid hs hl hr hds =>
            have hflat : xs.flatMap D.cells = xs := by
              have : ∀ (l : List D) (bs : List UInt8), bytesOf (l.map V.p) = some bs → l.flatMap D.cells = l := by
                intro l
                induction l with
                | nil => intro _ _; rfl
                | cons y r ih =>
                  intro bs hb
                  simp only [List.map_cons, bytesOf] at hb
                  split at hb
                  · rename_i b0 hy
                    split at hb
                    · rename_i br hr'
                      rw [List.flatMap_cons, ih br hr']
                      unfold byteOf at hy
                      split at hy
                      · rename_i hq; injection hq with hq; subst hq; rfl
                      · cases hy
                    · cases hb
                  · cases hb
              exact this xs bs hbs
            rw [hflat] at hds
            obtain ⟨ns, hns, rfl⟩ := bytesOf_rep (hds.toV (σ := σ)) hbs
            cases xs with
            | nil =>
              cases hds
              have : ns = [] := by cases ns with | nil => rfl | cons _ _ => simp at hns
              subst this
              refine Made.same ok ?_ (rep_lit rfl)
              exact Lib.run_unsafeString_none σ.w t t2 ty _
            | cons y ys =>
              rcases tok_at ok hH with ⟨h0, _⟩ | ⟨c, fr, k, q1, q2, q3, q4, q5⟩
              · simp at h0
              · obtain ⟨ok1, e1⟩ := ok.freeze (n := (y :: ys).length) hH q1 q2 q3 rfl q4 q5 (by omega)
                have hlen : ns.length = (y :: ys).length := by have := hds.length; rw [hns] at this; simpa using this
                refine ⟨_, { σ with w := σ.w.freeze ⟨σ.ι b (y :: ys).length, 0, none⟩ (y :: ys).length }, ?_, rfl, ok1, e1, rep_lit rfl⟩
                have hcell : ∀ j z, ns[j]? = some z → σ.w.cell? ⟨σ.ι b (y :: ys).length, 0 + j, none⟩ = some (.int .u8 z) := by
                  intro j z hj
                  refine (hr j _ ?_).2
                  rw [hns]; simp [hj]
                have := run_unsafeString' (P := C.P) (w := σ.w) t t2 ty T hu hcs (σ.ι b (y :: ys).length) c.size (by unfold World.shape?; rw [q1]) ns (by intro e; have := congrArg List.length e; simp [hlen] at this)
                  (by rw [hlen]; omega) (by rw [hlen]; exact h63) hcell
                rw [hlen] at this
                exact this
        · exact (out_fail h).elim
      · exact (out_fail h).elim
    · exact (out_fail h).elim
  · rename_i b ver off n
    obtain rfl := lit_int hn
    split at h
    · rename_i u T cs hk ho
      split at h
      · rename_i i hi
        split at h
        · rename_i hik hTu
          obtain ⟨hc, hq⟩ := out_chk h
          clear h
          simp only [decide_eq_true_eq] at hc
          obtain ⟨h0, h63, hle, rfl⟩ := hc
          obtain ⟨bs, hbs, hq2⟩ := out_optL hq
          have := out_ret hq2; injection this with h1 h2; subst h1; subst h2
          have hTu := Nat.eq_of_beq_eq_true hTu
          subst hTu
          obtain ⟨d, hu, hd⟩ := und_kind hT (t := t) (by rw [hk]; simp)
          rw [hk] at hd; have := desc_ptr hd; subst this
          have ht := hT _ i hi
          have hcs : C.P.cellsOf T = 1 := by rw [cellsOf_size ht]; exact ht.one (by unfold TI.agg; rw [hik])
          obtain ⟨hH, _⟩ := ok.cellsAt ho
          obtain ⟨c, T2, fr, hh, hszL, hr, _⟩ := ok.objs b _ hH
          obtain ⟨rfl, _⟩ := hszL.2.2 _ rfl
          cases hx with
          | ptr hid =>
            obtain ⟨ns, hns, rfl⟩ := bytesOf_rep (hr.take n.toNat) hbs
            have hlen : ns.length = n.toNat := by
              have := congrArg List.length hns
              have := hszL.1
              simp at *; omega
            obtain ⟨ok1, e1⟩ := ok.freezeCells ho n.toNat
            refine ⟨_, _, ?_, rfl, ok1, e1, rep_lit rfl⟩
            have hcell : ∀ j z, ns[j]? = some z → σ.w.cell? ⟨σ.ι b ver, 0 + j, none⟩ = some (.int .u8 z) := by
              intro j z hj
              rw [cell_of hh]
              have : (ns.map (Value.int .u8))[j]? = some (.int .u8 z) := by simp [hj]
              rw [← hns, List.getElem?_take] at this
              split at this
              · rw [List.getElem?_take] at this
                split at this
                · simpa using this
                · cases this
              · cases this
            have := run_unsafeString' (P := C.P) (w := σ.w) t t2 ty T hu hcs (σ.ι b ver) c.size (by unfold World.shape?; rw [hh]) ns (by intro e; have := congrArg List.length e; simp [hlen] at this; omega)
              (by have := hszL.1; omega) (by omega) hcell
            rw [hlen] at this
            rw [show ((n.toNat : Nat) : Int) = n by omega] at this
            exact this
        · exact (out_fail h).elim
      · exact (out_fail h).elim
    · exact (out_fail h).elim
  · exact (out_fail h).elim
end
end Go.Abs
