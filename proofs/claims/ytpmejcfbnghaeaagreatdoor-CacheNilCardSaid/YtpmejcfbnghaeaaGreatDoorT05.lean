/- Soundness of single operations: indexes, fields, lengths, what is made. -/
import Derived.Test.YtpmejcfbnghaeaaGreatDoorT04
import Derived.Laws.BytesString
import Derived.Lib.ConvBytes
import Derived.Laws.OwnMore
namespace Go.Abs
set_option linter.unusedVariables false
set_option linter.unusedSimpArgs false
section
variable {C : Ctx} {σ : St} {e : Env} {a : Act}

/-- Element i of a slice of data lies there. -/
theorem at_sl {w : World} {Fz : Cells} {xs : List D} {b off s i : Nat} {vs : List Value} {d : D} (hs : ∀ x ∈ xs, x.cells.length = s) (hl : ∀ d ∈ xs.flatMap D.cells, d.leaf = true)
    (hr : CellsAt w Fz b off vs) (hd : RepDs w Fz (xs.flatMap D.cells) vs) (hi : xs[i]? = some d) : RepD w Fz (.rp d.cells) (.pointer (some ((⟨b, off, none⟩ : Addr).add (i * s)))) := by
  rw [add_at]
  have hlt : i < xs.length := (List.getElem?_eq_some_iff.1 hi).1
  have e1 : (xs.flatMap D.cells).drop (i * s) = (xs.drop i).flatMap D.cells := (flat_drop hs i).symm
  have e2 : xs.drop i = d :: xs.drop (i + 1) := by rw [List.drop_eq_getElem_cons hlt]; congr 1; rw [List.getElem?_eq_getElem hlt] at hi; injection hi
  have hdc : d.cells.length = s := hs d (List.mem_of_getElem? hi)
  have e3 : ((xs.flatMap D.cells).drop (i * s)).take s = d.cells := by rw [e1, e2, List.flatMap_cons, List.take_append, List.take_of_length_le (by omega), hdc, Nat.sub_self]; simp
  have h1 := (hr.drop (i * s)).take s
  have h2 := (hd.drop (i * s)).take s
  rw [e3] at h2
  refine .rp (fun y hy => hl y ?_) h1 h2
  rw [← e3] at hy
  exact List.mem_of_mem_drop (List.mem_of_mem_take hy)
theorem indexAddr_sound (hT : TyOk C) {t : Nat} {i : Int} {k : IntKind} {x v : V} {xv : Value} (hx : RepV σ x xv) (h : (indexAddr C t i x).out v) :
    ∃ z, (Instr.indexAt t xv (.int k i)).run C.P σ.w = .ok z σ.w ∧ RepV σ v z := by
  unfold indexAddr at h
  split at h
  · rename_i xs full
    split at h
    · rename_i ti hti
      obtain ⟨el, hu, ht⟩ := elemTI_und hT hti
      obtain ⟨h0, h⟩ := out_chk h
      simp only [decide_eq_true_eq] at h0
      obtain ⟨d, hd, h⟩ := out_optD h
      split at h
      · rename_i hb
        have := out_ret h; subst this
        have hdc : d.cells.length = ti.size := Nat.eq_of_beq_eq_true hb
        have hlt : i.toNat < xs.length := (List.getElem?_eq_some_iff.1 hd).1
        cases hx with
        | p hx => cases hx with
          | @sl _ _ b off c s vs hc hf hs hl hr hds =>
            have hss : s = ti.size := by rw [← hdc]; exact (hs d (List.mem_of_getElem? hd)).symm
            subst hss
            refine ⟨_, ?_, .p (at_sl hs hl hr hds hd)⟩
            simp only [Instr.indexAt, Sem.run_bind, asIntOf, Sem.run_pure, Result.andThen_ok, run_underlying hu, ht.run_size]
            rw [if_pos ⟨h0, by omega⟩]
            simp [ht.run_size]
          | @sl0 a0 c _ hf => simp at hlt
      · exact (out_fail h).elim
    · exact (out_fail h).elim
  · rename_i b s xs
    split at h
    · rename_i ti hti
      obtain ⟨el, hu, ht⟩ := elemTI_und hT hti
      obtain ⟨h0, h⟩ := out_chk h
      simp only [decide_eq_true_eq] at h0
      obtain ⟨d, hd, h⟩ := out_optD h
      split at h
      · rename_i hb
        have := out_ret h; subst this
        have hdc : d.cells.length = ti.size := Nat.eq_of_beq_eq_true hb
        have hlt : i.toNat < xs.length := (List.getElem?_eq_some_iff.1 hd).1
        cases hx with
        | vec hid hc hs hl hr hds hb =>
          have hss : s = ti.size := by rw [← hdc]; exact (hs d (List.mem_of_getElem? hd)).symm
          subst hss
          refine ⟨_, ?_, .p (at_sl hs hl hr hds hd)⟩
          simp only [Instr.indexAt, Sem.run_bind, asIntOf, Sem.run_pure, Result.andThen_ok, run_underlying hu, ht.run_size]
          rw [if_pos ⟨h0, by omega⟩]
          simp [ht.run_size]
        | vec0 hid => simp at hlt
      · exact (out_fail h).elim
    · exact (out_fail h).elim
  · rename_i b ver off len s0 fl0
    split at h
    · rename_i ti hti
      obtain ⟨el, hu, ht⟩ := elemTI_und hT hti
      obtain ⟨h0, h⟩ := out_chk h
      simp only [decide_eq_true_eq] at h0
      have := out_ret h; subst this
      cases hx with
      | own hid hc =>
        have hp : RepV σ (.ptr b ver (off + i.toNat * ti.size)) (.pointer (some ((⟨σ.ι b ver, off, none⟩ : Addr).add (i.toNat * ti.size)))) := by rw [add_at]; exact .ptr hid
        refine ⟨_, ?_, hp⟩
        simp only [Instr.indexAt, Sem.run_bind, asIntOf, Sem.run_pure, Result.andThen_ok, run_underlying hu]
        rw [if_pos ⟨h0.1, h0.2⟩]
        simp [ht.run_size]
      | own0 hid => exact absurd h0.2 (by simp; omega)
    · exact (out_fail h).elim
  · rename_i b ver off len s0
    split at h
    · rename_i ti hti
      obtain ⟨el, hu, ht⟩ := elemTI_und hT hti
      obtain ⟨h0, h⟩ := out_chk h
      simp only [decide_eq_true_eq] at h0
      have := out_ret h; subst this
      cases hx with
      | row hid hc hb =>
        have hp : RepV σ (.ptr b ver (off + i.toNat * ti.size)) (.pointer (some ((⟨σ.ι b ver, off, none⟩ : Addr).add (i.toNat * ti.size)))) := by rw [add_at]; exact .ptr hid
        refine ⟨_, ?_, hp⟩
        simp only [Instr.indexAt, Sem.run_bind, asIntOf, Sem.run_pure, Result.andThen_ok, run_underlying hu]
        rw [if_pos ⟨h0.1, h0.2⟩]
        simp [ht.run_size]
      | row0 hid hb => exact absurd h0.2 (by simp; omega)
    · exact (out_fail h).elim
  · rename_i b ver off
    split at h
    · rename_i n ti hti
      obtain ⟨el, hu, ht⟩ := arrTI_und hT hti
      obtain ⟨h0, h⟩ := out_chk h
      simp only [decide_eq_true_eq] at h0
      have := out_ret h; subst this
      cases hx with
      | ptr hid =>
        have hp : RepV σ (.ptr b ver (off + i.toNat * ti.size)) (.pointer (some ((⟨σ.ι b ver, off, none⟩ : Addr).add (i.toNat * ti.size)))) := by rw [add_at]; exact .ptr hid
        refine ⟨_, ?_, hp⟩
        simp only [Instr.indexAt, Sem.run_bind, asIntOf, Sem.run_pure, Result.andThen_ok, run_underlying hu, Instr.sureAddr]
        rw [if_pos ⟨h0.1, h0.2⟩]
        simp [ht.run_size]
    · exact (out_fail h).elim
  · rename_i cs
    split at h
    · rename_i n ti hti
      obtain ⟨el, hu, ht⟩ := arrTI_und hT hti
      obtain ⟨h0, h⟩ := out_chk h
      simp only [decide_eq_true_eq] at h0
      have := out_ret h; subst this
      cases hx with
      | p hx => cases hx with
        | @rp _ b off vs hl hr hs =>
          have hp : RepD σ.w σ.Fz (.rp (cs.drop (i.toNat * ti.size))) (.pointer (some ((⟨b, off, none⟩ : Addr).add (i.toNat * ti.size)))) := by
            rw [add_at]; exact .rp (fun y hy => hl y (List.mem_of_mem_drop hy)) (hr.drop _) (hs.drop _)
          refine ⟨_, ?_, .p hp⟩
          simp only [Instr.indexAt, Sem.run_bind, asIntOf, Sem.run_pure, Result.andThen_ok, run_underlying hu, Instr.sureAddr]
          rw [if_pos ⟨h0.1, h0.2⟩]
          simp [ht.run_size]
    · exact (out_fail h).elim
  · exact (out_fail h).elim
theorem index_sound (hT : TyOk C) {t : Nat} {i : Int} {k : IntKind} {x v : V} {xv : Value} (hx : RepV σ x xv) (h : (index C t i x).out v) :
    ∃ z, (Instr.index t xv (.int k i)).run C.P σ.w = .ok z σ.w ∧ RepV σ v z := by
  unfold index at h
  split at h
  · rename_i s
    obtain rfl := lit_str hx
    split at h
    · rename_i hk
      obtain ⟨d, hu, hd⟩ := und_kind hT (t := t) (by rw [hk]; simp)
      rw [hk] at hd; have := desc_str hd; subst this
      obtain ⟨h0, h⟩ := out_chk h
      simp only [decide_eq_true_eq] at h0
      obtain ⟨b, hb, h⟩ := out_optB h
      have := out_ret h; subst this
      refine ⟨_, ?_, rep_lit rfl⟩
      have hb' : s[i.toNat]? = some b := by
        have hlt : i.toNat < s.data.toList.length := (List.getElem?_eq_some_iff.1 hb).1
        have hlt' : i.toNat < s.size := by simpa using hlt
        rw [getElem?_pos s i.toNat hlt']
        rw [List.getElem?_eq_getElem hlt] at hb
        injection hb with hb
        rw [← hb]
        rfl
      simp only [Instr.index, Sem.run_bind, asIntOf, Sem.run_pure, Result.andThen_ok, run_underlying hu]
      simp [h0, hb']
    · exact (out_fail h).elim
  · rename_i l
    split at h
    · rename_i n ti hti
      obtain ⟨el, hu, ht⟩ := arrTI_und hT hti
      obtain ⟨h0, h⟩ := out_chk h
      simp only [decide_eq_true_eq] at h0
      obtain ⟨d, hp, h⟩ := out_optD h
      have := out_ret h; subst this
      cases hx with
      | p hx => cases hx with
        | @agg _ vs hl hs =>
          have hlen := hs.length
          have hpr := part_run (w := σ.w) ht (cs := vs) (off := i.toNat * ti.size) (by omega)
          have hv := ((hs.drop (i.toNat * ti.size)).take ti.size).packD (fun y hy => hl y (List.mem_of_mem_drop (List.mem_of_mem_take hy))) hp
          refine ⟨_, ?_, .p hv⟩
          simp only [Instr.index, Sem.run_bind, asIntOf, Sem.run_pure, Result.andThen_ok, run_underlying hu]
          rw [if_pos ⟨h0.1, h0.2.1⟩]
          simp [ht.run_size, hpr]
    · exact (out_fail h).elim
  · exact (out_fail h).elim
theorem fieldOf_und (hT : TyOk C) {t k off : Nat} {fi : TI} (h : fieldOf C t k = some (off, fi)) : ∃ (l : Array Field) (f : Field), C.P.underlying t = some (.struct l) ∧ l[k]? = some f ∧ f.offset = off ∧ TyAt C.P f.type fi := by
  unfold fieldOf at h
  split at h
  · rename_i fs hk
    obtain ⟨d, hu, hd⟩ := und_kind hT (t := t) (by rw [hk]; simp)
    rw [hk] at hd
    obtain ⟨l, rfl, hl, _⟩ := desc_struct hd
    split at h
    · rename_i o ft hf
      split at h
      · rename_i i hi
        injection h with h; injection h with h1 h2; subst h1; subst h2
        rw [← hl, List.getElem?_map] at hf
        cases hg : l.toList[k]? with
        | none => simp [hg] at hf
        | some f =>
          simp [hg] at hf
          exact ⟨l, f, hu, by simpa using hg, hf.1, by rw [hf.2]; exact hT _ _ hi⟩
      · cases h
    · cases h
  · cases h
def faddr (off : Nat) : V → Option V
  | .ptr b ver o => some (.ptr b ver (o + off))
  | .p (.rp cs) => some (.p (.rp (cs.drop off)))
  | _ => none
theorem fieldAddr_sound (hT : TyOk C) {t k off : Nat} {fi : TI} {x : V} {xv : Value} (hx : RepV σ x xv) (h : fieldOf C t k = some (off, fi)) (hz : Nat.beq fi.size 0 = false) {v : V}
    (hv : faddr off x = some v) : ∃ z, (Instr.fieldAt t xv k).run C.P σ.w = .ok z σ.w ∧ RepV σ v z := by
  obtain ⟨l, f, hu, hf, ho, ht⟩ := fieldOf_und hT h
  have hne : fi.size ≠ 0 := by intro e; rw [e] at hz; simp at hz
  have run : ∀ b o, (Instr.fieldAt t (.pointer (some ⟨b, o, none⟩)) k).run C.P σ.w = .ok (.pointer (some ⟨b, o + off, none⟩)) σ.w := by
    intro b o
    simp only [Instr.fieldAt, Sem.run_bind, run_underlying hu, Result.andThen_ok, hf, Instr.sureAddr, Sem.run_pure, fieldPlace, ht.run_size, Sem.run_ite]
    rw [if_neg hne]
    simp [add_at, ho]
  cases hx with
  | ptr hid => simp only [faddr, Option.some.injEq] at hv; subst hv; exact ⟨_, run _ _, .ptr hid⟩
  | p hx => cases hx with
    | rp hl hr hs => simp only [faddr, Option.some.injEq] at hv; subst hv; exact ⟨_, run _ _, .p (.rp (fun y hy => hl y (List.mem_of_mem_drop hy)) (hr.drop _) (hs.drop _))⟩
    | _ => simp [faddr] at hv
  | _ => simp [faddr] at hv
theorem aggOf_rep {x : V} {xv : Value} (hx : RepV σ x xv) {l : List V} (h : aggOf x = some l) : ∃ vs, xv = .agg ⟨vs⟩ ∧ RepVs σ l vs ∧ ∀ y ∈ l, y.leaf = true := by
  unfold aggOf at h
  split at h
  · injection h with h; subst h
    cases hx with
    | p hx => cases hx with
      | agg hl hs => exact ⟨_, rfl, hs.toV, leaf_map hl⟩
  · injection h with h; subst h
    cases hx with
    | agg hl hs => exact ⟨_, rfl, hs, hl⟩
  · cases h
theorem field_sound (hT : TyOk C) {t k off : Nat} {fi : TI} {x : V} {xv : Value} (hx : RepV σ x xv) (h : fieldOf C t k = some (off, fi)) {l : List V} (hl : aggOf x = some l)
    (hb : Nat.ble (off + fi.size) l.length = true) {v : V} (hp : packV fi.agg ((l.drop off).take fi.size) = some v) : ∃ z, (Instr.field t xv k).run C.P σ.w = .ok z σ.w ∧ RepV σ v z := by
  obtain ⟨fl, f, hu, hf, ho, ht⟩ := fieldOf_und hT h
  obtain ⟨vs, rfl, hs, hleaf⟩ := aggOf_rep hx hl
  have hlen := hs.length
  have hle := Nat.le_of_ble_eq_true hb
  have hpr := part_run (w := σ.w) ht (cs := vs) (off := off) (by omega)
  have hv := ((hs.drop off).take fi.size).packV (fun y hy => hleaf y (List.mem_of_mem_drop (List.mem_of_mem_take hy))) hp
  refine ⟨_, ?_, hv⟩
  simp only [Instr.field, Sem.run_bind, run_underlying hu, Result.andThen_ok, hf, asAgg, Sem.run_pure, ho, hpr]

theorem lenV_sound (hT : TyOk C) {t n ty : Nat} {x : V} {xv : Value} (hx : RepV σ x xv) (h : lenV C t x = some n) : (Builtin.len_ #[t] ty #[xv]).run C.P σ.w = .ok (.int .i64 n) σ.w := by
  unfold lenV at h
  split at h
  · rename_i el hk
    obtain ⟨d, hu, hd⟩ := und_kind hT (t := t) (by rw [hk]; simp)
    rw [hk] at hd; have := desc_slice hd; subst this
    have run : ∀ ad m c, (Builtin.len_ #[t] ty #[.slice ad m c]).run C.P σ.w = .ok (.int .i64 m) σ.w := by
      intro ad m c
      simp [Builtin.len_, run_underlying hu, goInt]
    split at h
    · injection h with h; subst h
      cases hx with
      | p hx => cases hx with
        | sl _ _ _ _ _ _ => exact run _ _ _
        | sl0 _ => exact run _ _ _
    · injection h with h; subst h
      cases hx with
      | vec _ _ _ _ _ _ _ => exact run _ _ _
      | vec0 _ => exact run _ _ _
    · injection h with h; subst h
      cases hx with
      | own _ _ => exact run _ _ _
      | own0 _ => exact run _ _ _
    · injection h with h; subst h
      cases hx with
      | row _ _ _ => exact run _ _ _
      | row0 _ _ => exact run _ _ _
    · cases h
  · rename_i hk
    obtain ⟨d, hu, hd⟩ := und_kind hT (t := t) (by rw [hk]; simp)
    rw [hk] at hd; have := desc_str hd; subst this
    split at h
    · injection h with h; subst h
      obtain rfl := lit_str hx
      simp [Builtin.len_, run_underlying hu, goInt]
    · cases h
  · rename_i m el hk
    obtain ⟨d, hu, hd⟩ := und_kind hT (t := t) (by rw [hk]; simp)
    rw [hk] at hd; have := desc_array hd; subst this
    injection h with h; subst h
    simp [Builtin.len_, run_underlying hu, goInt]
  · cases h
theorem max2_sound {P : Program} {x y v : V} {xv yv : Value} (hx : RepV σ x xv) (hy : RepV σ y yv) (h : (max2 x y).out v) :
    ∃ z, (Builtin.max2 xv yv).run P σ.w = .ok z σ.w ∧ RepV σ v z := by
  unfold max2 at h
  split at h
  · rename_i k x k' y
    obtain rfl := lit_float hx; obtain rfl := lit_float hy
    unfold floatMax at h
    split at h
    · exact (out_fail h).elim
    · rename_i ho
      have := out_ret h; subst this
      exact ⟨_, by simp [Builtin.max2, ho], rep_lit rfl⟩
    · rename_i ho
      have := out_ret h; subst this
      exact ⟨_, by simp [Builtin.max2, ho], rep_lit rfl⟩
    · rename_i ho
      have := out_ret h; subst this
      exact ⟨_, by simp [Builtin.max2, ho], rep_lit rfl⟩
  · obtain rfl := lit_int hx; obtain rfl := lit_int hy
    have := out_ret h; subst this
    exact ⟨_, by simp [Builtin.max2], rep_lit rfl⟩
  · exact (out_fail h).elim
theorem min2_sound {P : Program} {x y v : V} {xv yv : Value} (hx : RepV σ x xv) (hy : RepV σ y yv) (h : (min2 x y).out v) :
    ∃ z, (Builtin.min2 xv yv).run P σ.w = .ok z σ.w ∧ RepV σ v z := by
  unfold min2 at h
  split at h
  · rename_i k x k' y
    obtain rfl := lit_float hx; obtain rfl := lit_float hy
    unfold floatMin at h
    split at h
    · exact (out_fail h).elim
    · rename_i ho
      have := out_ret h; subst this
      exact ⟨_, by simp [Builtin.min2, ho], rep_lit rfl⟩
    · rename_i ho
      have := out_ret h; subst this
      exact ⟨_, by simp [Builtin.min2, ho], rep_lit rfl⟩
    · rename_i ho
      have := out_ret h; subst this
      exact ⟨_, by simp [Builtin.min2, ho], rep_lit rfl⟩
  · obtain rfl := lit_int hx; obtain rfl := lit_int hy
    have := out_ret h; subst this
    exact ⟨_, by simp [Builtin.min2], rep_lit rfl⟩
  · exact (out_fail h).elim

theorem folds_sound {P : Program} {f : V → V → SM V} {g : Value → Value → Sem Value} (hf : ∀ {x y v : V} {xv yv : Value}, RepV σ x xv → RepV σ y yv → (f x y).out v → ∃ z, (g xv yv).run P σ.w = .ok z σ.w ∧ RepV σ v z) :
    ∀ {l : List V} {vs : List Value} {x v : V} {xv : Value}, RepVs σ l vs → RepV σ x xv → (folds f x l).out v → ∃ z, (vs.foldlM g xv).run P σ.w = .ok z σ.w ∧ RepV σ v z
  | [], _, x, v, xv, .nil, hx, h => by
    have := out_ret h; subst this
    exact ⟨xv, rfl, hx⟩
  | y :: l, _, x, v, xv, .cons hy ht, hx, h => by
    obtain ⟨z, h1, h2⟩ := out_bind h
    obtain ⟨zv, h3, h4⟩ := hf hx hy h1
    obtain ⟨r, h5, h6⟩ := folds_sound hf ht h4 h2
    exact ⟨r, by rw [List.foldlM_cons, Sem.run_bind, h3]; exact h5, h6⟩

/-! Bytes and texts -/
theorem bytesOf_rep : ∀ {l : List V} {vs : List Value} {bs : List UInt8}, RepVs σ l vs → bytesOf l = some bs → ∃ ns : List Int, vs = ns.map (Value.int .u8) ∧ bs = ns.map fun n => UInt8.ofNat n.toNat
  | _, _, _, .nil, h => by simp [bytesOf] at h; subst h; exact ⟨[], rfl, rfl⟩
  | _, _, _, .cons (d := d) (l := l) h t, hb => by
    simp only [bytesOf] at hb
    cases h1 : byteOf d with
    | none => simp [h1] at hb
    | some b =>
      cases h2 : bytesOf l with
      | none => simp [h1, h2] at hb
      | some bs =>
        simp [h1, h2] at hb; subst hb
        obtain ⟨ns, rfl, rfl⟩ := bytesOf_rep t h2
        unfold byteOf at h1
        split at h1
        · injection h1 with h1; subst h1
          obtain rfl := lit_int h
          exact ⟨_ :: ns, rfl, rfl⟩
        · cases h1
theorem bytesToString_run {P : Program} {w : World} {b o c : Nat} {ns : List Int} (h : ∀ j v, (ns.map (Value.int .u8))[j]? = some v → w.cell? ⟨b, o + j, none⟩ = some v) :
    (Conv.bytesToString (.slice (some ⟨b, o, none⟩) ns.length c)).run P w = .ok (.string ⟨(ns.map fun n => UInt8.ofNat n.toNat).toArray⟩) w := by
  have hl := run_loadCells_list (P := P) w ⟨b, o, none⟩ (ns.map (Value.int .u8)) (fun j v hj => by rw [add_at]; exact h j v hj)
  rw [List.length_map] at hl
  rw [run_bytesToString w _ _ _ ns hl]
  have key : ∀ (l : List Int) (acc : ByteArray), l.foldl (fun r n => r.push (UInt8.ofNat n.toNat)) acc = ⟨acc.data ++ (l.map fun n => UInt8.ofNat n.toNat).toArray⟩ := by
    intro l
    induction l with
    | nil => intro acc; simp
    | cons n l ih => intro acc; rw [List.foldl_cons, ih]; simp [ByteArray.push]
  rw [key]
  simp [show (ByteArray.empty : ByteArray).data = #[] from rfl]
theorem isBytes_und (hT : TyOk C) {t : Nat} (h : isBytes C t = true) : ∃ el, C.P.underlying t = some (.slice el) ∧ C.P.underlying el = some (.int .u8) ∧ ∃ ti, elemTI C t = some ti ∧ TyAt C.P el ti ∧ ti.size = 1 := by
  unfold isBytes at h
  split at h
  · rename_i ti hti
    split at h
    · rename_i hk
      obtain ⟨el, hu, ht⟩ := elemTI_und hT hti
      obtain ⟨d, hd, hdk⟩ := ht.und
      rw [hk] at hdk; have := desc_int hdk; subst this
      exact ⟨el, hu, hd, ti, hti, ht, ht.one (by simp [TI.agg, hk])⟩
    · cases h
  · cases h
theorem convBytes_run {P : Program} {w : World} {src dst el : Nat} (hs : P.underlying src = some (.slice el)) (he : P.underlying el = some (.int .u8)) (hd : P.underlying dst = some .string) (ad : Option Addr) (n c : Nat) :
    (convert src dst (.slice ad n c)).run P w = (Conv.bytesToString (.slice ad n c)).run P w := by
  cases ad <;> simp [convert, run_underlying hs, run_underlying he, run_underlying hd]
theorem tyOf_und (hT : TyOk C) {t : Nat} {i : TI} (h : tyOf C t = some i) : ∃ d, C.P.underlying t = some d ∧ descKind d = i.kind := (hT _ _ h).und
/-- A slice of bytes as a text. -/
theorem bytes_sl {w : World} {Fz : Cells} {xs : List D} {b off s : Nat} {vs : List Value} {bs : List UInt8} {P : Program} {c : Nat} (σ : St) (hw : σ.w = w) (hF : σ.Fz = Fz)
    (hr : CellsAt w Fz b off vs) (hd : RepDs w Fz (xs.flatMap D.cells) vs) (hb : bytesOf (xs.map .p) = some bs) :
    (Conv.bytesToString (.slice (some ⟨b, off, none⟩) xs.length c)).run P w = .ok (.string ⟨bs.toArray⟩) w := by
  subst hw; subst hF
  have hcells : ∀ (ys : List D) (bs : List UInt8), bytesOf (ys.map V.p) = some bs → ys.flatMap D.cells = ys := by
    intro ys
    induction ys with
    | nil => intro _ _; rfl
    | cons y r ih =>
      intro bs h
      simp only [List.map_cons, bytesOf] at h
      cases h1 : byteOf (.p y) with
      | none => simp [h1] at h
      | some b =>
        cases h2 : bytesOf (r.map V.p) with
        | none => simp [h1, h2] at h
        | some bs' =>
          unfold byteOf at h1
          split at h1
          · rename_i n hy
            injection hy with hy; subst hy
            rw [List.flatMap_cons, ih bs' h2]; rfl
          · cases h1
  rw [hcells xs bs hb] at hd
  obtain ⟨ns, rfl, rfl⟩ := bytesOf_rep hd.toV hb
  have hlen := hd.length
  rw [List.length_map] at hlen
  rw [← hlen]
  exact bytesToString_run (fun j v hj => (hr j v hj).2)
end
end Go.Abs
/- Soundness of single operations: what is made, and written. -/
namespace Go.Abs
set_option linter.unusedVariables false
set_option linter.unusedSimpArgs false
section
variable {C : Ctx} {σ : St} {e : Env} {a : Act}

/-- What a step that makes or writes comes to. -/
def Made (P : Program) (σ : St) (m : Sem Value) (v : V) (H' : AHeap) : Prop :=
  ∃ x τ, m.run P σ.w = .ok x τ.w ∧ τ.H = H' ∧ τ.ok ∧ Ext σ τ ∧ RepV τ v x
theorem Made.res {P : Program} {m : Sem Value} {v : V} {H' : AHeap} (h : Made P σ m v H') : Res P σ (do pure (.value (← m))) v H' := by
  obtain ⟨x, τ, h1, h2, h3, h4, h5⟩ := h
  exact ⟨_, τ, by rw [Sem.run_bind, h1]; rfl, h2, h3, h4, .inl ⟨x, rfl, h5⟩⟩
theorem Made.same {P : Program} (ok : σ.ok) {m : Sem Value} {v : V} {x : Value} (h : m.run P σ.w = .ok x σ.w) (hv : RepV σ v x) : Made P σ m v σ.H :=
  ⟨x, σ, h, rfl, ok, Ext.refl σ, hv⟩

theorem zval_rep {w : World} {Fz : Cells} {d : D} (h : zOk d = true) : RepD w Fz d (zval d) ∧ d.leaf = true := by
  unfold zOk at h
  split at h
  · exact ⟨.lit h, rfl⟩
  · exact ⟨.sl0 (fun _ => rfl), rfl⟩
  · cases h
theorem zvals_rep {w : World} {Fz : Cells} : ∀ {l : List D}, (∀ d ∈ l, zOk d = true) → RepDs w Fz l (l.map zval)
  | [], _ => .nil
  | d :: r, h => .cons (zval_rep (h d (by simp))).1 (zvals_rep fun x hx => h x (by simp [hx]))
theorem zeroOf_cells {P : Program} {t : Nat} {i : TI} (h : TyAt P t i) : (zeroOf i).cells.toList = i.zero.map zval := by
  unfold zeroOf
  cases ha : i.agg with
  | true => simp [Value.cells]
  | false =>
    have h1 := h.one ha
    have h2 := h.zs
    rw [h1] at h2
    match hz : i.zero, h2 with
    | [d], _ =>
      have := (zval_rep (w := default) (Fz := fun _ _ => True) (h.zok d (by rw [hz]; simp)))
      simp [(this.1.leafCells this.2).1]
/-- A new block of cells. -/
theorem push_cells (ok : σ.ok) (lz : Lz) {l : List V} {c : Array Value} {T : TypeId} {fr : Nat × Nat} (hsz : LenOk lz l.length c.size T fr) (hr : RepVs σ l (c.toList.take l.length)) (hl : ∀ y ∈ l, y.leaf = true)
    (hfr : ∀ i, i < l.length → ¬ (fr.1 ≤ i ∧ i < fr.2)) :
    ∃ τ, τ.w = σ.w.alloc (.cells c T fr) ∧ τ.H = σ.H ++ [.cells lz 0 l] ∧ τ.ok ∧ Ext σ τ ∧ τ.has σ.H.length 0 ∧ τ.ι σ.H.length 0 = σ.w.heap.size := by
  have hb : (σ.H ++ [AObj.cells lz 0 l])[σ.H.length]? = some (.cells lz 0 l) := by simp
  have hnone : ∀ m, σ.vb σ.H.length = some m → m < 0 := by intro m hm; have := St.vb_lt hm; omega
  have h := ok.push (c := c) (T := T) (fr := fr) (fz := fun _ => False) (own := fun _ => True) (b := σ.H.length) (ver := 0) (H := σ.H ++ [.cells lz 0 l]) (by simp)
    (fun b' hb' => by
      rcases Nat.lt_or_ge b' σ.H.length with h | h
      · rw [List.getElem?_append_left h]
      · rw [List.getElem?_eq_none (by simp; omega), List.getElem?_eq_none h]) hb rfl hnone (fun m => by
      refine ⟨c, T, fr, ?_, hsz, hr.mon m, hfr, hl, fun j o => ?_⟩
      · simp only [St.push, and_self, if_true]; exact heap_push_new _ _
      · simp only [St.push, if_true, and_true, and_self])
  refine ⟨_, rfl, rfl, h.1, h.2, ⟨0, ?_, Nat.le_refl _⟩, ?_⟩
  · show ((σ.H ++ [AObj.cells lz 0 l])[σ.H.length]?).map _ = _
    rw [hb]; rfl
  · simp [St.push]
theorem newVar_run {P : Program} {w : World} {t : TypeId} {v : Value} : (newVar t v).run P w = .ok ⟨w.heap.size, 0, none⟩ (w.alloc (.cells v.cells t)) := by
  simp [newVar, newRow]
theorem alloc_sound (hT : TyOk C) (ok : σ.ok) {t : Nat} {i : TI} (hi : tyOf C t = some i) : Made C.P σ (Instr.alloc t true (.tuple #[])) (.ptr σ.H.length 0 0) (σ.H ++ [.cells (.t t) 0 (i.zero.map .p)]) := by
  have ht := hT t i hi
  have hz := zeroOf_cells ht
  have hlen : (i.zero.map V.p).length = (zeroOf i).cells.size := by rw [← Array.length_toList, hz]; simp
  obtain ⟨τ, h1, h2, h3, h4, h5, h6⟩ := push_cells ok (.t t) (l := i.zero.map .p) (c := (zeroOf i).cells) (T := t) (fr := (0, 0)) ⟨by omega, fun T' hT' => ⟨by injection hT' with hT'; exact hT'.symm, hlen, rfl⟩, fun T' hT' => (by cases hT')⟩
    (by rw [hlen, List.take_of_length_le (by simp), hz]; exact (zvals_rep ht.zok).toV) (leaf_map fun d hd => (zval_rep (w := default) (Fz := fun _ _ => True) (ht.zok d hd)).2) (by omega)
  refine ⟨.pointer (some ⟨σ.w.heap.size, 0, none⟩), τ, ?_, h2, h3, h4, ?_⟩
  · simp only [Instr.alloc, Sem.run_bind, ht.run_zero, Result.andThen_ok, newVar_run, Sem.run_pure, h1]
  · have := RepV.ptr (σ := τ) (off := 0) h5
    rw [h6] at this; exact this
theorem box_sound (ok : σ.ok) {P : Program} {t : Nat} {x : V} {xv : Value} (hx : RepV σ x xv) {l : List V} (hf : x.flat = some l) : Made P σ (Instr.box t xv) (.ptr σ.H.length 0 0) (σ.H ++ [.cells (.t t) 0 l]) := by
  obtain ⟨hr, hl⟩ := hx.flat hf
  have hlen := hr.length
  obtain ⟨τ, h1, h2, h3, h4, h5, h6⟩ := push_cells ok (.t t) (l := l) (c := xv.cells) (T := t) (fr := (0, 0)) ⟨by simp at hlen; omega, fun T' hT' => ⟨by injection hT' with hT'; exact hT'.symm, by simp at hlen; omega, rfl⟩, fun T' hT' => (by cases hT')⟩
    (by rw [List.take_of_length_le (by omega)]; exact hr) hl (by omega)
  refine ⟨.pointer (some ⟨σ.w.heap.size, 0, none⟩), τ, ?_, h2, h3, h4, ?_⟩
  · simp only [Instr.box, Sem.run_bind, newVar_run, Result.andThen_ok, Sem.run_pure, h1]
  · have := RepV.ptr (σ := τ) (off := 0) h5
    rw [h6] at this; exact this
theorem store_sound (hT : TyOk C) (ok : σ.ok) {t : Nat} {i : TI} (hi : tyOf C t = some i) {x ad : V} {xv av : Value} (hx : RepV σ x xv) (ha : RepV σ ad av) {l : List V} (hf : x.flat = some l)
    (hb : Nat.beq l.length i.size = true) {H' : AHeap} (h : (storeAt σ.H l ad).out H') : ∃ τ, (Instr.storeAt t av xv).run C.P σ.w = .ok () τ.w ∧ τ.H = H' ∧ τ.ok ∧ Ext σ τ := by
  have ht := hT t i hi
  obtain ⟨hr, hl⟩ := hx.flat hf
  unfold storeAt at h
  split at h
  · rename_i b ver off
    split at h
    · rename_i lz cs ho
      obtain ⟨hc, h⟩ := out_chk h
      simp only [decide_eq_true_eq] at hc
      have := out_ret h; subst this
      cases ha with
      | ptr hid =>
        obtain ⟨h1, h2, h3⟩ := ok.store (P := C.P) ho hc hl hr
        refine ⟨_, ?_, rfl, h2, h3⟩
        have hn : xv.cells.size = i.size := by have := hr.length; simp at this; rw [this]; exact Nat.eq_of_beq_eq_true hb
        simp only [Instr.storeAt, Sem.run_bind, Instr.sureAddr, Sem.run_pure, Result.andThen_ok, storeVar, ht.run_size, Sem.run_ite]
        rw [if_neg (by simp [hn])]
        simpa using h1
    · exact (out_fail h).elim
  · exact (out_fail h).elim

/-! '[]byte(s)' -/
theorem push_modify (h : Array Obj) (x : Obj) (f : Obj → Obj) : (h.push x).modify h.size f = h.push (f x) := by
  apply Array.ext
  · simp
  · intro i h1 h2
    simp only [Array.size_modify, Array.size_push] at h1
    rw [Array.getElem_modify]
    by_cases hi : i = h.size
    · subst hi; simp
    · have : i < h.size := by omega
      rw [if_neg (fun e => hi e.symm)]
      simp [Array.getElem_push, this]
theorem bytesWorld_eq (w : World) (el : TypeId) (s : ByteArray) : Lib.bytesWorld w el s = w.drew.alloc (.cells (Lib.bytesCells w el s) el ((Lib.bytesCells w el s).size, (Lib.bytesCells w el s).size + 1)) := by
  unfold Lib.bytesWorld World.freeze
  rw [if_neg (by omega)]
  have h : ((w.drew.alloc (.cells (Lib.bytesCells w el s) el)).heap.modify w.heap.size fun
      | .cells c elem (lo, hi) => .cells c elem (if lo == hi then ((Lib.bytesCells w el s).size, (Lib.bytesCells w el s).size + 1) else (min lo (Lib.bytesCells w el s).size, max hi ((Lib.bytesCells w el s).size + 1)))
      | o => o) = w.heap.push (.cells (Lib.bytesCells w el s) el ((Lib.bytesCells w el s).size, (Lib.bytesCells w el s).size + 1)) := by
    show ((w.heap.push _).modify w.heap.size _) = _
    rw [push_modify]
    simp
  exact congrArg (fun h => World.mk h w.tape (w.drawn + 1) w.os w.output) h
theorem bytesVs {σ : St} (bs : List UInt8) : RepVs σ (bs.map fun b => .p (byteV b)) (bs.map fun b => .int .u8 (b.toNat : Int)) := by
  induction bs with
  | nil => exact .nil
  | cons b r ih => exact .cons (rep_lit rfl) ih
theorem liesAt_self {P : Program} {e : TypeId} (hc : P.cellsOf e ≠ 0) (count n : Nat) (hn : n ≤ count) : liesAt P P.depth e count 0 e n = true := by
  have hd : P.depth = (2 * (P.types.size + Made.depth) + 1) + 1 := rfl
  rw [hd]
  simp only [liesAt, Bool.or_eq_true]
  left
  rw [hd]
  simp [rowAt, hc, hn, sameLayout]
theorem elemId_und (hT : TyOk C) {t : Nat} {ti : TI} (hti : elemTI C t = some ti) : C.P.underlying t = some (.slice (elemId C t)) ∧ TyAt C.P (elemId C t) ti := by
  obtain ⟨el, hu, ht⟩ := elemTI_und hT hti
  have hel : elemId C t = el := by
    unfold elemTI at hti
    unfold elemId
    split at hti
    · rename_i e hk
      obtain ⟨d, hu', hd⟩ := und_kind hT (t := t) (by rw [hk]; simp)
      rw [hk] at hd; have := desc_slice hd; subst this
      rw [hu] at hu'; injection hu' with hu'; injection hu' with hu'; exact hu'.symm
    · cases hti
  rw [hel]; exact ⟨hu, ht⟩
theorem rowOwn_rep {x : V} {xv : Value} (h : RepV σ x xv) : RepV σ (rowOwn x) xv := by
  cases h with
  | row hid hc hb => exact .own hid hc (by simp)
  | row0 hid hb => exact .own0 hid (by simp)
  | p h => exact .p h
  | top => exact .top
  | vec h1 h2 h3 h4 h5 h6 h7 => exact .vec h1 h2 h3 h4 h5 h6 h7
  | vec0 h => exact .vec0 h
  | vptr h1 h2 h3 h4 h5 => exact .vptr h1 h2 h3 h4 h5
  | own h1 h2 h3 => exact .own h1 h2 h3
  | own0 h1 h2 => exact .own0 h1 h2
  | ptr h => exact .ptr h
  | agg h1 h2 => exact .agg h1 h2
  | fn h => exact .fn h
  | tup h => exact .tup h
  | mp h => exact .mp h
  | bfn h => exact .bfn h
theorem convertOp1_sound (hT : TyOk C) (ok : σ.ok) {src dst : Nat} {x v : V} {xv : Value} {H' : AHeap} (hx : RepV σ x xv) (h : (convertOp1 C σ.H src dst x).out (v, H')) : Made C.P σ (convert src dst xv) v H' := by
  unfold convertOp1 at h
  split at h
  · exact (out_fail h).elim
  · rename_i si hsi
    obtain ⟨sd, hsu, _⟩ := tyOf_und hT hsi
    split at h
    · rename_i k k' n hk
      have := out_ret h; injection this with h1 h2; subst h1; subst h2
      obtain rfl := lit_int hx
      obtain ⟨d, hu, hd⟩ := und_kind hT (t := dst) (by rw [hk]; simp)
      rw [hk] at hd; have := desc_int hd; subst this
      exact Made.same ok (by simp [convert, run_underlying hsu, run_underlying hu, Conv.intToInt]) (rep_lit rfl)
    · rename_i k k' n hk
      have := out_ret h; injection this with h1 h2; subst h1; subst h2
      obtain rfl := lit_int hx
      obtain ⟨d, hu, hd⟩ := und_kind hT (t := dst) (by rw [hk]; simp)
      rw [hk] at hd; have := desc_flt hd; subst this
      exact Made.same ok (by simp [convert, run_underlying hsu, run_underlying hu, Conv.intToFloat]) (rep_lit rfl)
    · rename_i s hk
      have := out_ret h; injection this with h1 h2; subst h1; subst h2
      obtain rfl := lit_str hx
      obtain ⟨d, hu, hd⟩ := und_kind hT (t := dst) (by rw [hk]; simp)
      rw [hk] at hd; have := desc_str hd; subst this
      exact Made.same ok (by simp [convert, run_underlying hsu, run_underlying hu]) (rep_lit rfl)
    · rename_i b ver off len s0 fl0 hk
      obtain ⟨d, hu, hd⟩ := und_kind hT (t := dst) (by rw [hk]; simp)
      rw [hk] at hd; have := desc_str hd; subst this
      split at h
      · rename_i lz cs hby ho
        obtain ⟨el, hsu', heu, ti, hti, ht, h1⟩ := isBytes_und hT hby
        obtain ⟨hc, h⟩ := out_chk h
        simp only [decide_eq_true_eq] at hc
        obtain ⟨bs, hbs, h⟩ := out_optL h
        have := out_ret h; injection this with h1 h2; subst h1; subst h2
        obtain ⟨_, c, T, fr, hh, hsz, hr, _, hl, _⟩ := ok.cellsAt ho
        obtain ⟨ns, hns, rfl⟩ := bytesOf_rep ((hr.drop off).take len) hbs
        have hlen : ns.length = len := by
          have := congrArg List.length hns
          simp at this; omega
        have hcell : ∀ j v, (ns.map (Value.int .u8))[j]? = some v → σ.w.cell? ⟨σ.ι b ver, off + j, none⟩ = some v := by
          intro j v hj
          rw [← hns] at hj
          rw [cell_of hh]
          rw [List.getElem?_take] at hj
          split at hj
          · rw [List.getElem?_drop, List.getElem?_take] at hj
            split at hj
            · simpa using hj
            · cases hj
          · cases hj
        cases hx with
        | own hid hcc hff =>
          refine Made.same ok ?_ (rep_lit rfl)
          rw [convBytes_run hsu' heu hu]
          have := bytesToString_run (P := C.P) (w := σ.w) (c := ‹Nat›) hcell
          rw [hlen] at this
          exact this
        | @own0 _ _ _ _ c' _ a0 hid hff =>
          have hn0 : ns = [] := List.length_eq_zero_iff.1 hlen
          subst hn0
          refine Made.same ok ?_ (rep_lit rfl)
          rw [convBytes_run hsu' heu hu]
          cases a0 with
          | none => simp [Conv.bytesToString]; rfl
          | some a0 => simp [Conv.bytesToString, loadCells, loadCellsFrom]; rfl
      · exact (out_fail h).elim
    · rename_i xs full hk
      obtain ⟨d, hu, hd⟩ := und_kind hT (t := dst) (by rw [hk]; simp)
      rw [hk] at hd; have := desc_str hd; subst this
      split at h
      · rename_i hby
        obtain ⟨el, hsu', heu, ti, hti, ht, h1⟩ := isBytes_und hT hby
        obtain ⟨bs, hbs, h⟩ := out_optL h
        have := out_ret h; injection this with h1 h2; subst h1; subst h2
        cases hx with
        | p hx => cases hx with
          | sl hc hf hs hl hr hds =>
            refine Made.same ok ?_ (rep_lit rfl)
            rw [convBytes_run hsu' heu hu]
            exact bytes_sl (s := 0) σ rfl rfl hr hds hbs
          | @sl0 a0 c _ hf =>
            simp [bytesOf] at hbs; subst hbs
            refine Made.same ok ?_ (rep_lit rfl)
            rw [convBytes_run hsu' heu hu]
            cases a0 with
            | none => simp [Conv.bytesToString]; rfl
            | some a0 => simp [Conv.bytesToString, loadCells, loadCellsFrom]; rfl
      · exact (out_fail h).elim
    · rename_i b s xs hk
      obtain ⟨d, hu, hd⟩ := und_kind hT (t := dst) (by rw [hk]; simp)
      rw [hk] at hd; have := desc_str hd; subst this
      split at h
      · rename_i hby
        obtain ⟨el, hsu', heu, ti, hti, ht, h1⟩ := isBytes_und hT hby
        obtain ⟨bs, hbs, h⟩ := out_optL h
        have := out_ret h; injection this with h1 h2; subst h1; subst h2
        cases hx with
        | vec hid hc hs hl hr hds hb =>
          refine Made.same ok ?_ (rep_lit rfl)
          rw [convBytes_run hsu' heu hu]
          exact bytes_sl (s := 0) σ rfl rfl hr hds hbs
        | @vec0 _ _ a0 hid =>
          simp [bytesOf] at hbs; subst hbs
          refine Made.same ok ?_ (rep_lit rfl)
          rw [convBytes_run hsu' heu hu]
          cases a0 with
          | none => simp [Conv.bytesToString]; rfl
          | some a0 => simp [Conv.bytesToString, loadCells, loadCellsFrom]; rfl
      · exact (out_fail h).elim
    · rename_i b ver off hk
      obtain ⟨d, hu, hd⟩ := und_kind hT (t := dst) (by rw [hk]; simp)
      rw [hk] at hd
      have : d = .unsafePointer := by cases d <;> first | rfl | (simp [descKind] at hd; done) | (simp only [descKind] at hd; split at hd <;> cases hd)
      subst this
      split at h
      · rename_i el lz cs hsk ho
        split at h
        · rename_i i hi
          split at h
          · exact (out_fail h).elim
          · rename_i hz
            obtain ⟨hc, h⟩ := out_chk h
            simp only [decide_eq_true_eq] at hc
            have := out_ret h; injection this with h1 h2; subst h1; subst h2
            obtain ⟨ds, hsu2, hds⟩ := (hT src si hsi).und
            rw [hsk] at hds; have := desc_ptr hds; subst this
            obtain ⟨inf, i1, i2, _⟩ := (hT _ i hi).info
            obtain ⟨_, c, T, fr, hh, hsz, _⟩ := ok.cellsAt ho
            cases hx with
            | ptr hid =>
              refine Made.same ok (Lib.run_to_unsafe (P := C.P) σ.w ⟨σ.ι b ver, off, none⟩ hsu2 hu i1 (by rw [i2]; intro e; rw [e] at hz; simp at hz) (by simp [World.shape?, hh]; exact ⟨rfl, rfl⟩) (by simp; omega)) (.ptr hid)
        · exact (out_fail h).elim
      · exact (out_fail h).elim
    · rename_i el b ver off hk
      obtain ⟨d, hu, hd⟩ := und_kind hT (t := dst) (by rw [hk]; simp)
      rw [hk] at hd; have := desc_ptr hd; subst this
      split at h
      · rename_i T cs hsk ho
        split at h
        · rename_i i hi
          split at h
          · rename_i hb3
            simp only [Bool.and_eq_true] at hb3
            have e1 := Nat.eq_of_beq_eq_true hb3.1.1
            have e2 := Nat.eq_of_beq_eq_true hb3.1.2
            have hz : i.size ≠ 0 := by intro e; rw [e] at hb3; simp at hb3
            have hle := Nat.le_of_ble_eq_true hb3.2.2
            subst e1; subst e2
            have := out_ret h; injection this with h1 h2; subst h1; subst h2
            obtain ⟨ds, hsu2, hds⟩ := (hT src si hsi).und
            rw [hsk] at hds
            have : ds = .unsafePointer := by cases ds <;> first | rfl | (simp [descKind] at hds; done) | (simp only [descKind] at hds; split at hds <;> cases hds)
            subst this
            have ht := hT _ i hi
            obtain ⟨inf, i1, i2, _⟩ := ht.info
            obtain ⟨hH, _⟩ := ok.cellsAt ho
            obtain ⟨c, T2, fr, hh, hszL, _⟩ := ok.objs b _ hH
            obtain ⟨rfl, hlen, _⟩ := hszL.2.1 _ rfl
            cases hx with
            | ptr hid =>
              refine Made.same ok (Lib.run_from_unsafe (P := C.P) σ.w ⟨σ.ι b ver, 0, none⟩ hsu2 hu i1 (by simp [World.shape?, hh]; exact ⟨rfl, rfl⟩) ?_) (.ptr hid)
              have hcs : C.P.cellsOf T = i.size := cellsOf_size ht
              exact liesAt_self (by rw [hcs]; exact hz) _ _ (by rw [hcs, ← hlen]; exact (Nat.le_div_iff_mul_le (by omega)).2 (by omega))
          · exact (out_fail h).elim
        · exact (out_fail h).elim
      · exact (out_fail h).elim
    · rename_i el0 s hk
      split at h
      · rename_i hby
        obtain ⟨el, hdu, heu, ti, hti, ht, h1⟩ := isBytes_und hT hby
        obtain ⟨hu2, _⟩ := elemId_und hT hti
        obtain rfl : el = elemId C dst := by rw [hdu] at hu2; injection hu2 with hu2; injection hu2
        have := out_ret h; injection this with h1 h2; subst h1; subst h2
        obtain rfl := lit_str hx
        obtain ⟨ok1, e1⟩ := ok.drew
        have hlen : (s.data.toList.map fun b => (V.p (byteV b))).length = s.size := by simp
        have hcs : (Lib.bytesCells σ.w (elemId C dst) s).toList.take s.size = s.data.toList.map fun b => .int .u8 (b.toNat : Int) := by
          simp only [Lib.bytesCells, Array.toList_append, Array.toList_map]
          rw [List.take_left' (by simp)]
        obtain ⟨τ, t1, t2, t3, t4, t5, t6⟩ := push_cells ok1 (.r (elemId C dst)) (l := s.data.toList.map fun b => V.p (byteV b)) (c := Lib.bytesCells σ.w (elemId C dst) s) (T := elemId C dst) (fr := ((Lib.bytesCells σ.w (elemId C dst) s).size, (Lib.bytesCells σ.w (elemId C dst) s).size + 1))
          ⟨by rw [hlen]; simp [Lib.bytesCells], fun T' hT' => (by cases hT'), fun T' hT' => ⟨by injection hT' with hT'; exact hT'.symm, .inr (Nat.le_refl _)⟩⟩ (by rw [hlen, hcs]; exact bytesVs _) (by intro y hy; obtain ⟨b, _, rfl⟩ := List.mem_map.1 hy; rfl) (by rw [hlen]; simp [Lib.bytesCells]; omega)
        refine ⟨.slice (some ⟨σ.w.heap.size, 0, none⟩) s.size (grownCap σ.w s.size 0 (elemId C dst)), τ, ?_, t2, t3, e1.trans t4, ?_⟩
        · rw [Lib.run_convert_string_bytes σ.w src dst (elemId C dst) s hsu hdu heu, bytesWorld_eq, t1]; rfl
        · have hge : s.size ≤ grownCap σ.w s.size 0 (elemId C dst) := grownCap_ge _ _ _ _
          have := RepV.row (σ := τ) (off := 0) (len := s.size) (s := 1) (c := grownCap σ.w s.size 0 (elemId C dst)) t5 hge ⟨Lib.bytesCells σ.w (elemId C dst) s, elemId C dst, ((Lib.bytesCells σ.w (elemId C dst) s).size, (Lib.bytesCells σ.w (elemId C dst) s).size + 1), by rw [t6, t1]; exact heap_push_new _ _, by simp [Lib.bytesCells]; omega⟩
          rw [t6] at this; exact this
      · exact (out_fail h).elim
    · exact (out_fail h).elim
theorem convertOp_sound (hT : TyOk C) (ok : σ.ok) {src dst : Nat} {x v : V} {xv : Value} {H' : AHeap} (hx : RepV σ x xv) (h : (convertOp C σ.H src dst x).out (v, H')) : Made C.P σ (convert src dst xv) v H' :=
  convertOp1_sound hT ok (rowOwn_rep hx) h
end
end Go.Abs
