/- digest.mix as a function of data. -/
import Derived.Test.YtpmejcfbnghaeaaGreatDoorT33
import Derived.Test.YtpmejcfbnghaeaaGreatDoorT21
import Derived.Test.YtpmejcfbnghaeaaGreatDoorT20
namespace Go.Abs
set_option linter.unusedVariables false
set_option maxRecDepth 100000
/-- The next word of a window of sixteen. -/
def ge : List Nat → Nat → Nat
  | [], _ => 0
  | a :: r, n => match n with
    | 0 => a
    | m + 1 => ge r m
theorem ge_eq : ∀ (l : List Nat) (n : Nat), ge l n = l.getD n 0
  | [], n => by simp [ge]
  | a :: r, 0 => rfl
  | a :: r, n + 1 => by rw [ge, ge_eq r n]; simp
def nextW (l : List Nat) : Nat := (ge l 0 + rotS (ge l 1) 7 18 3 + ge l 9 + rotS (ge l 14) 17 19 10) % 4294967296
def stepW (l : List Nat) : List Nat := match l with
  | a :: r => r ++ [nextW (a :: r)]
  | [] => []
def winW (s : ByteArray) : Nat → List Nat
  | 0 => (List.range 16).map (W16 s)
  | i + 1 => stepW (winW s i)
def wN (s : ByteArray) (i : Nat) : Nat := (winW s i).getD 0 0
theorem stepW_length {l : List Nat} (h : l.length = 16) : (stepW l).length = 16 := by
  cases l with
  | nil => cases h
  | cons a r => simp only [stepW, List.length_append, List.length_cons, List.length_nil] at h ⊢; omega
theorem winW_length (s : ByteArray) : ∀ i, (winW s i).length = 16
  | 0 => by simp [winW]
  | i + 1 => stepW_length (winW_length s i)
theorem stepW_get {l : List Nat} (h : l.length = 16) {m : Nat} (hm : m < 15) : (stepW l).getD m 0 = l.getD (m + 1) 0 := by
  cases l with
  | nil => cases h
  | cons a r =>
    simp only [stepW]
    have hr : r.length = 15 := by simpa using h
    rw [List.getD_eq_getElem?_getD, List.getElem?_append_left (by omega), List.getD_eq_getElem?_getD, List.getElem?_cons_succ]
theorem winW_get (s : ByteArray) : ∀ m i, m < 16 → (winW s i).getD m 0 = wN s (i + m)
  | 0, i, _ => rfl
  | m + 1, i, h => by
    have := winW_get s m (i + 1) (by omega)
    rw [show i + (m + 1) = i + 1 + m by omega, ← this]
    exact (stepW_get (winW_length s i) (by omega)).symm
theorem wN_first (s : ByteArray) (j : Nat) (hj : j < 16) : W16 s j = wN s j := by
  have := winW_get s j 0 hj
  rw [Nat.zero_add] at this
  rw [← this]
  rw [winW, List.getD_eq_getElem?_getD, List.getElem?_map, List.getElem?_range hj, Option.map_some, Option.getD_some]
theorem stepW_last {l : List Nat} (hl : l.length = 16) : (stepW l).getD 15 0 = nextW l := by
  cases l with
  | nil => cases hl
  | cons x r =>
    have hr : r.length = 15 := by simpa using hl
    rw [stepW, List.getD_eq_getElem?_getD, List.getElem?_append_right (by omega), hr, Nat.sub_self, List.getElem?_cons_zero, Option.getD_some]
theorem wN_step (s : ByteArray) (t : Nat) : (wN s t + rotS (wN s (t + 1)) 7 18 3 + wN s (t + 9) + rotS (wN s (t + 14)) 17 19 10) % 4294967296 = wN s (t + 16) := by
  have h15 := winW_get s 15 (t + 1) (by omega)
  rw [show t + 1 + 15 = t + 16 by omega, winW, stepW_last (winW_length s t)] at h15
  rw [← h15]
  have h0 := winW_get s 0 t (by omega)
  have h1 := winW_get s 1 t (by omega)
  have h9 := winW_get s 9 t (by omega)
  have h14 := winW_get s 14 t (by omega)
  rw [Nat.add_zero] at h0
  rw [nextW, ge_eq, ge_eq, ge_eq, ge_eq, h0, h1, h9, h14]
theorem rotS_lt (x a b c : Nat) (hx : x < 4294967296) : rotS x a b c < 4294967296 :=
  Nat.xor_lt_two_pow (n := 32) (Nat.xor_lt_two_pow (n := 32) (rotN_lt x a hx) (rotN_lt x b hx)) (Nat.lt_of_le_of_lt (Nat.div_le_self _ _) hx)
theorem wN_lt (s : ByteArray) (j : Nat) : wN s j < 4294967296 := by
  by_cases h : j < 16
  · rw [← wN_first s j h]; exact Nat.mod_lt _ (by omega)
  · obtain ⟨t, rfl⟩ : ∃ t, j = t + 16 := ⟨j - 16, by omega⟩
    rw [← wN_step]; exact Nat.mod_lt _ (by omega)
def vN (h : W8) (s : ByteArray) (k : Nat → Nat) : Nat → W8
  | 0 => h
  | i + 1 => round (vN h s k i) (k i) (wN s i)
theorem vN_lt {h : W8} (hh : h.lt) (s : ByteArray) (k : Nat → Nat) : ∀ i, (vN h s k i).lt
  | 0 => hh
  | i + 1 => round_lt _ _ _ (vN_lt hh s k i)
theorem mix_all (h : W8) (hh : h.lt) (k : Nat → Nat) (s : ByteArray) (hs : s.size = 64) :
    ACalls ctxR 223 [.p (.agg h.ds), .p (.rp ((List.range 64).map fun i => u32 (k i))), .p (.lit (.string s))] [] (fun r _ => r.toD = some (.agg (outW h (vN h s k 64)).ds)) :=
  mix_ok h (vN h s k) rfl k (wN s) (vN_lt hh s k) (fun i _ => rfl) s hs (fun j hj => wN_first s j hj) (wN_lt s) (fun i hi => by
    obtain ⟨t, rfl⟩ : ∃ t, i = t + 16 := ⟨i - 16, by omega⟩
    rw [show t + 16 - 16 = t by omega, show t + 16 - 15 = t + 1 by omega, show t + 16 - 7 = t + 9 by omega, show t + 16 - 2 = t + 14 by omega]
    exact wN_step s t)
/-! To be run -/
def f8 (v : W8) (k : W8 → W8) : W8 := match v with
  | ⟨a, b, c, d, e, f, g, h⟩ => k ⟨a, b, c, d, e, f, g, h⟩
/-- A number laid open. -/
def nf {α : Type} (n : Nat) (k : Nat → α) : α := match n with
  | 0 => k 0
  | m + 1 => k (Nat.succ m)
theorem nf_eq {α : Type} (n : Nat) (k : Nat → α) : nf n k = k n := by cases n <;> rfl
def lf {α : Type} : List Nat → (List Nat → α) → α
  | [], k => k []
  | a :: r, k => lf r fun r => k (a :: r)
theorem lf_eq {α : Type} : ∀ (l : List Nat) (k : List Nat → α), lf l k = k l
  | [], _ => rfl
  | a :: r, k => by rw [lf, lf_eq r]
def rnd (v : W8) (k w : Nat) (K : W8 → W8) : W8 :=
  nf (xN v k w) fun x => nf ((x + yN v) % 4294967296) fun a => nf ((v.d + x) % 4294967296) fun e => K ⟨a, v.a, v.b, v.c, e, v.e, v.f, v.g⟩
theorem rnd_eq (v : W8) (k w : Nat) (K : W8 → W8) : rnd v k w K = K (round v k w) := by
  simp only [rnd, nf_eq]; rfl
def runM : List Nat → W8 → List Nat → W8
  | [], v, _ => v
  | k :: ks, v, win => match win with
    | w :: r => rnd v k w fun v => nf (nextW (w :: r)) fun n => lf (r ++ [n]) fun win => runM ks v win
    | [] => v
theorem runM_eq (s : ByteArray) (h : W8) (k : Nat → Nat) : ∀ (ks : List Nat) (i : Nat), (∀ j, j < ks.length → ks.getD j 0 = k (i + j)) → runM ks (vN h s k i) (winW s i) = vN h s k (i + ks.length)
  | [], i, _ => rfl
  | c :: ks, i, hk => by
    have hl := winW_length s i
    cases hw : winW s i with
    | nil => rw [hw] at hl; cases hl
    | cons w r =>
      simp only [runM, rnd_eq, nf_eq, lf_eq]
      have h0 : k i = c := by have := hk 0 (by simp); simpa using this.symm
      have e1 : round (vN h s k i) c w = vN h s k (i + 1) := by
        show _ = round (vN h s k i) (k i) (wN s i)
        rw [h0]; unfold wN; rw [hw]; rfl
      have e2 : r ++ [nextW (w :: r)] = winW s (i + 1) := by
        show _ = stepW (winW s i)
        rw [hw]; rfl
      rw [e1, e2, runM_eq s h k ks (i + 1) (fun j hj => by
        have := hk (j + 1) (by simpa using hj)
        rw [show i + (j + 1) = i + 1 + j by omega] at this
        simpa using this)]
      congr 1
      simp only [List.length_cons]; omega
def dec32 : D → Option Nat
  | .lit (.int .u32 (.ofNat n)) => match Nat.blt n 4294967296 with
    | true => some n
    | false => none
  | _ => none
theorem dec32_eq {d : D} {n : Nat} (h : dec32 d = some n) : d = u32 n ∧ n < 4294967296 := by
  unfold dec32 at h
  split at h
  · split at h
    · rename_i hb
      injection h with h; subst h
      exact ⟨rfl, by simpa [Nat.blt_eq] using hb⟩
    · cases h
  · cases h
def decs : List D → Option (List Nat)
  | [] => some []
  | d :: r => match dec32 d with
    | some n => match decs r with
      | some l => some (n :: l)
      | none => none
    | none => none
theorem decs_eq : ∀ {ds : List D} {l : List Nat}, decs ds = some l → ds = l.map u32 ∧ ∀ n ∈ l, n < 4294967296
  | [], l, h => by injection h with h; subst h; exact ⟨rfl, fun n hn => by cases hn⟩
  | d :: r, l, h => by
    simp only [decs] at h
    split at h
    · rename_i n hn
      split at h
      · rename_i l' hl
        injection h with h; subst h
        obtain ⟨e1, e2⟩ := dec32_eq hn
        obtain ⟨e3, e4⟩ := decs_eq hl
        refine ⟨by rw [e1, e3]; rfl, fun m hm => ?_⟩
        rcases List.mem_cons.1 hm with rfl | hm
        · exact e2
        · exact e4 m hm
      · cases h
    · cases h
def first16 (s : ByteArray) : List Nat := (List.range 16).map (W16 s)
/-- Sixteen words of a text's bytes. -/
def words : List UInt8 → List Nat
  | a :: b :: c :: d :: r => (get4 a.toNat b.toNat c.toNat d.toNat % 4294967296) :: words r
  | _ => []
def mixF : List D → Option D
  | [.agg hs, .rp ks, .lit (.string s)] => match decs hs, decs ks with
    | some [a, b, c, d, e, f, g, h], some l => match Nat.beq l.length 64 && Nat.beq s.size 64 with
      | true => some (.agg (outW ⟨a, b, c, d, e, f, g, h⟩ (lf (words s.data.toList) fun w => runM l ⟨a, b, c, d, e, f, g, h⟩ w)).ds)
      | false => none
    | _, _ => none
  | _ => none
theorem words_eq (s : ByteArray) (hs : s.size = 64) : words s.data.toList = (List.range 16).map (W16 s) := by
  have key : ∀ (l : List UInt8) (n : Nat), l.length = 4 * n → words l = (List.range n).map fun i => (match (l.drop (4 * i)).take 4 with
      | [a, b, c, d] => get4 a.toNat b.toNat c.toNat d.toNat
      | _ => 0) % 4294967296 := by
    intro l n
    induction n generalizing l with
    | zero => intro h; cases l with
      | nil => rfl
      | cons => cases h
    | succ n ih =>
      intro h
      match l, h with
      | a :: b :: c :: d :: r, h =>
        have hr : r.length = 4 * n := by simp only [List.length_cons] at h; omega
        rw [words, ih r hr, List.range_succ_eq_map, List.map_cons, List.map_map]
        have e : ∀ i, (a :: b :: c :: d :: r).drop (4 * (i + 1)) = r.drop (4 * i) := fun i => by rw [show 4 * (i + 1) = 4 * i + 4 by omega]; simp only [List.drop_succ_cons]
        simp only [Function.comp_def, Nat.succ_eq_add_one, e]
        congr 1
  have hl : s.data.toList.length = 4 * 16 := by
    rw [Array.length_toList]; exact hs
  rw [key _ 16 hl]
  apply List.map_congr_left
  intro i hi
  unfold W16 getB
  have : (s.extract (4 * i) (4 * i + 4)).data.toList = (s.data.toList.drop (4 * i)).take 4 := by
    rw [ByteArray.data_extract, Array.toList_extract, List.extract_eq_take_drop, show 4 * i + 4 - 4 * i = 4 by omega]
  rw [this]
  congr 1
theorem mixF_ok (ds : List D) (d : D) (h : mixF ds = some d) : ACalls ctxR 223 (ds.map .p) [] fun r _ => r.toD = some d := by
  unfold mixF at h
  split at h
  · rename_i hs ks s
    split at h
    · rename_i a b c d' e f g h' l hh hk
      split at h
      · rename_i hb
        injection h with h; subst h
        rw [Bool.and_eq_true] at hb
        have hl : l.length = 64 := by simpa using hb.1
        have hsz : s.size = 64 := by simpa using hb.2
        obtain ⟨e1, e2⟩ := decs_eq hh
        obtain ⟨e3, e4⟩ := decs_eq hk
        have hlt : (⟨a, b, c, d', e, f, g, h'⟩ : W8).lt := ⟨e2 a (by simp), e2 b (by simp), e2 c (by simp), e2 d' (by simp), e2 e (by simp), e2 f (by simp), e2 g (by simp), e2 h' (by simp)⟩
        have hks : ks = (List.range 64).map fun i => u32 (l.getD i 0) := by
          rw [e3]
          apply List.ext_getElem?
          intro i
          simp only [List.getElem?_map]
          by_cases hi : i < 64
          · rw [List.getElem?_range hi, List.getElem?_eq_getElem (show i < l.length by omega)]
            simp [List.getD_eq_getElem?_getD, List.getElem?_eq_getElem (show i < l.length by omega)]
          · rw [List.getElem?_eq_none (show l.length ≤ i by omega), List.getElem?_eq_none (show (List.range 64).length ≤ i by simp; omega)]; rfl
        have hm := mix_all ⟨a, b, c, d', e, f, g, h'⟩ hlt (fun i => l.getD i 0) s hsz
        have hrun : (lf (words s.data.toList) fun w => runM l ⟨a, b, c, d', e, f, g, h'⟩ w) = vN ⟨a, b, c, d', e, f, g, h'⟩ s (fun i => l.getD i 0) 64 := by
          rw [lf_eq, words_eq s hsz]
          have := runM_eq s ⟨a, b, c, d', e, f, g, h'⟩ (fun i => l.getD i 0) l 0 (fun j _ => by rw [Nat.zero_add])
          rw [Nat.zero_add, hl] at this
          exact this
        rw [hrun, hks, e1]
        exact hm
      · cases h
    · cases h
  · cases h
end Go.Abs
/- slices.Clone at a slice that is empty. -/
namespace Go.Abs
set_option maxRecDepth 100000
def cloneF : List D → Option D
  | [.sl [] _] => some (.sl [] true)
  | _ => none
theorem clone102 (ds : List D) (d : D) (h : cloneF ds = some d) : ACalls ctxR 102 (ds.map .p) [] (fun r _ => r.toD = some d) := by
  unfold cloneF at h
  split at h
  · injection h with h; subst h
    rename_i full
    refine ACalls_of_awp ctxOkR (fn := Go.Proofs.Tryz.f102) (Ann.none 8 0) 60 (by kernel_rfl) rfl rfl rfl rfl ?_
    conv => whnf
    intro b
    cases b
    · conv => whnf
      rfl
    · conv => whnf
      rfl
  · cases h
theorem clone103 (ds : List D) (d : D) (h : cloneF ds = some d) : ACalls ctxR 103 (ds.map .p) [] (fun r _ => r.toD = some d) := by
  unfold cloneF at h
  split at h
  · injection h with h; subst h
    rename_i full
    refine ACalls_of_awp ctxOkR (fn := Go.Proofs.Tryz.f103) (Ann.none 8 0) 60 (by kernel_rfl) rfl rfl rfl rfl ?_
    conv => whnf
    intro b
    cases b
    · conv => whnf
      rfl
    · conv => whnf
      rfl
  · cases h
theorem clone104 (ds : List D) (d : D) (h : cloneF ds = some d) : ACalls ctxR 104 (ds.map .p) [] (fun r _ => r.toD = some d) := by
  unfold cloneF at h
  split at h
  · injection h with h; subst h
    rename_i full
    refine ACalls_of_awp ctxOkR (fn := Go.Proofs.Tryz.f104) (Ann.none 8 0) 60 (by kernel_rfl) rfl rfl rfl rfl ?_
    conv => whnf
    intro b
    cases b
    · conv => whnf
      rfl
    · conv => whnf
      rfl
  · cases h
theorem clone105 (ds : List D) (d : D) (h : cloneF ds = some d) : ACalls ctxR 105 (ds.map .p) [] (fun r _ => r.toD = some d) := by
  unfold cloneF at h
  split at h
  · injection h with h; subst h
    rename_i full
    refine ACalls_of_awp ctxOkR (fn := Go.Proofs.Tryz.f105) (Ann.none 8 0) 60 (by kernel_rfl) rfl rfl rfl rfl ?_
    conv => whnf
    intro b
    cases b
    · conv => whnf
      rfl
    · conv => whnf
      rfl
  · cases h
theorem clone167 (ds : List D) (d : D) (h : cloneF ds = some d) : ACalls ctxR 167 (ds.map .p) [] (fun r _ => r.toD = some d) := by
  unfold cloneF at h
  split at h
  · injection h with h; subst h
    rename_i full
    refine ACalls_of_awp ctxOkR (fn := Go.Proofs.Tryz.f167) (Ann.none 8 0) 60 (by kernel_rfl) rfl rfl rfl rfl ?_
    conv => whnf
    intro b
    cases b
    · conv => whnf
      rfl
    · conv => whnf
      rfl
  · cases h
theorem clone32 (ds : List D) (d : D) (h : cloneF ds = some d) : ACalls ctxR 32 (ds.map .p) [] (fun r _ => r.toD = some d) := by
  unfold cloneF at h
  split at h
  · injection h with h; subst h
    rename_i full
    refine ACalls_of_awp ctxOkR (fn := Go.Proofs.Tryz.f32) (Ann.none 8 0) 60 (by kernel_rfl) rfl rfl rfl rfl ?_
    conv => whnf
    intro b
    cases b
    · conv => whnf
      rfl
    · conv => whnf
      rfl
  · cases h
theorem clone61 (ds : List D) (d : D) (h : cloneF ds = some d) : ACalls ctxR 61 (ds.map .p) [] (fun r _ => r.toD = some d) := by
  unfold cloneF at h
  split at h
  · injection h with h; subst h
    rename_i full
    refine ACalls_of_awp ctxOkR (fn := Go.Proofs.Tryz.f61) (Ann.none 8 0) 60 (by kernel_rfl) rfl rfl rfl rfl ?_
    conv => whnf
    intro b
    cases b
    · conv => whnf
      rfl
    · conv => whnf
      rfl
  · cases h
end Go.Abs
