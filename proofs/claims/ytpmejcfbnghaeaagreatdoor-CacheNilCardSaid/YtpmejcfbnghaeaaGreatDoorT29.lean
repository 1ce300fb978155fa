/- What a step asks of the tape leaves the tape be. -/
import Derived.Laws.Sem
import Derived.ChangeAlike
import Derived.Test.YtpmejcfbnghaeaaGreatDoorT21
import Derived.Test.YtpmejcfbnghaeaaGreatDoorT20
import Derived.Tactics
import Derived.Tactics2
import Derived.StillTactics
import Derived.Laws.Rows
import Derived.Laws.Tables
import Derived.Laws.NewBlocks
import Derived.Laws.Strings
import Derived.Laws.Pointers
import Derived.Laws.World
import Derived.LoopTactic
import Derived.LoopN
import Derived.Laws.IdiomRangeMap
import Derived.WalkKit
namespace Go.Abs
theorem viewStore_tape {p : Program} {w : World} {a : Addr} {u : TypeId} {k : Addr} {v : Value} {at_ : Bool} {r : World × List Addr} (h : w.viewStore p a u k v at_ = .ok r) : r.1.tape = w.tape := by
  unfold World.viewStore at h
  simp only [bind, Except.bind, pure, Except.pure] at h
  repeat' split at h
  all_goals first
    | (cases h; done)
    | (injection h with h; subst h; rfl)
theorem farStore_tape {p : Program} {w : World} {a : Addr} {v : Value} {at_ : Bool} {r : World × List Addr} (h : w.farStore p a v at_ = .ok r) : r.1.tape = w.tape := by
  unfold World.farStore at h
  split at h
  · split at h
    · rename_i r' hr
      injection h with h
      subst h
      exact viewStore_tape hr
    · cases h
  · cases h
theorem sys_tape (w : World) (c : Sys) : (w.sys c).2.tape = w.tape := by
  have ask : ∀ {α : Type} (x : Ask α) (w : World), (w.ask x).2.tape = w.tape := by
    intro α x
    induction x with
    | done a => intro w; rfl
    | ask what range k ih =>
      intro w
      simp only [World.ask]
      split
      · exact ih _ _
      · rw [ih]
  unfold World.sys
  split
  · rfl
  · rename_i r os w' h
    have := ask (Kernel.perform c w.os) w
    rw [h] at this
    exact this
theorem setCell_tape (w : World) (a : Addr) (v : Value) : (w.setCell a v).tape = w.tape := by
  unfold World.setCell; rfl
theorem freeze_tape (w : World) (a : Addr) (n : Nat) : (w.freeze a n).tape = w.tape := by
  unfold World.freeze; split <;> rfl
theorem run_tape {P : Program} {α : Type} (m : Sem α) : ∀ {w w' : World} {a : α}, m.run P w = .ok a w' → w'.tape = w.tape := by
  induction m with
  | pure a => intro w w' b h; simp only [Sem.run] at h; injection h with _ h; rw [h]
  | load m a k ih =>
    intro w w' b h
    simp only [Sem.run] at h
    split at h
    · exact ih _ h
    · split at h
      · exact ih _ h
      · cases h
  | store m a v k ih =>
    intro w w' b h
    cases v <;> simp only [Sem.run] at h <;> first
      | (cases h; done)
      | (split at h
         · split at h
           · cases h
           · rw [ih h, setCell_tape]
         · split at h
           · rename_i w1 t hf
             rw [ih h]
             exact farStore_tape hf
           · cases h)
  | new o k ih => intro w w' b h; simp only [Sem.run] at h; rw [ih _ h]
  | shape r k ih => intro w w' b h; simp only [Sem.run] at h; exact ih _ h
  | freeze a n k ih => intro w w' b h; simp only [Sem.run] at h; rw [ih h, freeze_tape]
  | frozen a k ih => intro w w' b h; simp only [Sem.run] at h; exact ih _ h
  | getObj r k ih =>
    intro w w' b h
    simp only [Sem.run] at h
    split at h
    · cases h
    · exact ih _ h
    · cases h
  | setObj r o k ih =>
    intro w w' b h
    simp only [Sem.run] at h
    split at h
    · cases h
    · rw [ih h]
    · cases h
  | choose q k ih =>
    intro w w' b h
    simp only [Sem.run] at h
    split at h
    · exact ih _ h
    · rw [ih _ h]
  | sys c k ih => intro w w' b h; simp only [Sem.run] at h; rw [ih _ h, sys_tape]
  | program k ih => intro w w' b h; simp only [Sem.run] at h; exact ih _ h
  | mark m k ih => intro w w' b h; simp only [Sem.run] at h; exact ih h
  | halt x => intro w w' b h; simp only [Sem.run] at h; cases h
end Go.Abs
/- The disk's Used: a loop over a map, in whatever order: the texts' lengths are added up. -/
namespace Go.Abs
open Go.RowKit
/-- What the entries that were handed out add up to. -/
def seenF (f : MapEntry → Nat) : List MapEntry → Array Nat → Nat
  | [], _ => 0
  | x :: l, seen => (if seen.contains x.born then f x else 0) + seenF f l seen
theorem seenF_other (f : MapEntry → Nat) (seen : Array Nat) (b : Nat) : ∀ (es : List MapEntry), b ∉ es.map (·.born) → seenF f es (seen.push b) = seenF f es seen
  | [], _ => rfl
  | x :: l, h => by
    have hx : (x.born == b) = false := by
      cases hc : x.born == b with
      | false => rfl
      | true => exact absurd (List.mem_cons.2 (Or.inl (beq_iff_eq.1 hc).symm)) h
    have ih := seenF_other f seen b l (fun e => h (List.mem_cons.2 (Or.inr e)))
    simp only [seenF, contains_push, hx, Bool.or_false, ih]
theorem seenF_push (f : MapEntry → Nat) (seen : Array Nat) (e : MapEntry) (hs : seen.contains e.born = false) : ∀ (es : List MapEntry), (es.map (·.born)).Nodup → e ∈ es → seenF f es (seen.push e.born) = seenF f es seen + f e
  | x :: l, hn, he => by
    have hn' : x.born ∉ l.map (·.born) ∧ (l.map (·.born)).Nodup := List.nodup_cons.1 hn
    rcases List.mem_cons.1 he with rfl | h
    · simp only [seenF, contains_push, hs, beq_self_eq_true, Bool.or_true, if_true, Bool.false_eq_true, if_false, seenF_other f seen e.born l hn'.1]
      omega
    · have hx : (x.born == e.born) = false := by
        cases hc : x.born == e.born with
        | false => rfl
        | true => exact absurd (by rw [beq_iff_eq.1 hc]; exact List.mem_map.2 ⟨e, h, rfl⟩) hn'.1
      simp only [seenF, contains_push, hx, Bool.or_false, seenF_push f seen e hs l hn'.2 h]
      omega
theorem seenF_none (f : MapEntry → Nat) : ∀ (es : List MapEntry), seenF f es #[] = 0
  | [] => rfl
  | x :: l => by
    have : (#[] : Array Nat).contains x.born = false := by simp
    simp only [seenF, this, Bool.false_eq_true, if_false, seenF_none f l]
theorem seenF_full (f : MapEntry → Nat) (seen : Array Nat) : ∀ (es : List MapEntry), (∀ x ∈ es, seen.contains x.born = true) → seenF f es seen = (es.map f).sum
  | [], _ => rfl
  | x :: l, h => by
    simp only [seenF, h x (List.mem_cons_self ..), if_true, seenF_full f seen l (fun y hy => h y (List.mem_cons_of_mem _ hy)), List.map_cons, List.sum_cons]
theorem seenF_le (f : MapEntry → Nat) (seen : Array Nat) : ∀ (es : List MapEntry), seenF f es seen ≤ (es.map f).sum
  | [] => Nat.le_refl _
  | x :: l => by
    have ih := seenF_le f seen l
    simp only [seenF, List.map_cons, List.sum_cons]
    split <;> omega
theorem used_walk (b off bm : Nat) (es : Array MapEntry) (clock : Nat) (w : World) (hc : w.cell? ⟨b, off + 1, none⟩ = some (.map (some bm))) (hb : w.heap[bm]? = some (.map es clock)) (hst : MapKept.Stamped es clock)
    (len : MapEntry → Nat) (hv : ∀ x ∈ es.toList, ∃ n o s, x.val = .pointer (some ⟨n, o, none⟩) ∧ w.cell? ⟨n, o, none⟩ = some (.string s) ∧ s.size = len x) (hsum : (es.toList.map len).sum ≤ 9223372036854775807) :
    Calls Go.Proofs.Tryz.prog 175 #[.pointer (some ⟨b, off, none⟩)] w fun e w' => e = .returned (.int .i64 ((es.toList.map len).sum : Nat)) ∧ Below w.heap.size w w' := by
  have hrg := run_range_map (P := Go.Proofs.Tryz.prog) w 81 9 204 bm es clock Go.Proofs.Tryz.underlying81 hb
  go_enter Go.Proofs.Tryz.func175, Go.Proofs.Tryz.ntmps175
  go_wp2
  go_loopw [3] (fun s w' => ∃ (w1 : World) (seen : Array Nat), (w1.Alike w ∧ w1.tape = w.tape) ∧ w' = w1.alloc (.mapIter (some bm) clock seen clock) ∧ s = .int .i64 (seenF len es.toList seen : Nat)) (fun _ w' => (leftOf es (w'.iterSeen w.heap.size)).size)
  case atStart => exact ⟨w, #[], ⟨⟨rfl, rfl, rfl⟩, rfl⟩, rfl, by rw [seenF_none]; rfl⟩
  case round =>
    obtain ⟨w1, seen, ⟨hal, htp⟩, rfl, rfl⟩ := hrel
    have hsz : w1.heap.size = w.heap.size := by rw [hal.1]
    have hb1 : w1.heap[bm]? = some (.map es clock) := by rw [hal.1]; exact hb
    have law := run_next_map (P := Go.Proofs.Tryz.prog) w1 0 bm clock clock seen es clock hb1 hst.1 (Nat.le_refl _)
    rw [hsz] at law
    have hle := seenF_le len seen es.toList
    rcases law with ⟨h0, hrun⟩ | ⟨e, he, w2, hal2, hrun⟩
    · have hnx : ∀ ty, (Instr.next (.pointer (some ⟨w.heap.size, 0, none⟩)) false ty).run Go.Proofs.Tryz.prog (w1.alloc (.mapIter (some bm) clock seen clock)) = _ := fun _ => hrun
      go_wp2
      go_ret
      rw [seenF_full len seen _ (all_seen es seen h0)]
      refine ⟨rfl, hal.2.1, htp, hal.2.2, ?_, fun k hk => ?_⟩
      · show w.heap.size ≤ (w1.heap.push _).size
        rw [Array.size_push]; omega
      · rw [heap_alloc_old _ _ (by omega), hal.1]
    · obtain ⟨n, o, s, hval, hcell, hlen⟩ := hv e (mem_left he).1
      rw [hval] at hrun
      have hnx : ∀ ty, (Instr.next (.pointer (some ⟨w.heap.size, 0, none⟩)) false ty).run Go.Proofs.Tryz.prog (w1.alloc (.mapIter (some bm) clock seen clock)) = _ := fun _ => hrun
      have hsz2 : w2.heap.size = w.heap.size := by rw [hal2.1, hal.1]
      have hb2 : w2.heap[bm]? = some (.map es clock) := by rw [hal2.1]; exact hb1
      have hen := run_entry_map (P := Go.Proofs.Tryz.prog) w2 bm clock seen es clock e hb2 (mem_left he).1 hst.2.1
      rw [hsz2, hval] at hen
      have htp2 : w2.tape = w.tape := by
        have := run_tape _ hrun
        exact this.trans htp
      have hcell2 : (w2.alloc (.mapIter (some bm) clock (seen.push e.born) clock)).cell? ⟨n, o, none⟩ = some (.string s) := by
        have hn : n < w.heap.size := by
          rcases Nat.lt_or_ge n w.heap.size with h | h
          · exact h
          · simp [World.cell?, Array.getElem?_eq_none h] at hcell
        have hbk : (w2.alloc (.mapIter (some bm) clock (seen.push e.born) clock)).heap[n]? = w.heap[n]? := by rw [heap_alloc_old _ _ (by omega), hal2.1, hal.1]
        simp only [World.cell?, hbk] at hcell ⊢
        exact hcell
      have hpush := seenF_push len seen e (mem_left he).2 es.toList hst.2.1 (mem_left he).1
      have hle2 := seenF_le len (seen.push e.born) es.toList
      go_wp2
      go_roundw
      case rel =>
        refine ⟨w2, seen.push e.born, ⟨⟨hal2.1.trans hal.1, hal2.2.1.trans hal.2.1, hal2.2.2.trans hal.2.2⟩, htp2⟩, rfl, ?_⟩
        rw [hpush]
        congr 1
      case measure =>
        rw [← hsz2, World.iterSeen_alloc, hsz2, ← hsz, World.iterSeen_alloc]
        exact left_shrinks es seen e he
end Go.Abs
/- The disk's Used, as the interpreter wants it. -/
namespace Go.Abs
open Go.RowKit
set_option linter.unusedVariables false
/-- A cell of a block, where it is told. -/
def cellV (H : AHeap) (b ver i : Nat) : Option V := match objCells H[b]? ver with
  | some (_, cs) => cs[i]?
  | none => none
theorem cellV_at {σ : St} (ok : σ.ok) {b ver i : Nat} {v : V} (h : cellV σ.H b ver i = some v) : ∃ x, σ.w.cell? ⟨σ.ι b ver, i, none⟩ = some x ∧ RepV σ v x := by
  unfold cellV at h
  split at h
  · rename_i lz cs ho
    obtain ⟨-, c, T, fr, h1, h2, h3, -⟩ := ok.cellsAt ho
    have hlt : i < cs.length := (List.getElem?_eq_some_iff.1 h).1
    have key : ∀ (l : List V) (vs : List Value) (i : Nat) (v : V), RepVs σ l vs → l[i]? = some v → ∃ x, vs[i]? = some x ∧ RepV σ v x := by
      intro l
      induction l with
      | nil => intro vs i v _ hi; simp at hi
      | cons d r ih =>
        intro vs i v hr hi
        cases hr with
        | cons hd ht =>
          cases i with
          | zero => simp at hi; subst hi; exact ⟨_, rfl, hd⟩
          | succ j => exact ih _ j v ht (by simpa using hi)
    obtain ⟨x, hx, hr⟩ := key cs _ i v h3 h
    refine ⟨x, ?_, hr⟩
    rw [cell_of h1 i, ← hx, List.getElem?_take_of_lt hlt, Array.getElem?_toList]
  · cases h
/-- The lengths of texts to which pointers lead. -/
def textLens (H : AHeap) : List V → Option (List Nat)
  | [] => some []
  | .ptr b ver o :: r => match cellV H b ver o with
    | some (.p (.lit (.string s))) => match textLens H r with
      | some l => some (s.size :: l)
      | none => none
    | _ => none
  | _ :: _ => none
def natSum : List Nat → Nat
  | [] => 0
  | n :: r => n + natSum r
def usedOf (H : AHeap) (b ver off : Nat) : Option Nat := match cellV H b ver (off + 1) with
  | some (.mp mb) => match H[mb]? with
    | some (.map _ vs) => match textLens H vs with
      | some l => match Nat.ble (natSum l) 9223372036854775807 with
        | true => some (natSum l)
        | false => none
      | none => none
    | _ => none
  | _ => none
def usedL : List V → AHeap → Option (V × AHeap)
  | [.ptr b ver off], H => match usedOf H b ver off with
    | some n => some (.p (.lit (.int .i64 (Int.ofNat n))), H)
    | none => none
  | _, _ => none
theorem natSum_eq (l : List Nat) : natSum l = l.sum := by
  induction l with
  | nil => rfl
  | cons n r ih => simp [natSum, ih]
/-- What a state's world with blocks more behind it is. -/
theorem St.ok.belowS {σ : St} (ok : σ.ok) {w' : World} (h : Below σ.w.heap.size σ.w w') : ({ σ with w := w' } : St).ok ∧ Ext σ { σ with w := w' } := ok.below h
theorem MapOk.stamped {es : Array MapEntry} {clock : Nat} (h : MapOk es.toList clock) : MapKept.Stamped es clock := (MapKept.stamped_iff es clock).2 ⟨h.clock, by
  rw [List.Nodup, List.pairwise_map]; exact h.births, h.keys⟩
theorem RepV.int' {σ : St} (n : Nat) : RepV σ (.p (.lit (.int .i64 (Int.ofNat n)))) (.int .i64 (n : Nat)) := .p (.lit rfl)
/-- The length of the text to which a value leads. -/
def lenAt (w : World) (x : Value) : Nat := match x with
  | .pointer (some a) => match w.cell? a with
    | some (.string s) => s.size
    | _ => 0
  | _ => 0
theorem textLens_map {σ : St} (ok : σ.ok) : ∀ (vs : List V) (xs : List Value) (l : List Nat), RepVs σ vs xs → textLens σ.H vs = some l →
    xs.map (lenAt σ.w) = l ∧ ∀ x ∈ xs, ∃ n o s, x = .pointer (some ⟨n, o, none⟩) ∧ σ.w.cell? ⟨n, o, none⟩ = some (.string s) ∧ s.size = lenAt σ.w x := by
  intro vs
  induction vs with
  | nil =>
    intro xs l hr h
    cases hr
    injection h with h; subst h
    exact ⟨rfl, fun x hx => by cases hx⟩
  | cons v r ih =>
    intro xs l hr h
    cases hr with
    | @cons _ x _ xr hd ht =>
    cases v with
    | ptr b ver o =>
      simp only [textLens] at h
      cases hc : cellV σ.H b ver o with
      | none => rw [hc] at h; cases h
      | some y =>
        rw [hc] at h
        cases y with
        | p d =>
          cases d with
          | lit z =>
            cases z with
            | string s =>
              simp only at h
              cases ht' : textLens σ.H r with
              | none => rw [ht'] at h; cases h
              | some l' =>
                rw [ht'] at h
                simp only at h
                injection h with h; subst h
                obtain ⟨e1, e2⟩ := ih xr l' ht ht'
                obtain ⟨y, hy, hry⟩ := cellV_at ok hc
                cases hry with
                | p hry =>
                cases hry with
                | lit _ =>
                cases hd with
                | ptr hid =>
                  have hl : lenAt σ.w (.pointer (some ⟨σ.ι b ver, o, none⟩)) = s.size := by simp [lenAt, hy]
                  refine ⟨by rw [List.map_cons, hl, e1], fun z hz => ?_⟩
                  rcases List.mem_cons.1 hz with rfl | hz
                  · exact ⟨_, _, s, rfl, hy, hl.symm⟩
                  · exact e2 z hz
            | _ => cases h
          | _ => cases h
        | _ => cases h
    | _ => cases h
theorem used_ok {args : List V} {H : AHeap} {r : V} {H' : AHeap} (h : usedL args H = some (r, H')) : ACalls ctxR 175 args H (fun v K => v = r ∧ K = H') := by
  unfold usedL at h
  split at h
  · rename_i b ver off
    cases hu : usedOf H b ver off with
    | none => rw [hu] at h; cases h
    | some n =>
      rw [hu] at h
      simp only at h
      injection h with h; injection h with h1 h2; subst h1; subst h2
      intro σ vals hH ok hG hr
      subst hH
      cases hr with
      | cons hp ht =>
      cases ht
      cases hp with
      | ptr hid =>
      unfold usedOf at hu
      cases hc : cellV σ.H b ver (off + 1) with
      | none => rw [hc] at hu; cases hu
      | some y =>
        rw [hc] at hu
        cases y with
        | mp mb =>
          simp only at hu
          cases hm : σ.H[mb]? with
          | none => rw [hm] at hu; cases hu
          | some o =>
            rw [hm] at hu
            cases o with
            | map ks vs =>
              simp only at hu
              cases hl : textLens σ.H vs with
              | none => rw [hl] at hu; cases hu
              | some l =>
                rw [hl] at hu
                simp only at hu
                cases hb : Nat.ble (natSum l) 9223372036854775807 with
                | false => rw [hb] at hu; cases hu
                | true =>
                  rw [hb] at hu
                  simp only at hu
                  injection hu with hu; subst hu
                  obtain ⟨z, hz, hrz⟩ := cellV_at ok hc
                  cases hrz with
                  | mp hidm =>
                  obtain ⟨es, clock, L, e1, e2, e3, e4, e5, -⟩ := ok.objs mb _ hm
                  obtain ⟨f1, f2⟩ := textLens_map ok vs _ l e5 hl
                  have hperm : (es.toList.map fun e => lenAt σ.w e.val).sum = natSum l := by
                    rw [natSum_eq, ← f1, List.map_map]
                    exact (e3.map _).sum_nat.symm
                  have hble : natSum l ≤ 9223372036854775807 := by simpa [Nat.ble_eq] using hb
                  refine (used_walk (σ.ι b ver) off (σ.ι mb 0) es clock σ.w hz e1 e2.stamped (fun e => lenAt σ.w e.val) (fun x hx => ?_) (by rw [hperm]; exact hble)).mono fun e w' ⟨he, hbl⟩ => ?_
                  · obtain ⟨n, o, s, g1, g2, g3⟩ := f2 x.val (List.mem_map.2 ⟨x, e3.mem_iff.2 hx, rfl⟩)
                    exact ⟨n, o, s, g1, g2, g3⟩
                  · obtain ⟨p1, p2⟩ := ok.belowS hbl
                    rw [hperm] at he
                    exact ⟨_, _, { σ with w := w' }, he, rfl, ⟨rfl, rfl⟩, .p (.lit rfl), p1, p2⟩
            | _ => cases hu
        | _ => cases hu
  · cases h
end Go.Abs
