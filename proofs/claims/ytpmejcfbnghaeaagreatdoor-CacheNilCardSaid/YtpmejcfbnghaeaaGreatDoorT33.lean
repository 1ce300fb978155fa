/- The interpreter's texts: part of the proof that CacheNil answers true; no condition. -/
import Derived.Test.YtpmejcfbnghaeaaGreatDoorT32
namespace Go.Abs
set_option maxRecDepth 100000
set_option maxHeartbeats 40000000
theorem add4 (a b c d : Nat) : IntKind.u32.wrap (IntKind.u32.wrap (IntKind.u32.wrap ((a : Int) + (b : Int)) + (c : Int)) + (d : Int)) = (((a + b + c + d) % 4294967296 : Nat) : Int) := by
  rw [add32, add32, add32]
  congr 1
  omega
def cellsW (w : Nat → Nat) (i : Nat) : List V := (List.range 64).map fun j => .p (u32 (if j < i then w j else 0))
theorem set_cellsW (w : Nat → Nat) (i : Nat) : (cellsW w i).set i (.p (u32 (w i))) = cellsW w (i + 1) := by
  apply List.ext_getElem?
  intro j
  unfold cellsW
  rw [List.getElem?_set]
  by_cases hij : i = j
  · subst hij
    simp only [if_true, List.length_map, List.length_range, List.getElem?_map]
    by_cases hl : i < 64
    · rw [if_pos hl, List.getElem?_range hl]; simp
    · rw [if_neg hl, List.getElem?_eq_none (by simpa using hl)]; rfl
  · rw [if_neg hij]
    simp only [List.getElem?_map]
    by_cases hl : j < 64
    · rw [List.getElem?_range hl]
      simp only [Option.map_some]
      by_cases h : j < i
      · rw [if_pos h, if_pos (by omega)]
      · rw [if_neg h, if_neg (by omega)]
    · rw [List.getElem?_eq_none (by simpa using hl)]; rfl
def mixMd (id i : Nat) : Nat := match id with
  | 11 => match i with
    | 4 => 1 | 8 => 1 | 14 => 1 | 19 => 1 | 23 => 2 | _ => 0
  | 16 => match i with
    | 1 => 1 | 3 => 1 | 7 => 1 | 9 => 1 | 12 => 1 | 15 => 1 | 23 => 1 | 27 => 1 | _ => 0
  | 17 => match i with
    | 1 => 1 | 4 => 1 | 6 => 1 | 9 => 1 | 11 => 1 | 13 => 1 | _ => 0
  | 18 => match i with
    | 2 => 2 | _ => 0
  | 25 => match i with
    | 2 => 1 | 5 => 1 | 8 => 2 | _ => 0
  | _ => 0
def mixA : Ann := ⟨140, 0, fun _ => [], mixMd⟩
def outW (h v : W8) : W8 := ⟨(h.a + v.a) % 4294967296, (h.b + v.b) % 4294967296, (h.c + v.c) % 4294967296, (h.d + v.d) % 4294967296, (h.e + v.e) % 4294967296, (h.f + v.f) % 4294967296, (h.g + v.g) % 4294967296, (h.h + v.h) % 4294967296⟩
theorem mix_ok (h : W8) (v : Nat → W8) (hv0 : v 0 = h) (k w : Nat → Nat) (hv : ∀ i, (v i).lt) (hr : ∀ i, i < 64 → v (i + 1) = round (v i) (k i) (w i)) (s : ByteArray) (hs : s.size = 64) (h16 : ∀ j, j < 16 → getB (s.extract (4 * j) (4 * j + 4)) % 4294967296 = w j) (hlt : ∀ j, w j < 4294967296)
    (hstep : ∀ i, 16 ≤ i → (w (i - 16) + rotS (w (i - 15)) 7 18 3 + w (i - 7) + rotS (w (i - 2)) 17 19 10) % 4294967296 = w i) :
    ACalls ctxR 223 [.p (.agg h.ds), .p (.rp ((List.range 64).map fun i => u32 (k i))), .p (.lit (.string s))] [] (fun r _ => r.toD = some (.agg (outW h (v 64)).ds)) := by
  refine ACalls_of_awp ctxOkR (fn := Go.Proofs.Tryz.f223) mixA 80 (by kernel_rfl) rfl rfl rfl rfl ?_
  conv => whnf
  refine .inr ⟨{ i : Nat // i ≤ 16 }, fun i => [(1, .p (.rp ((List.range 64).map fun i => u32 (k i)))), (2, .p (.lit (.string s))), (3, .ptr 0 0 0), (6, .ptr 1 0 0), (7, .ptr 2 0 0), (17, .p (i64 i))],
    fun i => [.cells (.t 299) 0 (h.ds.map .p), .cells (.t 299) 0 (List.replicate 8 (.p (u32 0))), .cells (.t 301) 0 (cellsW w i)], fun i => 16 - i.1, ⟨0, by omega⟩, ?_, ?_, ?_⟩
  · exact SubE.of ⟨rfl, rfl, rfl, rfl, rfl, rfl, trivial⟩
  · rfl
  · rintro ⟨i, hi⟩
    have : i = 0 ∨ i = 1 ∨ i = 2 ∨ i = 3 ∨ i = 4 ∨ i = 5 ∨ i = 6 ∨ i = 7 ∨ i = 8 ∨ i = 9 ∨ i = 10 ∨ i = 11 ∨ i = 12 ∨ i = 13 ∨ i = 14 ∨ i = 15 ∨ i = 16 := by omega
    rcases this with rfl | rfl | rfl | rfl | rfl | rfl | rfl | rfl | rfl | rfl | rfl | rfl | rfl | rfl | rfl | rfl | rfl
    · conv => whnf
      refine chk_of (by dsimp only; rw [hs]; decide) ?_
      conv => whnf
      refine .inl ⟨_, rfl, (getB_ok _ (by rw [ByteArray.size_extract, hs]; rfl)).mono fun r _ hr => ⟨_, hr, ?_⟩⟩
      conv => whnf
      refine ⟨⟨1, by omega⟩, by dsimp only; omega, SubE.of ⟨rfl, rfl, rfl, rfl, rfl, rfl, trivial⟩, ?_⟩
      show [_, _, AObj.cells (.t 301) 0 (cellsW w 1)] = [_, _, AObj.cells (.t 301) 0 ((cellsW w 0).set 0 (.p (.lit (.int .u32 (IntKind.u32.wrap ((getB (s.extract (4 * 0) (4 * 0 + 4)) : Nat) : Int))))))]
      rw [wrap32, h16 0 (by omega)]
      exact congrArg (fun z => [_, _, AObj.cells (.t 301) 0 z]) (set_cellsW w 0).symm
    · conv => whnf
      refine chk_of (by dsimp only; rw [hs]; decide) ?_
      conv => whnf
      refine .inl ⟨_, rfl, (getB_ok _ (by rw [ByteArray.size_extract, hs]; rfl)).mono fun r _ hr => ⟨_, hr, ?_⟩⟩
      conv => whnf
      refine ⟨⟨2, by omega⟩, by dsimp only; omega, SubE.of ⟨rfl, rfl, rfl, rfl, rfl, rfl, trivial⟩, ?_⟩
      show [_, _, AObj.cells (.t 301) 0 (cellsW w 2)] = [_, _, AObj.cells (.t 301) 0 ((cellsW w 1).set 1 (.p (.lit (.int .u32 (IntKind.u32.wrap ((getB (s.extract (4 * 1) (4 * 1 + 4)) : Nat) : Int))))))]
      rw [wrap32, h16 1 (by omega)]
      exact congrArg (fun z => [_, _, AObj.cells (.t 301) 0 z]) (set_cellsW w 1).symm
    · conv => whnf
      refine chk_of (by dsimp only; rw [hs]; decide) ?_
      conv => whnf
      refine .inl ⟨_, rfl, (getB_ok _ (by rw [ByteArray.size_extract, hs]; rfl)).mono fun r _ hr => ⟨_, hr, ?_⟩⟩
      conv => whnf
      refine ⟨⟨3, by omega⟩, by dsimp only; omega, SubE.of ⟨rfl, rfl, rfl, rfl, rfl, rfl, trivial⟩, ?_⟩
      show [_, _, AObj.cells (.t 301) 0 (cellsW w 3)] = [_, _, AObj.cells (.t 301) 0 ((cellsW w 2).set 2 (.p (.lit (.int .u32 (IntKind.u32.wrap ((getB (s.extract (4 * 2) (4 * 2 + 4)) : Nat) : Int))))))]
      rw [wrap32, h16 2 (by omega)]
      exact congrArg (fun z => [_, _, AObj.cells (.t 301) 0 z]) (set_cellsW w 2).symm
    · conv => whnf
      refine chk_of (by dsimp only; rw [hs]; decide) ?_
      conv => whnf
      refine .inl ⟨_, rfl, (getB_ok _ (by rw [ByteArray.size_extract, hs]; rfl)).mono fun r _ hr => ⟨_, hr, ?_⟩⟩
      conv => whnf
      refine ⟨⟨4, by omega⟩, by dsimp only; omega, SubE.of ⟨rfl, rfl, rfl, rfl, rfl, rfl, trivial⟩, ?_⟩
      show [_, _, AObj.cells (.t 301) 0 (cellsW w 4)] = [_, _, AObj.cells (.t 301) 0 ((cellsW w 3).set 3 (.p (.lit (.int .u32 (IntKind.u32.wrap ((getB (s.extract (4 * 3) (4 * 3 + 4)) : Nat) : Int))))))]
      rw [wrap32, h16 3 (by omega)]
      exact congrArg (fun z => [_, _, AObj.cells (.t 301) 0 z]) (set_cellsW w 3).symm
    · conv => whnf
      refine chk_of (by dsimp only; rw [hs]; decide) ?_
      conv => whnf
      refine .inl ⟨_, rfl, (getB_ok _ (by rw [ByteArray.size_extract, hs]; rfl)).mono fun r _ hr => ⟨_, hr, ?_⟩⟩
      conv => whnf
      refine ⟨⟨5, by omega⟩, by dsimp only; omega, SubE.of ⟨rfl, rfl, rfl, rfl, rfl, rfl, trivial⟩, ?_⟩
      show [_, _, AObj.cells (.t 301) 0 (cellsW w 5)] = [_, _, AObj.cells (.t 301) 0 ((cellsW w 4).set 4 (.p (.lit (.int .u32 (IntKind.u32.wrap ((getB (s.extract (4 * 4) (4 * 4 + 4)) : Nat) : Int))))))]
      rw [wrap32, h16 4 (by omega)]
      exact congrArg (fun z => [_, _, AObj.cells (.t 301) 0 z]) (set_cellsW w 4).symm
    · conv => whnf
      refine chk_of (by dsimp only; rw [hs]; decide) ?_
      conv => whnf
      refine .inl ⟨_, rfl, (getB_ok _ (by rw [ByteArray.size_extract, hs]; rfl)).mono fun r _ hr => ⟨_, hr, ?_⟩⟩
      conv => whnf
      refine ⟨⟨6, by omega⟩, by dsimp only; omega, SubE.of ⟨rfl, rfl, rfl, rfl, rfl, rfl, trivial⟩, ?_⟩
      show [_, _, AObj.cells (.t 301) 0 (cellsW w 6)] = [_, _, AObj.cells (.t 301) 0 ((cellsW w 5).set 5 (.p (.lit (.int .u32 (IntKind.u32.wrap ((getB (s.extract (4 * 5) (4 * 5 + 4)) : Nat) : Int))))))]
      rw [wrap32, h16 5 (by omega)]
      exact congrArg (fun z => [_, _, AObj.cells (.t 301) 0 z]) (set_cellsW w 5).symm
    · conv => whnf
      refine chk_of (by dsimp only; rw [hs]; decide) ?_
      conv => whnf
      refine .inl ⟨_, rfl, (getB_ok _ (by rw [ByteArray.size_extract, hs]; rfl)).mono fun r _ hr => ⟨_, hr, ?_⟩⟩
      conv => whnf
      refine ⟨⟨7, by omega⟩, by dsimp only; omega, SubE.of ⟨rfl, rfl, rfl, rfl, rfl, rfl, trivial⟩, ?_⟩
      show [_, _, AObj.cells (.t 301) 0 (cellsW w 7)] = [_, _, AObj.cells (.t 301) 0 ((cellsW w 6).set 6 (.p (.lit (.int .u32 (IntKind.u32.wrap ((getB (s.extract (4 * 6) (4 * 6 + 4)) : Nat) : Int))))))]
      rw [wrap32, h16 6 (by omega)]
      exact congrArg (fun z => [_, _, AObj.cells (.t 301) 0 z]) (set_cellsW w 6).symm
    · conv => whnf
      refine chk_of (by dsimp only; rw [hs]; decide) ?_
      conv => whnf
      refine .inl ⟨_, rfl, (getB_ok _ (by rw [ByteArray.size_extract, hs]; rfl)).mono fun r _ hr => ⟨_, hr, ?_⟩⟩
      conv => whnf
      refine ⟨⟨8, by omega⟩, by dsimp only; omega, SubE.of ⟨rfl, rfl, rfl, rfl, rfl, rfl, trivial⟩, ?_⟩
      show [_, _, AObj.cells (.t 301) 0 (cellsW w 8)] = [_, _, AObj.cells (.t 301) 0 ((cellsW w 7).set 7 (.p (.lit (.int .u32 (IntKind.u32.wrap ((getB (s.extract (4 * 7) (4 * 7 + 4)) : Nat) : Int))))))]
      rw [wrap32, h16 7 (by omega)]
      exact congrArg (fun z => [_, _, AObj.cells (.t 301) 0 z]) (set_cellsW w 7).symm
    · conv => whnf
      refine chk_of (by dsimp only; rw [hs]; decide) ?_
      conv => whnf
      refine .inl ⟨_, rfl, (getB_ok _ (by rw [ByteArray.size_extract, hs]; rfl)).mono fun r _ hr => ⟨_, hr, ?_⟩⟩
      conv => whnf
      refine ⟨⟨9, by omega⟩, by dsimp only; omega, SubE.of ⟨rfl, rfl, rfl, rfl, rfl, rfl, trivial⟩, ?_⟩
      show [_, _, AObj.cells (.t 301) 0 (cellsW w 9)] = [_, _, AObj.cells (.t 301) 0 ((cellsW w 8).set 8 (.p (.lit (.int .u32 (IntKind.u32.wrap ((getB (s.extract (4 * 8) (4 * 8 + 4)) : Nat) : Int))))))]
      rw [wrap32, h16 8 (by omega)]
      exact congrArg (fun z => [_, _, AObj.cells (.t 301) 0 z]) (set_cellsW w 8).symm
    · conv => whnf
      refine chk_of (by dsimp only; rw [hs]; decide) ?_
      conv => whnf
      refine .inl ⟨_, rfl, (getB_ok _ (by rw [ByteArray.size_extract, hs]; rfl)).mono fun r _ hr => ⟨_, hr, ?_⟩⟩
      conv => whnf
      refine ⟨⟨10, by omega⟩, by dsimp only; omega, SubE.of ⟨rfl, rfl, rfl, rfl, rfl, rfl, trivial⟩, ?_⟩
      show [_, _, AObj.cells (.t 301) 0 (cellsW w 10)] = [_, _, AObj.cells (.t 301) 0 ((cellsW w 9).set 9 (.p (.lit (.int .u32 (IntKind.u32.wrap ((getB (s.extract (4 * 9) (4 * 9 + 4)) : Nat) : Int))))))]
      rw [wrap32, h16 9 (by omega)]
      exact congrArg (fun z => [_, _, AObj.cells (.t 301) 0 z]) (set_cellsW w 9).symm
    · conv => whnf
      refine chk_of (by dsimp only; rw [hs]; decide) ?_
      conv => whnf
      refine .inl ⟨_, rfl, (getB_ok _ (by rw [ByteArray.size_extract, hs]; rfl)).mono fun r _ hr => ⟨_, hr, ?_⟩⟩
      conv => whnf
      refine ⟨⟨11, by omega⟩, by dsimp only; omega, SubE.of ⟨rfl, rfl, rfl, rfl, rfl, rfl, trivial⟩, ?_⟩
      show [_, _, AObj.cells (.t 301) 0 (cellsW w 11)] = [_, _, AObj.cells (.t 301) 0 ((cellsW w 10).set 10 (.p (.lit (.int .u32 (IntKind.u32.wrap ((getB (s.extract (4 * 10) (4 * 10 + 4)) : Nat) : Int))))))]
      rw [wrap32, h16 10 (by omega)]
      exact congrArg (fun z => [_, _, AObj.cells (.t 301) 0 z]) (set_cellsW w 10).symm
    · conv => whnf
      refine chk_of (by dsimp only; rw [hs]; decide) ?_
      conv => whnf
      refine .inl ⟨_, rfl, (getB_ok _ (by rw [ByteArray.size_extract, hs]; rfl)).mono fun r _ hr => ⟨_, hr, ?_⟩⟩
      conv => whnf
      refine ⟨⟨12, by omega⟩, by dsimp only; omega, SubE.of ⟨rfl, rfl, rfl, rfl, rfl, rfl, trivial⟩, ?_⟩
      show [_, _, AObj.cells (.t 301) 0 (cellsW w 12)] = [_, _, AObj.cells (.t 301) 0 ((cellsW w 11).set 11 (.p (.lit (.int .u32 (IntKind.u32.wrap ((getB (s.extract (4 * 11) (4 * 11 + 4)) : Nat) : Int))))))]
      rw [wrap32, h16 11 (by omega)]
      exact congrArg (fun z => [_, _, AObj.cells (.t 301) 0 z]) (set_cellsW w 11).symm
    · conv => whnf
      refine chk_of (by dsimp only; rw [hs]; decide) ?_
      conv => whnf
      refine .inl ⟨_, rfl, (getB_ok _ (by rw [ByteArray.size_extract, hs]; rfl)).mono fun r _ hr => ⟨_, hr, ?_⟩⟩
      conv => whnf
      refine ⟨⟨13, by omega⟩, by dsimp only; omega, SubE.of ⟨rfl, rfl, rfl, rfl, rfl, rfl, trivial⟩, ?_⟩
      show [_, _, AObj.cells (.t 301) 0 (cellsW w 13)] = [_, _, AObj.cells (.t 301) 0 ((cellsW w 12).set 12 (.p (.lit (.int .u32 (IntKind.u32.wrap ((getB (s.extract (4 * 12) (4 * 12 + 4)) : Nat) : Int))))))]
      rw [wrap32, h16 12 (by omega)]
      exact congrArg (fun z => [_, _, AObj.cells (.t 301) 0 z]) (set_cellsW w 12).symm
    · conv => whnf
      refine chk_of (by dsimp only; rw [hs]; decide) ?_
      conv => whnf
      refine .inl ⟨_, rfl, (getB_ok _ (by rw [ByteArray.size_extract, hs]; rfl)).mono fun r _ hr => ⟨_, hr, ?_⟩⟩
      conv => whnf
      refine ⟨⟨14, by omega⟩, by dsimp only; omega, SubE.of ⟨rfl, rfl, rfl, rfl, rfl, rfl, trivial⟩, ?_⟩
      show [_, _, AObj.cells (.t 301) 0 (cellsW w 14)] = [_, _, AObj.cells (.t 301) 0 ((cellsW w 13).set 13 (.p (.lit (.int .u32 (IntKind.u32.wrap ((getB (s.extract (4 * 13) (4 * 13 + 4)) : Nat) : Int))))))]
      rw [wrap32, h16 13 (by omega)]
      exact congrArg (fun z => [_, _, AObj.cells (.t 301) 0 z]) (set_cellsW w 13).symm
    · conv => whnf
      refine chk_of (by dsimp only; rw [hs]; decide) ?_
      conv => whnf
      refine .inl ⟨_, rfl, (getB_ok _ (by rw [ByteArray.size_extract, hs]; rfl)).mono fun r _ hr => ⟨_, hr, ?_⟩⟩
      conv => whnf
      refine ⟨⟨15, by omega⟩, by dsimp only; omega, SubE.of ⟨rfl, rfl, rfl, rfl, rfl, rfl, trivial⟩, ?_⟩
      show [_, _, AObj.cells (.t 301) 0 (cellsW w 15)] = [_, _, AObj.cells (.t 301) 0 ((cellsW w 14).set 14 (.p (.lit (.int .u32 (IntKind.u32.wrap ((getB (s.extract (4 * 14) (4 * 14 + 4)) : Nat) : Int))))))]
      rw [wrap32, h16 14 (by omega)]
      exact congrArg (fun z => [_, _, AObj.cells (.t 301) 0 z]) (set_cellsW w 14).symm
    · conv => whnf
      refine chk_of (by dsimp only; rw [hs]; decide) ?_
      conv => whnf
      refine .inl ⟨_, rfl, (getB_ok _ (by rw [ByteArray.size_extract, hs]; rfl)).mono fun r _ hr => ⟨_, hr, ?_⟩⟩
      conv => whnf
      refine ⟨⟨16, by omega⟩, by dsimp only; omega, SubE.of ⟨rfl, rfl, rfl, rfl, rfl, rfl, trivial⟩, ?_⟩
      show [_, _, AObj.cells (.t 301) 0 (cellsW w 16)] = [_, _, AObj.cells (.t 301) 0 ((cellsW w 15).set 15 (.p (.lit (.int .u32 (IntKind.u32.wrap ((getB (s.extract (4 * 15) (4 * 15 + 4)) : Nat) : Int))))))]
      rw [wrap32, h16 15 (by omega)]
      exact congrArg (fun z => [_, _, AObj.cells (.t 301) 0 z]) (set_cellsW w 15).symm
    · conv => whnf
      refine .inr ⟨{ i : Nat // 16 ≤ i ∧ i ≤ 64 }, fun i => [(1, .p (.rp ((List.range 64).map fun i => u32 (k i)))), (3, .ptr 0 0 0), (6, .ptr 1 0 0), (7, .ptr 2 0 0), (11, .p (i64 i))],
        fun i => [.cells (.t 299) 0 (h.ds.map .p), .cells (.t 299) 0 (List.replicate 8 (.p (u32 0))), .cells (.t 301) 0 (cellsW w i)], fun i => 64 - i.1, ⟨16, by omega, by omega⟩, ?_, ?_, ?_⟩
      · exact SubE.of ⟨rfl, rfl, rfl, rfl, rfl, trivial⟩
      · rfl
      · rintro ⟨i, hi⟩
        have : i = 16 ∨ i = 17 ∨ i = 18 ∨ i = 19 ∨ i = 20 ∨ i = 21 ∨ i = 22 ∨ i = 23 ∨ i = 24 ∨ i = 25 ∨ i = 26 ∨ i = 27 ∨ i = 28 ∨ i = 29 ∨ i = 30 ∨ i = 31 ∨ i = 32 ∨ i = 33 ∨ i = 34 ∨ i = 35 ∨ i = 36 ∨ i = 37 ∨ i = 38 ∨ i = 39 ∨ i = 40 ∨ i = 41 ∨ i = 42 ∨ i = 43 ∨ i = 44 ∨ i = 45 ∨ i = 46 ∨ i = 47 ∨ i = 48 ∨ i = 49 ∨ i = 50 ∨ i = 51 ∨ i = 52 ∨ i = 53 ∨ i = 54 ∨ i = 55 ∨ i = 56 ∨ i = 57 ∨ i = 58 ∨ i = 59 ∨ i = 60 ∨ i = 61 ∨ i = 62 ∨ i = 63 ∨ i = 64 := by omega
        rcases this with rfl | rfl | rfl | rfl | rfl | rfl | rfl | rfl | rfl | rfl | rfl | rfl | rfl | rfl | rfl | rfl | rfl | rfl | rfl | rfl | rfl | rfl | rfl | rfl | rfl | rfl | rfl | rfl | rfl | rfl | rfl | rfl | rfl | rfl | rfl | rfl | rfl | rfl | rfl | rfl | rfl | rfl | rfl | rfl | rfl | rfl | rfl | rfl | rfl
        · conv => whnf
          refine ⟨by kernel_rfl, ?_⟩
          conv => whnf
          refine ⟨rfl, ?_⟩
          conv => whnf
          refine ⟨rfl, ?_⟩
          conv => whnf
          refine ⟨_, _, rfl, rotA (w 1) (hlt 1), ?_⟩
          conv => whnf
          refine ⟨rfl, ?_⟩
          conv => whnf
          refine ⟨rfl, ?_⟩
          conv => whnf
          refine ⟨_, _, rfl, rotB (w 14) (hlt 14), ?_⟩
          conv => whnf
          refine ⟨⟨17, by omega, by omega⟩, by dsimp only; omega, SubE.of ⟨rfl, rfl, rfl, rfl, rfl, trivial⟩, ?_⟩
          show [_, _, AObj.cells (.t 301) 0 (cellsW w 17)] = [_, _, AObj.cells (.t 301) 0 ((cellsW w 16).set 16 (.p (.lit (.int .u32 (IntKind.u32.wrap (IntKind.u32.wrap (IntKind.u32.wrap (((w 0 : Nat) : Int) + ((rotS (w 1) 7 18 3 : Nat) : Int)) + ((w 9 : Nat) : Int)) + ((rotS (w 14) 17 19 10 : Nat) : Int)))))))]
          rw [add4, hstep 16 (by omega)]
          exact congrArg (fun z => [_, _, AObj.cells (.t 301) 0 z]) (set_cellsW w 16).symm
        · conv => whnf
          refine ⟨by kernel_rfl, ?_⟩
          conv => whnf
          refine ⟨rfl, ?_⟩
          conv => whnf
          refine ⟨rfl, ?_⟩
          conv => whnf
          refine ⟨_, _, rfl, rotA (w 2) (hlt 2), ?_⟩
          conv => whnf
          refine ⟨rfl, ?_⟩
          conv => whnf
          refine ⟨rfl, ?_⟩
          conv => whnf
          refine ⟨_, _, rfl, rotB (w 15) (hlt 15), ?_⟩
          conv => whnf
          refine ⟨⟨18, by omega, by omega⟩, by dsimp only; omega, SubE.of ⟨rfl, rfl, rfl, rfl, rfl, trivial⟩, ?_⟩
          show [_, _, AObj.cells (.t 301) 0 (cellsW w 18)] = [_, _, AObj.cells (.t 301) 0 ((cellsW w 17).set 17 (.p (.lit (.int .u32 (IntKind.u32.wrap (IntKind.u32.wrap (IntKind.u32.wrap (((w 1 : Nat) : Int) + ((rotS (w 2) 7 18 3 : Nat) : Int)) + ((w 10 : Nat) : Int)) + ((rotS (w 15) 17 19 10 : Nat) : Int)))))))]
          rw [add4, hstep 17 (by omega)]
          exact congrArg (fun z => [_, _, AObj.cells (.t 301) 0 z]) (set_cellsW w 17).symm
        · conv => whnf
          refine ⟨by kernel_rfl, ?_⟩
          conv => whnf
          refine ⟨rfl, ?_⟩
          conv => whnf
          refine ⟨rfl, ?_⟩
          conv => whnf
          refine ⟨_, _, rfl, rotA (w 3) (hlt 3), ?_⟩
          conv => whnf
          refine ⟨rfl, ?_⟩
          conv => whnf
          refine ⟨rfl, ?_⟩
          conv => whnf
          refine ⟨_, _, rfl, rotB (w 16) (hlt 16), ?_⟩
          conv => whnf
          refine ⟨⟨19, by omega, by omega⟩, by dsimp only; omega, SubE.of ⟨rfl, rfl, rfl, rfl, rfl, trivial⟩, ?_⟩
          show [_, _, AObj.cells (.t 301) 0 (cellsW w 19)] = [_, _, AObj.cells (.t 301) 0 ((cellsW w 18).set 18 (.p (.lit (.int .u32 (IntKind.u32.wrap (IntKind.u32.wrap (IntKind.u32.wrap (((w 2 : Nat) : Int) + ((rotS (w 3) 7 18 3 : Nat) : Int)) + ((w 11 : Nat) : Int)) + ((rotS (w 16) 17 19 10 : Nat) : Int)))))))]
          rw [add4, hstep 18 (by omega)]
          exact congrArg (fun z => [_, _, AObj.cells (.t 301) 0 z]) (set_cellsW w 18).symm
        · conv => whnf
          refine ⟨by kernel_rfl, ?_⟩
          conv => whnf
          refine ⟨rfl, ?_⟩
          conv => whnf
          refine ⟨rfl, ?_⟩
          conv => whnf
          refine ⟨_, _, rfl, rotA (w 4) (hlt 4), ?_⟩
          conv => whnf
          refine ⟨rfl, ?_⟩
          conv => whnf
          refine ⟨rfl, ?_⟩
          conv => whnf
          refine ⟨_, _, rfl, rotB (w 17) (hlt 17), ?_⟩
          conv => whnf
          refine ⟨⟨20, by omega, by omega⟩, by dsimp only; omega, SubE.of ⟨rfl, rfl, rfl, rfl, rfl, trivial⟩, ?_⟩
          show [_, _, AObj.cells (.t 301) 0 (cellsW w 20)] = [_, _, AObj.cells (.t 301) 0 ((cellsW w 19).set 19 (.p (.lit (.int .u32 (IntKind.u32.wrap (IntKind.u32.wrap (IntKind.u32.wrap (((w 3 : Nat) : Int) + ((rotS (w 4) 7 18 3 : Nat) : Int)) + ((w 12 : Nat) : Int)) + ((rotS (w 17) 17 19 10 : Nat) : Int)))))))]
          rw [add4, hstep 19 (by omega)]
          exact congrArg (fun z => [_, _, AObj.cells (.t 301) 0 z]) (set_cellsW w 19).symm
        · conv => whnf
          refine ⟨by kernel_rfl, ?_⟩
          conv => whnf
          refine ⟨rfl, ?_⟩
          conv => whnf
          refine ⟨rfl, ?_⟩
          conv => whnf
          refine ⟨_, _, rfl, rotA (w 5) (hlt 5), ?_⟩
          conv => whnf
          refine ⟨rfl, ?_⟩
          conv => whnf
          refine ⟨rfl, ?_⟩
          conv => whnf
          refine ⟨_, _, rfl, rotB (w 18) (hlt 18), ?_⟩
          conv => whnf
          refine ⟨⟨21, by omega, by omega⟩, by dsimp only; omega, SubE.of ⟨rfl, rfl, rfl, rfl, rfl, trivial⟩, ?_⟩
          show [_, _, AObj.cells (.t 301) 0 (cellsW w 21)] = [_, _, AObj.cells (.t 301) 0 ((cellsW w 20).set 20 (.p (.lit (.int .u32 (IntKind.u32.wrap (IntKind.u32.wrap (IntKind.u32.wrap (((w 4 : Nat) : Int) + ((rotS (w 5) 7 18 3 : Nat) : Int)) + ((w 13 : Nat) : Int)) + ((rotS (w 18) 17 19 10 : Nat) : Int)))))))]
          rw [add4, hstep 20 (by omega)]
          exact congrArg (fun z => [_, _, AObj.cells (.t 301) 0 z]) (set_cellsW w 20).symm
        · conv => whnf
          refine ⟨by kernel_rfl, ?_⟩
          conv => whnf
          refine ⟨rfl, ?_⟩
          conv => whnf
          refine ⟨rfl, ?_⟩
          conv => whnf
          refine ⟨_, _, rfl, rotA (w 6) (hlt 6), ?_⟩
          conv => whnf
          refine ⟨rfl, ?_⟩
          conv => whnf
          refine ⟨rfl, ?_⟩
          conv => whnf
          refine ⟨_, _, rfl, rotB (w 19) (hlt 19), ?_⟩
          conv => whnf
          refine ⟨⟨22, by omega, by omega⟩, by dsimp only; omega, SubE.of ⟨rfl, rfl, rfl, rfl, rfl, trivial⟩, ?_⟩
          show [_, _, AObj.cells (.t 301) 0 (cellsW w 22)] = [_, _, AObj.cells (.t 301) 0 ((cellsW w 21).set 21 (.p (.lit (.int .u32 (IntKind.u32.wrap (IntKind.u32.wrap (IntKind.u32.wrap (((w 5 : Nat) : Int) + ((rotS (w 6) 7 18 3 : Nat) : Int)) + ((w 14 : Nat) : Int)) + ((rotS (w 19) 17 19 10 : Nat) : Int)))))))]
          rw [add4, hstep 21 (by omega)]
          exact congrArg (fun z => [_, _, AObj.cells (.t 301) 0 z]) (set_cellsW w 21).symm
        · conv => whnf
          refine ⟨by kernel_rfl, ?_⟩
          conv => whnf
          refine ⟨rfl, ?_⟩
          conv => whnf
          refine ⟨rfl, ?_⟩
          conv => whnf
          refine ⟨_, _, rfl, rotA (w 7) (hlt 7), ?_⟩
          conv => whnf
          refine ⟨rfl, ?_⟩
          conv => whnf
          refine ⟨rfl, ?_⟩
          conv => whnf
          refine ⟨_, _, rfl, rotB (w 20) (hlt 20), ?_⟩
          conv => whnf
          refine ⟨⟨23, by omega, by omega⟩, by dsimp only; omega, SubE.of ⟨rfl, rfl, rfl, rfl, rfl, trivial⟩, ?_⟩
          show [_, _, AObj.cells (.t 301) 0 (cellsW w 23)] = [_, _, AObj.cells (.t 301) 0 ((cellsW w 22).set 22 (.p (.lit (.int .u32 (IntKind.u32.wrap (IntKind.u32.wrap (IntKind.u32.wrap (((w 6 : Nat) : Int) + ((rotS (w 7) 7 18 3 : Nat) : Int)) + ((w 15 : Nat) : Int)) + ((rotS (w 20) 17 19 10 : Nat) : Int)))))))]
          rw [add4, hstep 22 (by omega)]
          exact congrArg (fun z => [_, _, AObj.cells (.t 301) 0 z]) (set_cellsW w 22).symm
        · conv => whnf
          refine ⟨by kernel_rfl, ?_⟩
          conv => whnf
          refine ⟨rfl, ?_⟩
          conv => whnf
          refine ⟨rfl, ?_⟩
          conv => whnf
          refine ⟨_, _, rfl, rotA (w 8) (hlt 8), ?_⟩
          conv => whnf
          refine ⟨rfl, ?_⟩
          conv => whnf
          refine ⟨rfl, ?_⟩
          conv => whnf
          refine ⟨_, _, rfl, rotB (w 21) (hlt 21), ?_⟩
          conv => whnf
          refine ⟨⟨24, by omega, by omega⟩, by dsimp only; omega, SubE.of ⟨rfl, rfl, rfl, rfl, rfl, trivial⟩, ?_⟩
          show [_, _, AObj.cells (.t 301) 0 (cellsW w 24)] = [_, _, AObj.cells (.t 301) 0 ((cellsW w 23).set 23 (.p (.lit (.int .u32 (IntKind.u32.wrap (IntKind.u32.wrap (IntKind.u32.wrap (((w 7 : Nat) : Int) + ((rotS (w 8) 7 18 3 : Nat) : Int)) + ((w 16 : Nat) : Int)) + ((rotS (w 21) 17 19 10 : Nat) : Int)))))))]
          rw [add4, hstep 23 (by omega)]
          exact congrArg (fun z => [_, _, AObj.cells (.t 301) 0 z]) (set_cellsW w 23).symm
        · conv => whnf
          refine ⟨by kernel_rfl, ?_⟩
          conv => whnf
          refine ⟨rfl, ?_⟩
          conv => whnf
          refine ⟨rfl, ?_⟩
          conv => whnf
          refine ⟨_, _, rfl, rotA (w 9) (hlt 9), ?_⟩
          conv => whnf
          refine ⟨rfl, ?_⟩
          conv => whnf
          refine ⟨rfl, ?_⟩
          conv => whnf
          refine ⟨_, _, rfl, rotB (w 22) (hlt 22), ?_⟩
          conv => whnf
          refine ⟨⟨25, by omega, by omega⟩, by dsimp only; omega, SubE.of ⟨rfl, rfl, rfl, rfl, rfl, trivial⟩, ?_⟩
          show [_, _, AObj.cells (.t 301) 0 (cellsW w 25)] = [_, _, AObj.cells (.t 301) 0 ((cellsW w 24).set 24 (.p (.lit (.int .u32 (IntKind.u32.wrap (IntKind.u32.wrap (IntKind.u32.wrap (((w 8 : Nat) : Int) + ((rotS (w 9) 7 18 3 : Nat) : Int)) + ((w 17 : Nat) : Int)) + ((rotS (w 22) 17 19 10 : Nat) : Int)))))))]
          rw [add4, hstep 24 (by omega)]
          exact congrArg (fun z => [_, _, AObj.cells (.t 301) 0 z]) (set_cellsW w 24).symm
        · conv => whnf
          refine ⟨by kernel_rfl, ?_⟩
          conv => whnf
          refine ⟨rfl, ?_⟩
          conv => whnf
          refine ⟨rfl, ?_⟩
          conv => whnf
          refine ⟨_, _, rfl, rotA (w 10) (hlt 10), ?_⟩
          conv => whnf
          refine ⟨rfl, ?_⟩
          conv => whnf
          refine ⟨rfl, ?_⟩
          conv => whnf
          refine ⟨_, _, rfl, rotB (w 23) (hlt 23), ?_⟩
          conv => whnf
          refine ⟨⟨26, by omega, by omega⟩, by dsimp only; omega, SubE.of ⟨rfl, rfl, rfl, rfl, rfl, trivial⟩, ?_⟩
          show [_, _, AObj.cells (.t 301) 0 (cellsW w 26)] = [_, _, AObj.cells (.t 301) 0 ((cellsW w 25).set 25 (.p (.lit (.int .u32 (IntKind.u32.wrap (IntKind.u32.wrap (IntKind.u32.wrap (((w 9 : Nat) : Int) + ((rotS (w 10) 7 18 3 : Nat) : Int)) + ((w 18 : Nat) : Int)) + ((rotS (w 23) 17 19 10 : Nat) : Int)))))))]
          rw [add4, hstep 25 (by omega)]
          exact congrArg (fun z => [_, _, AObj.cells (.t 301) 0 z]) (set_cellsW w 25).symm
        · conv => whnf
          refine ⟨by kernel_rfl, ?_⟩
          conv => whnf
          refine ⟨rfl, ?_⟩
          conv => whnf
          refine ⟨rfl, ?_⟩
          conv => whnf
          refine ⟨_, _, rfl, rotA (w 11) (hlt 11), ?_⟩
          conv => whnf
          refine ⟨rfl, ?_⟩
          conv => whnf
          refine ⟨rfl, ?_⟩
          conv => whnf
          refine ⟨_, _, rfl, rotB (w 24) (hlt 24), ?_⟩
          conv => whnf
          refine ⟨⟨27, by omega, by omega⟩, by dsimp only; omega, SubE.of ⟨rfl, rfl, rfl, rfl, rfl, trivial⟩, ?_⟩
          show [_, _, AObj.cells (.t 301) 0 (cellsW w 27)] = [_, _, AObj.cells (.t 301) 0 ((cellsW w 26).set 26 (.p (.lit (.int .u32 (IntKind.u32.wrap (IntKind.u32.wrap (IntKind.u32.wrap (((w 10 : Nat) : Int) + ((rotS (w 11) 7 18 3 : Nat) : Int)) + ((w 19 : Nat) : Int)) + ((rotS (w 24) 17 19 10 : Nat) : Int)))))))]
          rw [add4, hstep 26 (by omega)]
          exact congrArg (fun z => [_, _, AObj.cells (.t 301) 0 z]) (set_cellsW w 26).symm
        · conv => whnf
          refine ⟨by kernel_rfl, ?_⟩
          conv => whnf
          refine ⟨rfl, ?_⟩
          conv => whnf
          refine ⟨rfl, ?_⟩
          conv => whnf
          refine ⟨_, _, rfl, rotA (w 12) (hlt 12), ?_⟩
          conv => whnf
          refine ⟨rfl, ?_⟩
          conv => whnf
          refine ⟨rfl, ?_⟩
          conv => whnf
          refine ⟨_, _, rfl, rotB (w 25) (hlt 25), ?_⟩
          conv => whnf
          refine ⟨⟨28, by omega, by omega⟩, by dsimp only; omega, SubE.of ⟨rfl, rfl, rfl, rfl, rfl, trivial⟩, ?_⟩
          show [_, _, AObj.cells (.t 301) 0 (cellsW w 28)] = [_, _, AObj.cells (.t 301) 0 ((cellsW w 27).set 27 (.p (.lit (.int .u32 (IntKind.u32.wrap (IntKind.u32.wrap (IntKind.u32.wrap (((w 11 : Nat) : Int) + ((rotS (w 12) 7 18 3 : Nat) : Int)) + ((w 20 : Nat) : Int)) + ((rotS (w 25) 17 19 10 : Nat) : Int)))))))]
          rw [add4, hstep 27 (by omega)]
          exact congrArg (fun z => [_, _, AObj.cells (.t 301) 0 z]) (set_cellsW w 27).symm
        · conv => whnf
          refine ⟨by kernel_rfl, ?_⟩
          conv => whnf
          refine ⟨rfl, ?_⟩
          conv => whnf
          refine ⟨rfl, ?_⟩
          conv => whnf
          refine ⟨_, _, rfl, rotA (w 13) (hlt 13), ?_⟩
          conv => whnf
          refine ⟨rfl, ?_⟩
          conv => whnf
          refine ⟨rfl, ?_⟩
          conv => whnf
          refine ⟨_, _, rfl, rotB (w 26) (hlt 26), ?_⟩
          conv => whnf
          refine ⟨⟨29, by omega, by omega⟩, by dsimp only; omega, SubE.of ⟨rfl, rfl, rfl, rfl, rfl, trivial⟩, ?_⟩
          show [_, _, AObj.cells (.t 301) 0 (cellsW w 29)] = [_, _, AObj.cells (.t 301) 0 ((cellsW w 28).set 28 (.p (.lit (.int .u32 (IntKind.u32.wrap (IntKind.u32.wrap (IntKind.u32.wrap (((w 12 : Nat) : Int) + ((rotS (w 13) 7 18 3 : Nat) : Int)) + ((w 21 : Nat) : Int)) + ((rotS (w 26) 17 19 10 : Nat) : Int)))))))]
          rw [add4, hstep 28 (by omega)]
          exact congrArg (fun z => [_, _, AObj.cells (.t 301) 0 z]) (set_cellsW w 28).symm
        · conv => whnf
          refine ⟨by kernel_rfl, ?_⟩
          conv => whnf
          refine ⟨rfl, ?_⟩
          conv => whnf
          refine ⟨rfl, ?_⟩
          conv => whnf
          refine ⟨_, _, rfl, rotA (w 14) (hlt 14), ?_⟩
          conv => whnf
          refine ⟨rfl, ?_⟩
          conv => whnf
          refine ⟨rfl, ?_⟩
          conv => whnf
          refine ⟨_, _, rfl, rotB (w 27) (hlt 27), ?_⟩
          conv => whnf
          refine ⟨⟨30, by omega, by omega⟩, by dsimp only; omega, SubE.of ⟨rfl, rfl, rfl, rfl, rfl, trivial⟩, ?_⟩
          show [_, _, AObj.cells (.t 301) 0 (cellsW w 30)] = [_, _, AObj.cells (.t 301) 0 ((cellsW w 29).set 29 (.p (.lit (.int .u32 (IntKind.u32.wrap (IntKind.u32.wrap (IntKind.u32.wrap (((w 13 : Nat) : Int) + ((rotS (w 14) 7 18 3 : Nat) : Int)) + ((w 22 : Nat) : Int)) + ((rotS (w 27) 17 19 10 : Nat) : Int)))))))]
          rw [add4, hstep 29 (by omega)]
          exact congrArg (fun z => [_, _, AObj.cells (.t 301) 0 z]) (set_cellsW w 29).symm
        · conv => whnf
          refine ⟨by kernel_rfl, ?_⟩
          conv => whnf
          refine ⟨rfl, ?_⟩
          conv => whnf
          refine ⟨rfl, ?_⟩
          conv => whnf
          refine ⟨_, _, rfl, rotA (w 15) (hlt 15), ?_⟩
          conv => whnf
          refine ⟨rfl, ?_⟩
          conv => whnf
          refine ⟨rfl, ?_⟩
          conv => whnf
          refine ⟨_, _, rfl, rotB (w 28) (hlt 28), ?_⟩
          conv => whnf
          refine ⟨⟨31, by omega, by omega⟩, by dsimp only; omega, SubE.of ⟨rfl, rfl, rfl, rfl, rfl, trivial⟩, ?_⟩
          show [_, _, AObj.cells (.t 301) 0 (cellsW w 31)] = [_, _, AObj.cells (.t 301) 0 ((cellsW w 30).set 30 (.p (.lit (.int .u32 (IntKind.u32.wrap (IntKind.u32.wrap (IntKind.u32.wrap (((w 14 : Nat) : Int) + ((rotS (w 15) 7 18 3 : Nat) : Int)) + ((w 23 : Nat) : Int)) + ((rotS (w 28) 17 19 10 : Nat) : Int)))))))]
          rw [add4, hstep 30 (by omega)]
          exact congrArg (fun z => [_, _, AObj.cells (.t 301) 0 z]) (set_cellsW w 30).symm
        · conv => whnf
          refine ⟨by kernel_rfl, ?_⟩
          conv => whnf
          refine ⟨rfl, ?_⟩
          conv => whnf
          refine ⟨rfl, ?_⟩
          conv => whnf
          refine ⟨_, _, rfl, rotA (w 16) (hlt 16), ?_⟩
          conv => whnf
          refine ⟨rfl, ?_⟩
          conv => whnf
          refine ⟨rfl, ?_⟩
          conv => whnf
          refine ⟨_, _, rfl, rotB (w 29) (hlt 29), ?_⟩
          conv => whnf
          refine ⟨⟨32, by omega, by omega⟩, by dsimp only; omega, SubE.of ⟨rfl, rfl, rfl, rfl, rfl, trivial⟩, ?_⟩
          show [_, _, AObj.cells (.t 301) 0 (cellsW w 32)] = [_, _, AObj.cells (.t 301) 0 ((cellsW w 31).set 31 (.p (.lit (.int .u32 (IntKind.u32.wrap (IntKind.u32.wrap (IntKind.u32.wrap (((w 15 : Nat) : Int) + ((rotS (w 16) 7 18 3 : Nat) : Int)) + ((w 24 : Nat) : Int)) + ((rotS (w 29) 17 19 10 : Nat) : Int)))))))]
          rw [add4, hstep 31 (by omega)]
          exact congrArg (fun z => [_, _, AObj.cells (.t 301) 0 z]) (set_cellsW w 31).symm
        · conv => whnf
          refine ⟨by kernel_rfl, ?_⟩
          conv => whnf
          refine ⟨rfl, ?_⟩
          conv => whnf
          refine ⟨rfl, ?_⟩
          conv => whnf
          refine ⟨_, _, rfl, rotA (w 17) (hlt 17), ?_⟩
          conv => whnf
          refine ⟨rfl, ?_⟩
          conv => whnf
          refine ⟨rfl, ?_⟩
          conv => whnf
          refine ⟨_, _, rfl, rotB (w 30) (hlt 30), ?_⟩
          conv => whnf
          refine ⟨⟨33, by omega, by omega⟩, by dsimp only; omega, SubE.of ⟨rfl, rfl, rfl, rfl, rfl, trivial⟩, ?_⟩
          show [_, _, AObj.cells (.t 301) 0 (cellsW w 33)] = [_, _, AObj.cells (.t 301) 0 ((cellsW w 32).set 32 (.p (.lit (.int .u32 (IntKind.u32.wrap (IntKind.u32.wrap (IntKind.u32.wrap (((w 16 : Nat) : Int) + ((rotS (w 17) 7 18 3 : Nat) : Int)) + ((w 25 : Nat) : Int)) + ((rotS (w 30) 17 19 10 : Nat) : Int)))))))]
          rw [add4, hstep 32 (by omega)]
          exact congrArg (fun z => [_, _, AObj.cells (.t 301) 0 z]) (set_cellsW w 32).symm
        · conv => whnf
          refine ⟨by kernel_rfl, ?_⟩
          conv => whnf
          refine ⟨rfl, ?_⟩
          conv => whnf
          refine ⟨rfl, ?_⟩
          conv => whnf
          refine ⟨_, _, rfl, rotA (w 18) (hlt 18), ?_⟩
          conv => whnf
          refine ⟨rfl, ?_⟩
          conv => whnf
          refine ⟨rfl, ?_⟩
          conv => whnf
          refine ⟨_, _, rfl, rotB (w 31) (hlt 31), ?_⟩
          conv => whnf
          refine ⟨⟨34, by omega, by omega⟩, by dsimp only; omega, SubE.of ⟨rfl, rfl, rfl, rfl, rfl, trivial⟩, ?_⟩
          show [_, _, AObj.cells (.t 301) 0 (cellsW w 34)] = [_, _, AObj.cells (.t 301) 0 ((cellsW w 33).set 33 (.p (.lit (.int .u32 (IntKind.u32.wrap (IntKind.u32.wrap (IntKind.u32.wrap (((w 17 : Nat) : Int) + ((rotS (w 18) 7 18 3 : Nat) : Int)) + ((w 26 : Nat) : Int)) + ((rotS (w 31) 17 19 10 : Nat) : Int)))))))]
          rw [add4, hstep 33 (by omega)]
          exact congrArg (fun z => [_, _, AObj.cells (.t 301) 0 z]) (set_cellsW w 33).symm
        · conv => whnf
          refine ⟨by kernel_rfl, ?_⟩
          conv => whnf
          refine ⟨rfl, ?_⟩
          conv => whnf
          refine ⟨rfl, ?_⟩
          conv => whnf
          refine ⟨_, _, rfl, rotA (w 19) (hlt 19), ?_⟩
          conv => whnf
          refine ⟨rfl, ?_⟩
          conv => whnf
          refine ⟨rfl, ?_⟩
          conv => whnf
          refine ⟨_, _, rfl, rotB (w 32) (hlt 32), ?_⟩
          conv => whnf
          refine ⟨⟨35, by omega, by omega⟩, by dsimp only; omega, SubE.of ⟨rfl, rfl, rfl, rfl, rfl, trivial⟩, ?_⟩
          show [_, _, AObj.cells (.t 301) 0 (cellsW w 35)] = [_, _, AObj.cells (.t 301) 0 ((cellsW w 34).set 34 (.p (.lit (.int .u32 (IntKind.u32.wrap (IntKind.u32.wrap (IntKind.u32.wrap (((w 18 : Nat) : Int) + ((rotS (w 19) 7 18 3 : Nat) : Int)) + ((w 27 : Nat) : Int)) + ((rotS (w 32) 17 19 10 : Nat) : Int)))))))]
          rw [add4, hstep 34 (by omega)]
          exact congrArg (fun z => [_, _, AObj.cells (.t 301) 0 z]) (set_cellsW w 34).symm
        · conv => whnf
          refine ⟨by kernel_rfl, ?_⟩
          conv => whnf
          refine ⟨rfl, ?_⟩
          conv => whnf
          refine ⟨rfl, ?_⟩
          conv => whnf
          refine ⟨_, _, rfl, rotA (w 20) (hlt 20), ?_⟩
          conv => whnf
          refine ⟨rfl, ?_⟩
          conv => whnf
          refine ⟨rfl, ?_⟩
          conv => whnf
          refine ⟨_, _, rfl, rotB (w 33) (hlt 33), ?_⟩
          conv => whnf
          refine ⟨⟨36, by omega, by omega⟩, by dsimp only; omega, SubE.of ⟨rfl, rfl, rfl, rfl, rfl, trivial⟩, ?_⟩
          show [_, _, AObj.cells (.t 301) 0 (cellsW w 36)] = [_, _, AObj.cells (.t 301) 0 ((cellsW w 35).set 35 (.p (.lit (.int .u32 (IntKind.u32.wrap (IntKind.u32.wrap (IntKind.u32.wrap (((w 19 : Nat) : Int) + ((rotS (w 20) 7 18 3 : Nat) : Int)) + ((w 28 : Nat) : Int)) + ((rotS (w 33) 17 19 10 : Nat) : Int)))))))]
          rw [add4, hstep 35 (by omega)]
          exact congrArg (fun z => [_, _, AObj.cells (.t 301) 0 z]) (set_cellsW w 35).symm
        · conv => whnf
          refine ⟨by kernel_rfl, ?_⟩
          conv => whnf
          refine ⟨rfl, ?_⟩
          conv => whnf
          refine ⟨rfl, ?_⟩
          conv => whnf
          refine ⟨_, _, rfl, rotA (w 21) (hlt 21), ?_⟩
          conv => whnf
          refine ⟨rfl, ?_⟩
          conv => whnf
          refine ⟨rfl, ?_⟩
          conv => whnf
          refine ⟨_, _, rfl, rotB (w 34) (hlt 34), ?_⟩
          conv => whnf
          refine ⟨⟨37, by omega, by omega⟩, by dsimp only; omega, SubE.of ⟨rfl, rfl, rfl, rfl, rfl, trivial⟩, ?_⟩
          show [_, _, AObj.cells (.t 301) 0 (cellsW w 37)] = [_, _, AObj.cells (.t 301) 0 ((cellsW w 36).set 36 (.p (.lit (.int .u32 (IntKind.u32.wrap (IntKind.u32.wrap (IntKind.u32.wrap (((w 20 : Nat) : Int) + ((rotS (w 21) 7 18 3 : Nat) : Int)) + ((w 29 : Nat) : Int)) + ((rotS (w 34) 17 19 10 : Nat) : Int)))))))]
          rw [add4, hstep 36 (by omega)]
          exact congrArg (fun z => [_, _, AObj.cells (.t 301) 0 z]) (set_cellsW w 36).symm
        · conv => whnf
          refine ⟨by kernel_rfl, ?_⟩
          conv => whnf
          refine ⟨rfl, ?_⟩
          conv => whnf
          refine ⟨rfl, ?_⟩
          conv => whnf
          refine ⟨_, _, rfl, rotA (w 22) (hlt 22), ?_⟩
          conv => whnf
          refine ⟨rfl, ?_⟩
          conv => whnf
          refine ⟨rfl, ?_⟩
          conv => whnf
          refine ⟨_, _, rfl, rotB (w 35) (hlt 35), ?_⟩
          conv => whnf
          refine ⟨⟨38, by omega, by omega⟩, by dsimp only; omega, SubE.of ⟨rfl, rfl, rfl, rfl, rfl, trivial⟩, ?_⟩
          show [_, _, AObj.cells (.t 301) 0 (cellsW w 38)] = [_, _, AObj.cells (.t 301) 0 ((cellsW w 37).set 37 (.p (.lit (.int .u32 (IntKind.u32.wrap (IntKind.u32.wrap (IntKind.u32.wrap (((w 21 : Nat) : Int) + ((rotS (w 22) 7 18 3 : Nat) : Int)) + ((w 30 : Nat) : Int)) + ((rotS (w 35) 17 19 10 : Nat) : Int)))))))]
          rw [add4, hstep 37 (by omega)]
          exact congrArg (fun z => [_, _, AObj.cells (.t 301) 0 z]) (set_cellsW w 37).symm
        · conv => whnf
          refine ⟨by kernel_rfl, ?_⟩
          conv => whnf
          refine ⟨rfl, ?_⟩
          conv => whnf
          refine ⟨rfl, ?_⟩
          conv => whnf
          refine ⟨_, _, rfl, rotA (w 23) (hlt 23), ?_⟩
          conv => whnf
          refine ⟨rfl, ?_⟩
          conv => whnf
          refine ⟨rfl, ?_⟩
          conv => whnf
          refine ⟨_, _, rfl, rotB (w 36) (hlt 36), ?_⟩
          conv => whnf
          refine ⟨⟨39, by omega, by omega⟩, by dsimp only; omega, SubE.of ⟨rfl, rfl, rfl, rfl, rfl, trivial⟩, ?_⟩
          show [_, _, AObj.cells (.t 301) 0 (cellsW w 39)] = [_, _, AObj.cells (.t 301) 0 ((cellsW w 38).set 38 (.p (.lit (.int .u32 (IntKind.u32.wrap (IntKind.u32.wrap (IntKind.u32.wrap (((w 22 : Nat) : Int) + ((rotS (w 23) 7 18 3 : Nat) : Int)) + ((w 31 : Nat) : Int)) + ((rotS (w 36) 17 19 10 : Nat) : Int)))))))]
          rw [add4, hstep 38 (by omega)]
          exact congrArg (fun z => [_, _, AObj.cells (.t 301) 0 z]) (set_cellsW w 38).symm
        · conv => whnf
          refine ⟨by kernel_rfl, ?_⟩
          conv => whnf
          refine ⟨rfl, ?_⟩
          conv => whnf
          refine ⟨rfl, ?_⟩
          conv => whnf
          refine ⟨_, _, rfl, rotA (w 24) (hlt 24), ?_⟩
          conv => whnf
          refine ⟨rfl, ?_⟩
          conv => whnf
          refine ⟨rfl, ?_⟩
          conv => whnf
          refine ⟨_, _, rfl, rotB (w 37) (hlt 37), ?_⟩
          conv => whnf
          refine ⟨⟨40, by omega, by omega⟩, by dsimp only; omega, SubE.of ⟨rfl, rfl, rfl, rfl, rfl, trivial⟩, ?_⟩
          show [_, _, AObj.cells (.t 301) 0 (cellsW w 40)] = [_, _, AObj.cells (.t 301) 0 ((cellsW w 39).set 39 (.p (.lit (.int .u32 (IntKind.u32.wrap (IntKind.u32.wrap (IntKind.u32.wrap (((w 23 : Nat) : Int) + ((rotS (w 24) 7 18 3 : Nat) : Int)) + ((w 32 : Nat) : Int)) + ((rotS (w 37) 17 19 10 : Nat) : Int)))))))]
          rw [add4, hstep 39 (by omega)]
          exact congrArg (fun z => [_, _, AObj.cells (.t 301) 0 z]) (set_cellsW w 39).symm
        · conv => whnf
          refine ⟨by kernel_rfl, ?_⟩
          conv => whnf
          refine ⟨rfl, ?_⟩
          conv => whnf
          refine ⟨rfl, ?_⟩
          conv => whnf
          refine ⟨_, _, rfl, rotA (w 25) (hlt 25), ?_⟩
          conv => whnf
          refine ⟨rfl, ?_⟩
          conv => whnf
          refine ⟨rfl, ?_⟩
          conv => whnf
          refine ⟨_, _, rfl, rotB (w 38) (hlt 38), ?_⟩
          conv => whnf
          refine ⟨⟨41, by omega, by omega⟩, by dsimp only; omega, SubE.of ⟨rfl, rfl, rfl, rfl, rfl, trivial⟩, ?_⟩
          show [_, _, AObj.cells (.t 301) 0 (cellsW w 41)] = [_, _, AObj.cells (.t 301) 0 ((cellsW w 40).set 40 (.p (.lit (.int .u32 (IntKind.u32.wrap (IntKind.u32.wrap (IntKind.u32.wrap (((w 24 : Nat) : Int) + ((rotS (w 25) 7 18 3 : Nat) : Int)) + ((w 33 : Nat) : Int)) + ((rotS (w 38) 17 19 10 : Nat) : Int)))))))]
          rw [add4, hstep 40 (by omega)]
          exact congrArg (fun z => [_, _, AObj.cells (.t 301) 0 z]) (set_cellsW w 40).symm
        · conv => whnf
          refine ⟨by kernel_rfl, ?_⟩
          conv => whnf
          refine ⟨rfl, ?_⟩
          conv => whnf
          refine ⟨rfl, ?_⟩
          conv => whnf
          refine ⟨_, _, rfl, rotA (w 26) (hlt 26), ?_⟩
          conv => whnf
          refine ⟨rfl, ?_⟩
          conv => whnf
          refine ⟨rfl, ?_⟩
          conv => whnf
          refine ⟨_, _, rfl, rotB (w 39) (hlt 39), ?_⟩
          conv => whnf
          refine ⟨⟨42, by omega, by omega⟩, by dsimp only; omega, SubE.of ⟨rfl, rfl, rfl, rfl, rfl, trivial⟩, ?_⟩
          show [_, _, AObj.cells (.t 301) 0 (cellsW w 42)] = [_, _, AObj.cells (.t 301) 0 ((cellsW w 41).set 41 (.p (.lit (.int .u32 (IntKind.u32.wrap (IntKind.u32.wrap (IntKind.u32.wrap (((w 25 : Nat) : Int) + ((rotS (w 26) 7 18 3 : Nat) : Int)) + ((w 34 : Nat) : Int)) + ((rotS (w 39) 17 19 10 : Nat) : Int)))))))]
          rw [add4, hstep 41 (by omega)]
          exact congrArg (fun z => [_, _, AObj.cells (.t 301) 0 z]) (set_cellsW w 41).symm
        · conv => whnf
          refine ⟨by kernel_rfl, ?_⟩
          conv => whnf
          refine ⟨rfl, ?_⟩
          conv => whnf
          refine ⟨rfl, ?_⟩
          conv => whnf
          refine ⟨_, _, rfl, rotA (w 27) (hlt 27), ?_⟩
          conv => whnf
          refine ⟨rfl, ?_⟩
          conv => whnf
          refine ⟨rfl, ?_⟩
          conv => whnf
          refine ⟨_, _, rfl, rotB (w 40) (hlt 40), ?_⟩
          conv => whnf
          refine ⟨⟨43, by omega, by omega⟩, by dsimp only; omega, SubE.of ⟨rfl, rfl, rfl, rfl, rfl, trivial⟩, ?_⟩
          show [_, _, AObj.cells (.t 301) 0 (cellsW w 43)] = [_, _, AObj.cells (.t 301) 0 ((cellsW w 42).set 42 (.p (.lit (.int .u32 (IntKind.u32.wrap (IntKind.u32.wrap (IntKind.u32.wrap (((w 26 : Nat) : Int) + ((rotS (w 27) 7 18 3 : Nat) : Int)) + ((w 35 : Nat) : Int)) + ((rotS (w 40) 17 19 10 : Nat) : Int)))))))]
          rw [add4, hstep 42 (by omega)]
          exact congrArg (fun z => [_, _, AObj.cells (.t 301) 0 z]) (set_cellsW w 42).symm
        · conv => whnf
          refine ⟨by kernel_rfl, ?_⟩
          conv => whnf
          refine ⟨rfl, ?_⟩
          conv => whnf
          refine ⟨rfl, ?_⟩
          conv => whnf
          refine ⟨_, _, rfl, rotA (w 28) (hlt 28), ?_⟩
          conv => whnf
          refine ⟨rfl, ?_⟩
          conv => whnf
          refine ⟨rfl, ?_⟩
          conv => whnf
          refine ⟨_, _, rfl, rotB (w 41) (hlt 41), ?_⟩
          conv => whnf
          refine ⟨⟨44, by omega, by omega⟩, by dsimp only; omega, SubE.of ⟨rfl, rfl, rfl, rfl, rfl, trivial⟩, ?_⟩
          show [_, _, AObj.cells (.t 301) 0 (cellsW w 44)] = [_, _, AObj.cells (.t 301) 0 ((cellsW w 43).set 43 (.p (.lit (.int .u32 (IntKind.u32.wrap (IntKind.u32.wrap (IntKind.u32.wrap (((w 27 : Nat) : Int) + ((rotS (w 28) 7 18 3 : Nat) : Int)) + ((w 36 : Nat) : Int)) + ((rotS (w 41) 17 19 10 : Nat) : Int)))))))]
          rw [add4, hstep 43 (by omega)]
          exact congrArg (fun z => [_, _, AObj.cells (.t 301) 0 z]) (set_cellsW w 43).symm
        · conv => whnf
          refine ⟨by kernel_rfl, ?_⟩
          conv => whnf
          refine ⟨rfl, ?_⟩
          conv => whnf
          refine ⟨rfl, ?_⟩
          conv => whnf
          refine ⟨_, _, rfl, rotA (w 29) (hlt 29), ?_⟩
          conv => whnf
          refine ⟨rfl, ?_⟩
          conv => whnf
          refine ⟨rfl, ?_⟩
          conv => whnf
          refine ⟨_, _, rfl, rotB (w 42) (hlt 42), ?_⟩
          conv => whnf
          refine ⟨⟨45, by omega, by omega⟩, by dsimp only; omega, SubE.of ⟨rfl, rfl, rfl, rfl, rfl, trivial⟩, ?_⟩
          show [_, _, AObj.cells (.t 301) 0 (cellsW w 45)] = [_, _, AObj.cells (.t 301) 0 ((cellsW w 44).set 44 (.p (.lit (.int .u32 (IntKind.u32.wrap (IntKind.u32.wrap (IntKind.u32.wrap (((w 28 : Nat) : Int) + ((rotS (w 29) 7 18 3 : Nat) : Int)) + ((w 37 : Nat) : Int)) + ((rotS (w 42) 17 19 10 : Nat) : Int)))))))]
          rw [add4, hstep 44 (by omega)]
          exact congrArg (fun z => [_, _, AObj.cells (.t 301) 0 z]) (set_cellsW w 44).symm
        · conv => whnf
          refine ⟨by kernel_rfl, ?_⟩
          conv => whnf
          refine ⟨rfl, ?_⟩
          conv => whnf
          refine ⟨rfl, ?_⟩
          conv => whnf
          refine ⟨_, _, rfl, rotA (w 30) (hlt 30), ?_⟩
          conv => whnf
          refine ⟨rfl, ?_⟩
          conv => whnf
          refine ⟨rfl, ?_⟩
          conv => whnf
          refine ⟨_, _, rfl, rotB (w 43) (hlt 43), ?_⟩
          conv => whnf
          refine ⟨⟨46, by omega, by omega⟩, by dsimp only; omega, SubE.of ⟨rfl, rfl, rfl, rfl, rfl, trivial⟩, ?_⟩
          show [_, _, AObj.cells (.t 301) 0 (cellsW w 46)] = [_, _, AObj.cells (.t 301) 0 ((cellsW w 45).set 45 (.p (.lit (.int .u32 (IntKind.u32.wrap (IntKind.u32.wrap (IntKind.u32.wrap (((w 29 : Nat) : Int) + ((rotS (w 30) 7 18 3 : Nat) : Int)) + ((w 38 : Nat) : Int)) + ((rotS (w 43) 17 19 10 : Nat) : Int)))))))]
          rw [add4, hstep 45 (by omega)]
          exact congrArg (fun z => [_, _, AObj.cells (.t 301) 0 z]) (set_cellsW w 45).symm
        · conv => whnf
          refine ⟨by kernel_rfl, ?_⟩
          conv => whnf
          refine ⟨rfl, ?_⟩
          conv => whnf
          refine ⟨rfl, ?_⟩
          conv => whnf
          refine ⟨_, _, rfl, rotA (w 31) (hlt 31), ?_⟩
          conv => whnf
          refine ⟨rfl, ?_⟩
          conv => whnf
          refine ⟨rfl, ?_⟩
          conv => whnf
          refine ⟨_, _, rfl, rotB (w 44) (hlt 44), ?_⟩
          conv => whnf
          refine ⟨⟨47, by omega, by omega⟩, by dsimp only; omega, SubE.of ⟨rfl, rfl, rfl, rfl, rfl, trivial⟩, ?_⟩
          show [_, _, AObj.cells (.t 301) 0 (cellsW w 47)] = [_, _, AObj.cells (.t 301) 0 ((cellsW w 46).set 46 (.p (.lit (.int .u32 (IntKind.u32.wrap (IntKind.u32.wrap (IntKind.u32.wrap (((w 30 : Nat) : Int) + ((rotS (w 31) 7 18 3 : Nat) : Int)) + ((w 39 : Nat) : Int)) + ((rotS (w 44) 17 19 10 : Nat) : Int)))))))]
          rw [add4, hstep 46 (by omega)]
          exact congrArg (fun z => [_, _, AObj.cells (.t 301) 0 z]) (set_cellsW w 46).symm
        · conv => whnf
          refine ⟨by kernel_rfl, ?_⟩
          conv => whnf
          refine ⟨rfl, ?_⟩
          conv => whnf
          refine ⟨rfl, ?_⟩
          conv => whnf
          refine ⟨_, _, rfl, rotA (w 32) (hlt 32), ?_⟩
          conv => whnf
          refine ⟨rfl, ?_⟩
          conv => whnf
          refine ⟨rfl, ?_⟩
          conv => whnf
          refine ⟨_, _, rfl, rotB (w 45) (hlt 45), ?_⟩
          conv => whnf
          refine ⟨⟨48, by omega, by omega⟩, by dsimp only; omega, SubE.of ⟨rfl, rfl, rfl, rfl, rfl, trivial⟩, ?_⟩
          show [_, _, AObj.cells (.t 301) 0 (cellsW w 48)] = [_, _, AObj.cells (.t 301) 0 ((cellsW w 47).set 47 (.p (.lit (.int .u32 (IntKind.u32.wrap (IntKind.u32.wrap (IntKind.u32.wrap (((w 31 : Nat) : Int) + ((rotS (w 32) 7 18 3 : Nat) : Int)) + ((w 40 : Nat) : Int)) + ((rotS (w 45) 17 19 10 : Nat) : Int)))))))]
          rw [add4, hstep 47 (by omega)]
          exact congrArg (fun z => [_, _, AObj.cells (.t 301) 0 z]) (set_cellsW w 47).symm
        · conv => whnf
          refine ⟨by kernel_rfl, ?_⟩
          conv => whnf
          refine ⟨rfl, ?_⟩
          conv => whnf
          refine ⟨rfl, ?_⟩
          conv => whnf
          refine ⟨_, _, rfl, rotA (w 33) (hlt 33), ?_⟩
          conv => whnf
          refine ⟨rfl, ?_⟩
          conv => whnf
          refine ⟨rfl, ?_⟩
          conv => whnf
          refine ⟨_, _, rfl, rotB (w 46) (hlt 46), ?_⟩
          conv => whnf
          refine ⟨⟨49, by omega, by omega⟩, by dsimp only; omega, SubE.of ⟨rfl, rfl, rfl, rfl, rfl, trivial⟩, ?_⟩
          show [_, _, AObj.cells (.t 301) 0 (cellsW w 49)] = [_, _, AObj.cells (.t 301) 0 ((cellsW w 48).set 48 (.p (.lit (.int .u32 (IntKind.u32.wrap (IntKind.u32.wrap (IntKind.u32.wrap (((w 32 : Nat) : Int) + ((rotS (w 33) 7 18 3 : Nat) : Int)) + ((w 41 : Nat) : Int)) + ((rotS (w 46) 17 19 10 : Nat) : Int)))))))]
          rw [add4, hstep 48 (by omega)]
          exact congrArg (fun z => [_, _, AObj.cells (.t 301) 0 z]) (set_cellsW w 48).symm
        · conv => whnf
          refine ⟨by kernel_rfl, ?_⟩
          conv => whnf
          refine ⟨rfl, ?_⟩
          conv => whnf
          refine ⟨rfl, ?_⟩
          conv => whnf
          refine ⟨_, _, rfl, rotA (w 34) (hlt 34), ?_⟩
          conv => whnf
          refine ⟨rfl, ?_⟩
          conv => whnf
          refine ⟨rfl, ?_⟩
          conv => whnf
          refine ⟨_, _, rfl, rotB (w 47) (hlt 47), ?_⟩
          conv => whnf
          refine ⟨⟨50, by omega, by omega⟩, by dsimp only; omega, SubE.of ⟨rfl, rfl, rfl, rfl, rfl, trivial⟩, ?_⟩
          show [_, _, AObj.cells (.t 301) 0 (cellsW w 50)] = [_, _, AObj.cells (.t 301) 0 ((cellsW w 49).set 49 (.p (.lit (.int .u32 (IntKind.u32.wrap (IntKind.u32.wrap (IntKind.u32.wrap (((w 33 : Nat) : Int) + ((rotS (w 34) 7 18 3 : Nat) : Int)) + ((w 42 : Nat) : Int)) + ((rotS (w 47) 17 19 10 : Nat) : Int)))))))]
          rw [add4, hstep 49 (by omega)]
          exact congrArg (fun z => [_, _, AObj.cells (.t 301) 0 z]) (set_cellsW w 49).symm
        · conv => whnf
          refine ⟨by kernel_rfl, ?_⟩
          conv => whnf
          refine ⟨rfl, ?_⟩
          conv => whnf
          refine ⟨rfl, ?_⟩
          conv => whnf
          refine ⟨_, _, rfl, rotA (w 35) (hlt 35), ?_⟩
          conv => whnf
          refine ⟨rfl, ?_⟩
          conv => whnf
          refine ⟨rfl, ?_⟩
          conv => whnf
          refine ⟨_, _, rfl, rotB (w 48) (hlt 48), ?_⟩
          conv => whnf
          refine ⟨⟨51, by omega, by omega⟩, by dsimp only; omega, SubE.of ⟨rfl, rfl, rfl, rfl, rfl, trivial⟩, ?_⟩
          show [_, _, AObj.cells (.t 301) 0 (cellsW w 51)] = [_, _, AObj.cells (.t 301) 0 ((cellsW w 50).set 50 (.p (.lit (.int .u32 (IntKind.u32.wrap (IntKind.u32.wrap (IntKind.u32.wrap (((w 34 : Nat) : Int) + ((rotS (w 35) 7 18 3 : Nat) : Int)) + ((w 43 : Nat) : Int)) + ((rotS (w 48) 17 19 10 : Nat) : Int)))))))]
          rw [add4, hstep 50 (by omega)]
          exact congrArg (fun z => [_, _, AObj.cells (.t 301) 0 z]) (set_cellsW w 50).symm
        · conv => whnf
          refine ⟨by kernel_rfl, ?_⟩
          conv => whnf
          refine ⟨rfl, ?_⟩
          conv => whnf
          refine ⟨rfl, ?_⟩
          conv => whnf
          refine ⟨_, _, rfl, rotA (w 36) (hlt 36), ?_⟩
          conv => whnf
          refine ⟨rfl, ?_⟩
          conv => whnf
          refine ⟨rfl, ?_⟩
          conv => whnf
          refine ⟨_, _, rfl, rotB (w 49) (hlt 49), ?_⟩
          conv => whnf
          refine ⟨⟨52, by omega, by omega⟩, by dsimp only; omega, SubE.of ⟨rfl, rfl, rfl, rfl, rfl, trivial⟩, ?_⟩
          show [_, _, AObj.cells (.t 301) 0 (cellsW w 52)] = [_, _, AObj.cells (.t 301) 0 ((cellsW w 51).set 51 (.p (.lit (.int .u32 (IntKind.u32.wrap (IntKind.u32.wrap (IntKind.u32.wrap (((w 35 : Nat) : Int) + ((rotS (w 36) 7 18 3 : Nat) : Int)) + ((w 44 : Nat) : Int)) + ((rotS (w 49) 17 19 10 : Nat) : Int)))))))]
          rw [add4, hstep 51 (by omega)]
          exact congrArg (fun z => [_, _, AObj.cells (.t 301) 0 z]) (set_cellsW w 51).symm
        · conv => whnf
          refine ⟨by kernel_rfl, ?_⟩
          conv => whnf
          refine ⟨rfl, ?_⟩
          conv => whnf
          refine ⟨rfl, ?_⟩
          conv => whnf
          refine ⟨_, _, rfl, rotA (w 37) (hlt 37), ?_⟩
          conv => whnf
          refine ⟨rfl, ?_⟩
          conv => whnf
          refine ⟨rfl, ?_⟩
          conv => whnf
          refine ⟨_, _, rfl, rotB (w 50) (hlt 50), ?_⟩
          conv => whnf
          refine ⟨⟨53, by omega, by omega⟩, by dsimp only; omega, SubE.of ⟨rfl, rfl, rfl, rfl, rfl, trivial⟩, ?_⟩
          show [_, _, AObj.cells (.t 301) 0 (cellsW w 53)] = [_, _, AObj.cells (.t 301) 0 ((cellsW w 52).set 52 (.p (.lit (.int .u32 (IntKind.u32.wrap (IntKind.u32.wrap (IntKind.u32.wrap (((w 36 : Nat) : Int) + ((rotS (w 37) 7 18 3 : Nat) : Int)) + ((w 45 : Nat) : Int)) + ((rotS (w 50) 17 19 10 : Nat) : Int)))))))]
          rw [add4, hstep 52 (by omega)]
          exact congrArg (fun z => [_, _, AObj.cells (.t 301) 0 z]) (set_cellsW w 52).symm
        · conv => whnf
          refine ⟨by kernel_rfl, ?_⟩
          conv => whnf
          refine ⟨rfl, ?_⟩
          conv => whnf
          refine ⟨rfl, ?_⟩
          conv => whnf
          refine ⟨_, _, rfl, rotA (w 38) (hlt 38), ?_⟩
          conv => whnf
          refine ⟨rfl, ?_⟩
          conv => whnf
          refine ⟨rfl, ?_⟩
          conv => whnf
          refine ⟨_, _, rfl, rotB (w 51) (hlt 51), ?_⟩
          conv => whnf
          refine ⟨⟨54, by omega, by omega⟩, by dsimp only; omega, SubE.of ⟨rfl, rfl, rfl, rfl, rfl, trivial⟩, ?_⟩
          show [_, _, AObj.cells (.t 301) 0 (cellsW w 54)] = [_, _, AObj.cells (.t 301) 0 ((cellsW w 53).set 53 (.p (.lit (.int .u32 (IntKind.u32.wrap (IntKind.u32.wrap (IntKind.u32.wrap (((w 37 : Nat) : Int) + ((rotS (w 38) 7 18 3 : Nat) : Int)) + ((w 46 : Nat) : Int)) + ((rotS (w 51) 17 19 10 : Nat) : Int)))))))]
          rw [add4, hstep 53 (by omega)]
          exact congrArg (fun z => [_, _, AObj.cells (.t 301) 0 z]) (set_cellsW w 53).symm
        · conv => whnf
          refine ⟨by kernel_rfl, ?_⟩
          conv => whnf
          refine ⟨rfl, ?_⟩
          conv => whnf
          refine ⟨rfl, ?_⟩
          conv => whnf
          refine ⟨_, _, rfl, rotA (w 39) (hlt 39), ?_⟩
          conv => whnf
          refine ⟨rfl, ?_⟩
          conv => whnf
          refine ⟨rfl, ?_⟩
          conv => whnf
          refine ⟨_, _, rfl, rotB (w 52) (hlt 52), ?_⟩
          conv => whnf
          refine ⟨⟨55, by omega, by omega⟩, by dsimp only; omega, SubE.of ⟨rfl, rfl, rfl, rfl, rfl, trivial⟩, ?_⟩
          show [_, _, AObj.cells (.t 301) 0 (cellsW w 55)] = [_, _, AObj.cells (.t 301) 0 ((cellsW w 54).set 54 (.p (.lit (.int .u32 (IntKind.u32.wrap (IntKind.u32.wrap (IntKind.u32.wrap (((w 38 : Nat) : Int) + ((rotS (w 39) 7 18 3 : Nat) : Int)) + ((w 47 : Nat) : Int)) + ((rotS (w 52) 17 19 10 : Nat) : Int)))))))]
          rw [add4, hstep 54 (by omega)]
          exact congrArg (fun z => [_, _, AObj.cells (.t 301) 0 z]) (set_cellsW w 54).symm
        · conv => whnf
          refine ⟨by kernel_rfl, ?_⟩
          conv => whnf
          refine ⟨rfl, ?_⟩
          conv => whnf
          refine ⟨rfl, ?_⟩
          conv => whnf
          refine ⟨_, _, rfl, rotA (w 40) (hlt 40), ?_⟩
          conv => whnf
          refine ⟨rfl, ?_⟩
          conv => whnf
          refine ⟨rfl, ?_⟩
          conv => whnf
          refine ⟨_, _, rfl, rotB (w 53) (hlt 53), ?_⟩
          conv => whnf
          refine ⟨⟨56, by omega, by omega⟩, by dsimp only; omega, SubE.of ⟨rfl, rfl, rfl, rfl, rfl, trivial⟩, ?_⟩
          show [_, _, AObj.cells (.t 301) 0 (cellsW w 56)] = [_, _, AObj.cells (.t 301) 0 ((cellsW w 55).set 55 (.p (.lit (.int .u32 (IntKind.u32.wrap (IntKind.u32.wrap (IntKind.u32.wrap (((w 39 : Nat) : Int) + ((rotS (w 40) 7 18 3 : Nat) : Int)) + ((w 48 : Nat) : Int)) + ((rotS (w 53) 17 19 10 : Nat) : Int)))))))]
          rw [add4, hstep 55 (by omega)]
          exact congrArg (fun z => [_, _, AObj.cells (.t 301) 0 z]) (set_cellsW w 55).symm
        · conv => whnf
          refine ⟨by kernel_rfl, ?_⟩
          conv => whnf
          refine ⟨rfl, ?_⟩
          conv => whnf
          refine ⟨rfl, ?_⟩
          conv => whnf
          refine ⟨_, _, rfl, rotA (w 41) (hlt 41), ?_⟩
          conv => whnf
          refine ⟨rfl, ?_⟩
          conv => whnf
          refine ⟨rfl, ?_⟩
          conv => whnf
          refine ⟨_, _, rfl, rotB (w 54) (hlt 54), ?_⟩
          conv => whnf
          refine ⟨⟨57, by omega, by omega⟩, by dsimp only; omega, SubE.of ⟨rfl, rfl, rfl, rfl, rfl, trivial⟩, ?_⟩
          show [_, _, AObj.cells (.t 301) 0 (cellsW w 57)] = [_, _, AObj.cells (.t 301) 0 ((cellsW w 56).set 56 (.p (.lit (.int .u32 (IntKind.u32.wrap (IntKind.u32.wrap (IntKind.u32.wrap (((w 40 : Nat) : Int) + ((rotS (w 41) 7 18 3 : Nat) : Int)) + ((w 49 : Nat) : Int)) + ((rotS (w 54) 17 19 10 : Nat) : Int)))))))]
          rw [add4, hstep 56 (by omega)]
          exact congrArg (fun z => [_, _, AObj.cells (.t 301) 0 z]) (set_cellsW w 56).symm
        · conv => whnf
          refine ⟨by kernel_rfl, ?_⟩
          conv => whnf
          refine ⟨rfl, ?_⟩
          conv => whnf
          refine ⟨rfl, ?_⟩
          conv => whnf
          refine ⟨_, _, rfl, rotA (w 42) (hlt 42), ?_⟩
          conv => whnf
          refine ⟨rfl, ?_⟩
          conv => whnf
          refine ⟨rfl, ?_⟩
          conv => whnf
          refine ⟨_, _, rfl, rotB (w 55) (hlt 55), ?_⟩
          conv => whnf
          refine ⟨⟨58, by omega, by omega⟩, by dsimp only; omega, SubE.of ⟨rfl, rfl, rfl, rfl, rfl, trivial⟩, ?_⟩
          show [_, _, AObj.cells (.t 301) 0 (cellsW w 58)] = [_, _, AObj.cells (.t 301) 0 ((cellsW w 57).set 57 (.p (.lit (.int .u32 (IntKind.u32.wrap (IntKind.u32.wrap (IntKind.u32.wrap (((w 41 : Nat) : Int) + ((rotS (w 42) 7 18 3 : Nat) : Int)) + ((w 50 : Nat) : Int)) + ((rotS (w 55) 17 19 10 : Nat) : Int)))))))]
          rw [add4, hstep 57 (by omega)]
          exact congrArg (fun z => [_, _, AObj.cells (.t 301) 0 z]) (set_cellsW w 57).symm
        · conv => whnf
          refine ⟨by kernel_rfl, ?_⟩
          conv => whnf
          refine ⟨rfl, ?_⟩
          conv => whnf
          refine ⟨rfl, ?_⟩
          conv => whnf
          refine ⟨_, _, rfl, rotA (w 43) (hlt 43), ?_⟩
          conv => whnf
          refine ⟨rfl, ?_⟩
          conv => whnf
          refine ⟨rfl, ?_⟩
          conv => whnf
          refine ⟨_, _, rfl, rotB (w 56) (hlt 56), ?_⟩
          conv => whnf
          refine ⟨⟨59, by omega, by omega⟩, by dsimp only; omega, SubE.of ⟨rfl, rfl, rfl, rfl, rfl, trivial⟩, ?_⟩
          show [_, _, AObj.cells (.t 301) 0 (cellsW w 59)] = [_, _, AObj.cells (.t 301) 0 ((cellsW w 58).set 58 (.p (.lit (.int .u32 (IntKind.u32.wrap (IntKind.u32.wrap (IntKind.u32.wrap (((w 42 : Nat) : Int) + ((rotS (w 43) 7 18 3 : Nat) : Int)) + ((w 51 : Nat) : Int)) + ((rotS (w 56) 17 19 10 : Nat) : Int)))))))]
          rw [add4, hstep 58 (by omega)]
          exact congrArg (fun z => [_, _, AObj.cells (.t 301) 0 z]) (set_cellsW w 58).symm
        · conv => whnf
          refine ⟨by kernel_rfl, ?_⟩
          conv => whnf
          refine ⟨rfl, ?_⟩
          conv => whnf
          refine ⟨rfl, ?_⟩
          conv => whnf
          refine ⟨_, _, rfl, rotA (w 44) (hlt 44), ?_⟩
          conv => whnf
          refine ⟨rfl, ?_⟩
          conv => whnf
          refine ⟨rfl, ?_⟩
          conv => whnf
          refine ⟨_, _, rfl, rotB (w 57) (hlt 57), ?_⟩
          conv => whnf
          refine ⟨⟨60, by omega, by omega⟩, by dsimp only; omega, SubE.of ⟨rfl, rfl, rfl, rfl, rfl, trivial⟩, ?_⟩
          show [_, _, AObj.cells (.t 301) 0 (cellsW w 60)] = [_, _, AObj.cells (.t 301) 0 ((cellsW w 59).set 59 (.p (.lit (.int .u32 (IntKind.u32.wrap (IntKind.u32.wrap (IntKind.u32.wrap (((w 43 : Nat) : Int) + ((rotS (w 44) 7 18 3 : Nat) : Int)) + ((w 52 : Nat) : Int)) + ((rotS (w 57) 17 19 10 : Nat) : Int)))))))]
          rw [add4, hstep 59 (by omega)]
          exact congrArg (fun z => [_, _, AObj.cells (.t 301) 0 z]) (set_cellsW w 59).symm
        · conv => whnf
          refine ⟨by kernel_rfl, ?_⟩
          conv => whnf
          refine ⟨rfl, ?_⟩
          conv => whnf
          refine ⟨rfl, ?_⟩
          conv => whnf
          refine ⟨_, _, rfl, rotA (w 45) (hlt 45), ?_⟩
          conv => whnf
          refine ⟨rfl, ?_⟩
          conv => whnf
          refine ⟨rfl, ?_⟩
          conv => whnf
          refine ⟨_, _, rfl, rotB (w 58) (hlt 58), ?_⟩
          conv => whnf
          refine ⟨⟨61, by omega, by omega⟩, by dsimp only; omega, SubE.of ⟨rfl, rfl, rfl, rfl, rfl, trivial⟩, ?_⟩
          show [_, _, AObj.cells (.t 301) 0 (cellsW w 61)] = [_, _, AObj.cells (.t 301) 0 ((cellsW w 60).set 60 (.p (.lit (.int .u32 (IntKind.u32.wrap (IntKind.u32.wrap (IntKind.u32.wrap (((w 44 : Nat) : Int) + ((rotS (w 45) 7 18 3 : Nat) : Int)) + ((w 53 : Nat) : Int)) + ((rotS (w 58) 17 19 10 : Nat) : Int)))))))]
          rw [add4, hstep 60 (by omega)]
          exact congrArg (fun z => [_, _, AObj.cells (.t 301) 0 z]) (set_cellsW w 60).symm
        · conv => whnf
          refine ⟨by kernel_rfl, ?_⟩
          conv => whnf
          refine ⟨rfl, ?_⟩
          conv => whnf
          refine ⟨rfl, ?_⟩
          conv => whnf
          refine ⟨_, _, rfl, rotA (w 46) (hlt 46), ?_⟩
          conv => whnf
          refine ⟨rfl, ?_⟩
          conv => whnf
          refine ⟨rfl, ?_⟩
          conv => whnf
          refine ⟨_, _, rfl, rotB (w 59) (hlt 59), ?_⟩
          conv => whnf
          refine ⟨⟨62, by omega, by omega⟩, by dsimp only; omega, SubE.of ⟨rfl, rfl, rfl, rfl, rfl, trivial⟩, ?_⟩
          show [_, _, AObj.cells (.t 301) 0 (cellsW w 62)] = [_, _, AObj.cells (.t 301) 0 ((cellsW w 61).set 61 (.p (.lit (.int .u32 (IntKind.u32.wrap (IntKind.u32.wrap (IntKind.u32.wrap (((w 45 : Nat) : Int) + ((rotS (w 46) 7 18 3 : Nat) : Int)) + ((w 54 : Nat) : Int)) + ((rotS (w 59) 17 19 10 : Nat) : Int)))))))]
          rw [add4, hstep 61 (by omega)]
          exact congrArg (fun z => [_, _, AObj.cells (.t 301) 0 z]) (set_cellsW w 61).symm
        · conv => whnf
          refine ⟨by kernel_rfl, ?_⟩
          conv => whnf
          refine ⟨rfl, ?_⟩
          conv => whnf
          refine ⟨rfl, ?_⟩
          conv => whnf
          refine ⟨_, _, rfl, rotA (w 47) (hlt 47), ?_⟩
          conv => whnf
          refine ⟨rfl, ?_⟩
          conv => whnf
          refine ⟨rfl, ?_⟩
          conv => whnf
          refine ⟨_, _, rfl, rotB (w 60) (hlt 60), ?_⟩
          conv => whnf
          refine ⟨⟨63, by omega, by omega⟩, by dsimp only; omega, SubE.of ⟨rfl, rfl, rfl, rfl, rfl, trivial⟩, ?_⟩
          show [_, _, AObj.cells (.t 301) 0 (cellsW w 63)] = [_, _, AObj.cells (.t 301) 0 ((cellsW w 62).set 62 (.p (.lit (.int .u32 (IntKind.u32.wrap (IntKind.u32.wrap (IntKind.u32.wrap (((w 46 : Nat) : Int) + ((rotS (w 47) 7 18 3 : Nat) : Int)) + ((w 55 : Nat) : Int)) + ((rotS (w 60) 17 19 10 : Nat) : Int)))))))]
          rw [add4, hstep 62 (by omega)]
          exact congrArg (fun z => [_, _, AObj.cells (.t 301) 0 z]) (set_cellsW w 62).symm
        · conv => whnf
          refine ⟨by kernel_rfl, ?_⟩
          conv => whnf
          refine ⟨rfl, ?_⟩
          conv => whnf
          refine ⟨rfl, ?_⟩
          conv => whnf
          refine ⟨_, _, rfl, rotA (w 48) (hlt 48), ?_⟩
          conv => whnf
          refine ⟨rfl, ?_⟩
          conv => whnf
          refine ⟨rfl, ?_⟩
          conv => whnf
          refine ⟨_, _, rfl, rotB (w 61) (hlt 61), ?_⟩
          conv => whnf
          refine ⟨⟨64, by omega, by omega⟩, by dsimp only; omega, SubE.of ⟨rfl, rfl, rfl, rfl, rfl, trivial⟩, ?_⟩
          show [_, _, AObj.cells (.t 301) 0 (cellsW w 64)] = [_, _, AObj.cells (.t 301) 0 ((cellsW w 63).set 63 (.p (.lit (.int .u32 (IntKind.u32.wrap (IntKind.u32.wrap (IntKind.u32.wrap (((w 47 : Nat) : Int) + ((rotS (w 48) 7 18 3 : Nat) : Int)) + ((w 56 : Nat) : Int)) + ((rotS (w 61) 17 19 10 : Nat) : Int)))))))]
          rw [add4, hstep 63 (by omega)]
          exact congrArg (fun z => [_, _, AObj.cells (.t 301) 0 z]) (set_cellsW w 63).symm
        · conv => whnf
          refine .inr ⟨{ i : Nat // i ≤ 64 }, fun i => [(1, .p (.rp ((List.range 64).map fun i => u32 (k i)))), (3, .ptr 0 0 0), (6, .ptr 1 0 0), (7, .ptr 2 0 0), (12, .ptr 3 0 0), (64, .p (i64 i))],
            fun i => [.cells (.t 299) 0 (h.ds.map .p), .cells (.t 299) 0 (List.replicate 8 (.p (u32 0))), .cells (.t 301) 0 (cellsW w 64), .cells (.t 299) 0 ((v i).ds.map .p)], fun i => 64 - i.1, ⟨0, by omega⟩, ?_, ?_, ?_⟩
          · exact SubE.of ⟨rfl, rfl, rfl, rfl, rfl, rfl, trivial⟩
          · show [_, _, AObj.cells (.t 301) 0 (cellsW w 64), AObj.cells (.t 299) 0 ((v 0).ds.map .p)] = [_, _, AObj.cells (.t 301) 0 (cellsW w 64), AObj.cells (.t 299) 0 (h.ds.map .p)]
            rw [hv0]
            rfl
          rintro ⟨i, hi⟩
          have : i = 0 ∨ i = 1 ∨ i = 2 ∨ i = 3 ∨ i = 4 ∨ i = 5 ∨ i = 6 ∨ i = 7 ∨ i = 8 ∨ i = 9 ∨ i = 10 ∨ i = 11 ∨ i = 12 ∨ i = 13 ∨ i = 14 ∨ i = 15 ∨ i = 16 ∨ i = 17 ∨ i = 18 ∨ i = 19 ∨ i = 20 ∨ i = 21 ∨ i = 22 ∨ i = 23 ∨ i = 24 ∨ i = 25 ∨ i = 26 ∨ i = 27 ∨ i = 28 ∨ i = 29 ∨ i = 30 ∨ i = 31 ∨ i = 32 ∨ i = 33 ∨ i = 34 ∨ i = 35 ∨ i = 36 ∨ i = 37 ∨ i = 38 ∨ i = 39 ∨ i = 40 ∨ i = 41 ∨ i = 42 ∨ i = 43 ∨ i = 44 ∨ i = 45 ∨ i = 46 ∨ i = 47 ∨ i = 48 ∨ i = 49 ∨ i = 50 ∨ i = 51 ∨ i = 52 ∨ i = 53 ∨ i = 54 ∨ i = 55 ∨ i = 56 ∨ i = 57 ∨ i = 58 ∨ i = 59 ∨ i = 60 ∨ i = 61 ∨ i = 62 ∨ i = 63 ∨ i = 64 := by omega
          rcases this with rfl | rfl | rfl | rfl | rfl | rfl | rfl | rfl | rfl | rfl | rfl | rfl | rfl | rfl | rfl | rfl | rfl | rfl | rfl | rfl | rfl | rfl | rfl | rfl | rfl | rfl | rfl | rfl | rfl | rfl | rfl | rfl | rfl | rfl | rfl | rfl | rfl | rfl | rfl | rfl | rfl | rfl | rfl | rfl | rfl | rfl | rfl | rfl | rfl | rfl | rfl | rfl | rfl | rfl | rfl | rfl | rfl | rfl | rfl | rfl | rfl | rfl | rfl | rfl | rfl
          · conv => whnf
            refine ⟨by kernel_rfl, ?_⟩
            conv => whnf
            refine ⟨rfl, ?_⟩
            conv => whnf
            refine ⟨rfl, ?_⟩
            conv => whnf
            refine ⟨_, _, rfl, rotC (v 0).e (hv 0).2.2.2.2.1, ?_⟩
            conv => whnf
            refine ⟨rfl, ?_⟩
            conv => whnf
            refine ⟨rfl, ?_⟩
            conv => whnf
            refine ⟨rfl, ?_⟩
            conv => whnf
            refine ⟨rfl, ?_⟩
            conv => whnf
            refine ⟨rfl, ?_⟩
            conv => whnf
            refine ⟨rfl, ?_⟩
            conv => whnf
            refine ⟨by kernel_rfl, ?_⟩
            conv => whnf
            refine ⟨rfl, ?_⟩
            conv => whnf
            refine ⟨_, _, rfl, rotD (v 0).a (hv 0).1, ?_⟩
            conv => whnf
            refine ⟨rfl, ?_⟩
            conv => whnf
            refine ⟨rfl, ?_⟩
            conv => whnf
            refine ⟨rfl, ?_⟩
            conv => whnf
            refine ⟨rfl, ?_⟩
            conv => whnf
            refine ⟨rfl, ?_⟩
            conv => whnf
            refine ⟨by kernel_rfl, ?_⟩
            conv => whnf
            refine ⟨⟨1, by omega⟩, by dsimp only; omega, SubE.of ⟨rfl, rfl, rfl, rfl, rfl, rfl, trivial⟩, ?_⟩
            show [_, _, _, AObj.cells (.t 299) 0 ((v 1).ds.map .p)] = [_, _, _, AObj.cells (.t 299) 0 [.p (.lit (.int .u32 (w32 (xI (v 0) (k 0) (w 0) + yI (v 0))))), .p (u32 (v 0).a), .p (u32 (v 0).b), .p (u32 (v 0).c), .p (.lit (.int .u32 (w32 (((v 0).d : Int) + xI (v 0) (k 0) (w 0))))), .p (u32 (v 0).e), .p (u32 (v 0).f), .p (u32 (v 0).g)]]
            rw [xI_eq _ _ _ (hv 0), yI_eq _ (hv 0), w32_add, w32_add, hr 0 (by omega)]
            rfl
          · conv => whnf
            refine ⟨by kernel_rfl, ?_⟩
            conv => whnf
            refine ⟨rfl, ?_⟩
            conv => whnf
            refine ⟨rfl, ?_⟩
            conv => whnf
            refine ⟨_, _, rfl, rotC (v 1).e (hv 1).2.2.2.2.1, ?_⟩
            conv => whnf
            refine ⟨rfl, ?_⟩
            conv => whnf
            refine ⟨rfl, ?_⟩
            conv => whnf
            refine ⟨rfl, ?_⟩
            conv => whnf
            refine ⟨rfl, ?_⟩
            conv => whnf
            refine ⟨rfl, ?_⟩
            conv => whnf
            refine ⟨rfl, ?_⟩
            conv => whnf
            refine ⟨by kernel_rfl, ?_⟩
            conv => whnf
            refine ⟨rfl, ?_⟩
            conv => whnf
            refine ⟨_, _, rfl, rotD (v 1).a (hv 1).1, ?_⟩
            conv => whnf
            refine ⟨rfl, ?_⟩
            conv => whnf
            refine ⟨rfl, ?_⟩
            conv => whnf
            refine ⟨rfl, ?_⟩
            conv => whnf
            refine ⟨rfl, ?_⟩
            conv => whnf
            refine ⟨rfl, ?_⟩
            conv => whnf
            refine ⟨by kernel_rfl, ?_⟩
            conv => whnf
            refine ⟨⟨2, by omega⟩, by dsimp only; omega, SubE.of ⟨rfl, rfl, rfl, rfl, rfl, rfl, trivial⟩, ?_⟩
            show [_, _, _, AObj.cells (.t 299) 0 ((v 2).ds.map .p)] = [_, _, _, AObj.cells (.t 299) 0 [.p (.lit (.int .u32 (w32 (xI (v 1) (k 1) (w 1) + yI (v 1))))), .p (u32 (v 1).a), .p (u32 (v 1).b), .p (u32 (v 1).c), .p (.lit (.int .u32 (w32 (((v 1).d : Int) + xI (v 1) (k 1) (w 1))))), .p (u32 (v 1).e), .p (u32 (v 1).f), .p (u32 (v 1).g)]]
            rw [xI_eq _ _ _ (hv 1), yI_eq _ (hv 1), w32_add, w32_add, hr 1 (by omega)]
            rfl
          · conv => whnf
            refine ⟨by kernel_rfl, ?_⟩
            conv => whnf
            refine ⟨rfl, ?_⟩
            conv => whnf
            refine ⟨rfl, ?_⟩
            conv => whnf
            refine ⟨_, _, rfl, rotC (v 2).e (hv 2).2.2.2.2.1, ?_⟩
            conv => whnf
            refine ⟨rfl, ?_⟩
            conv => whnf
            refine ⟨rfl, ?_⟩
            conv => whnf
            refine ⟨rfl, ?_⟩
            conv => whnf
            refine ⟨rfl, ?_⟩
            conv => whnf
            refine ⟨rfl, ?_⟩
            conv => whnf
            refine ⟨rfl, ?_⟩
            conv => whnf
            refine ⟨by kernel_rfl, ?_⟩
            conv => whnf
            refine ⟨rfl, ?_⟩
            conv => whnf
            refine ⟨_, _, rfl, rotD (v 2).a (hv 2).1, ?_⟩
            conv => whnf
            refine ⟨rfl, ?_⟩
            conv => whnf
            refine ⟨rfl, ?_⟩
            conv => whnf
            refine ⟨rfl, ?_⟩
            conv => whnf
            refine ⟨rfl, ?_⟩
            conv => whnf
            refine ⟨rfl, ?_⟩
            conv => whnf
            refine ⟨by kernel_rfl, ?_⟩
            conv => whnf
            refine ⟨⟨3, by omega⟩, by dsimp only; omega, SubE.of ⟨rfl, rfl, rfl, rfl, rfl, rfl, trivial⟩, ?_⟩
            show [_, _, _, AObj.cells (.t 299) 0 ((v 3).ds.map .p)] = [_, _, _, AObj.cells (.t 299) 0 [.p (.lit (.int .u32 (w32 (xI (v 2) (k 2) (w 2) + yI (v 2))))), .p (u32 (v 2).a), .p (u32 (v 2).b), .p (u32 (v 2).c), .p (.lit (.int .u32 (w32 (((v 2).d : Int) + xI (v 2) (k 2) (w 2))))), .p (u32 (v 2).e), .p (u32 (v 2).f), .p (u32 (v 2).g)]]
            rw [xI_eq _ _ _ (hv 2), yI_eq _ (hv 2), w32_add, w32_add, hr 2 (by omega)]
            rfl
          · conv => whnf
            refine ⟨by kernel_rfl, ?_⟩
            conv => whnf
            refine ⟨rfl, ?_⟩
            conv => whnf
            refine ⟨rfl, ?_⟩
            conv => whnf
            refine ⟨_, _, rfl, rotC (v 3).e (hv 3).2.2.2.2.1, ?_⟩
            conv => whnf
            refine ⟨rfl, ?_⟩
            conv => whnf
            refine ⟨rfl, ?_⟩
            conv => whnf
            refine ⟨rfl, ?_⟩
            conv => whnf
            refine ⟨rfl, ?_⟩
            conv => whnf
            refine ⟨rfl, ?_⟩
            conv => whnf
            refine ⟨rfl, ?_⟩
            conv => whnf
            refine ⟨by kernel_rfl, ?_⟩
            conv => whnf
            refine ⟨rfl, ?_⟩
            conv => whnf
            refine ⟨_, _, rfl, rotD (v 3).a (hv 3).1, ?_⟩
            conv => whnf
            refine ⟨rfl, ?_⟩
            conv => whnf
            refine ⟨rfl, ?_⟩
            conv => whnf
            refine ⟨rfl, ?_⟩
            conv => whnf
            refine ⟨rfl, ?_⟩
            conv => whnf
            refine ⟨rfl, ?_⟩
            conv => whnf
            refine ⟨by kernel_rfl, ?_⟩
            conv => whnf
            refine ⟨⟨4, by omega⟩, by dsimp only; omega, SubE.of ⟨rfl, rfl, rfl, rfl, rfl, rfl, trivial⟩, ?_⟩
            show [_, _, _, AObj.cells (.t 299) 0 ((v 4).ds.map .p)] = [_, _, _, AObj.cells (.t 299) 0 [.p (.lit (.int .u32 (w32 (xI (v 3) (k 3) (w 3) + yI (v 3))))), .p (u32 (v 3).a), .p (u32 (v 3).b), .p (u32 (v 3).c), .p (.lit (.int .u32 (w32 (((v 3).d : Int) + xI (v 3) (k 3) (w 3))))), .p (u32 (v 3).e), .p (u32 (v 3).f), .p (u32 (v 3).g)]]
            rw [xI_eq _ _ _ (hv 3), yI_eq _ (hv 3), w32_add, w32_add, hr 3 (by omega)]
            rfl
          · conv => whnf
            refine ⟨by kernel_rfl, ?_⟩
            conv => whnf
            refine ⟨rfl, ?_⟩
            conv => whnf
            refine ⟨rfl, ?_⟩
            conv => whnf
            refine ⟨_, _, rfl, rotC (v 4).e (hv 4).2.2.2.2.1, ?_⟩
            conv => whnf
            refine ⟨rfl, ?_⟩
            conv => whnf
            refine ⟨rfl, ?_⟩
            conv => whnf
            refine ⟨rfl, ?_⟩
            conv => whnf
            refine ⟨rfl, ?_⟩
            conv => whnf
            refine ⟨rfl, ?_⟩
            conv => whnf
            refine ⟨rfl, ?_⟩
            conv => whnf
            refine ⟨by kernel_rfl, ?_⟩
            conv => whnf
            refine ⟨rfl, ?_⟩
            conv => whnf
            refine ⟨_, _, rfl, rotD (v 4).a (hv 4).1, ?_⟩
            conv => whnf
            refine ⟨rfl, ?_⟩
            conv => whnf
            refine ⟨rfl, ?_⟩
            conv => whnf
            refine ⟨rfl, ?_⟩
            conv => whnf
            refine ⟨rfl, ?_⟩
            conv => whnf
            refine ⟨rfl, ?_⟩
            conv => whnf
            refine ⟨by kernel_rfl, ?_⟩
            conv => whnf
            refine ⟨⟨5, by omega⟩, by dsimp only; omega, SubE.of ⟨rfl, rfl, rfl, rfl, rfl, rfl, trivial⟩, ?_⟩
            show [_, _, _, AObj.cells (.t 299) 0 ((v 5).ds.map .p)] = [_, _, _, AObj.cells (.t 299) 0 [.p (.lit (.int .u32 (w32 (xI (v 4) (k 4) (w 4) + yI (v 4))))), .p (u32 (v 4).a), .p (u32 (v 4).b), .p (u32 (v 4).c), .p (.lit (.int .u32 (w32 (((v 4).d : Int) + xI (v 4) (k 4) (w 4))))), .p (u32 (v 4).e), .p (u32 (v 4).f), .p (u32 (v 4).g)]]
            rw [xI_eq _ _ _ (hv 4), yI_eq _ (hv 4), w32_add, w32_add, hr 4 (by omega)]
            rfl
          · conv => whnf
            refine ⟨by kernel_rfl, ?_⟩
            conv => whnf
            refine ⟨rfl, ?_⟩
            conv => whnf
            refine ⟨rfl, ?_⟩
            conv => whnf
            refine ⟨_, _, rfl, rotC (v 5).e (hv 5).2.2.2.2.1, ?_⟩
            conv => whnf
            refine ⟨rfl, ?_⟩
            conv => whnf
            refine ⟨rfl, ?_⟩
            conv => whnf
            refine ⟨rfl, ?_⟩
            conv => whnf
            refine ⟨rfl, ?_⟩
            conv => whnf
            refine ⟨rfl, ?_⟩
            conv => whnf
            refine ⟨rfl, ?_⟩
            conv => whnf
            refine ⟨by kernel_rfl, ?_⟩
            conv => whnf
            refine ⟨rfl, ?_⟩
            conv => whnf
            refine ⟨_, _, rfl, rotD (v 5).a (hv 5).1, ?_⟩
            conv => whnf
            refine ⟨rfl, ?_⟩
            conv => whnf
            refine ⟨rfl, ?_⟩
            conv => whnf
            refine ⟨rfl, ?_⟩
            conv => whnf
            refine ⟨rfl, ?_⟩
            conv => whnf
            refine ⟨rfl, ?_⟩
            conv => whnf
            refine ⟨by kernel_rfl, ?_⟩
            conv => whnf
            refine ⟨⟨6, by omega⟩, by dsimp only; omega, SubE.of ⟨rfl, rfl, rfl, rfl, rfl, rfl, trivial⟩, ?_⟩
            show [_, _, _, AObj.cells (.t 299) 0 ((v 6).ds.map .p)] = [_, _, _, AObj.cells (.t 299) 0 [.p (.lit (.int .u32 (w32 (xI (v 5) (k 5) (w 5) + yI (v 5))))), .p (u32 (v 5).a), .p (u32 (v 5).b), .p (u32 (v 5).c), .p (.lit (.int .u32 (w32 (((v 5).d : Int) + xI (v 5) (k 5) (w 5))))), .p (u32 (v 5).e), .p (u32 (v 5).f), .p (u32 (v 5).g)]]
            rw [xI_eq _ _ _ (hv 5), yI_eq _ (hv 5), w32_add, w32_add, hr 5 (by omega)]
            rfl
          · conv => whnf
            refine ⟨by kernel_rfl, ?_⟩
            conv => whnf
            refine ⟨rfl, ?_⟩
            conv => whnf
            refine ⟨rfl, ?_⟩
            conv => whnf
            refine ⟨_, _, rfl, rotC (v 6).e (hv 6).2.2.2.2.1, ?_⟩
            conv => whnf
            refine ⟨rfl, ?_⟩
            conv => whnf
            refine ⟨rfl, ?_⟩
            conv => whnf
            refine ⟨rfl, ?_⟩
            conv => whnf
            refine ⟨rfl, ?_⟩
            conv => whnf
            refine ⟨rfl, ?_⟩
            conv => whnf
            refine ⟨rfl, ?_⟩
            conv => whnf
            refine ⟨by kernel_rfl, ?_⟩
            conv => whnf
            refine ⟨rfl, ?_⟩
            conv => whnf
            refine ⟨_, _, rfl, rotD (v 6).a (hv 6).1, ?_⟩
            conv => whnf
            refine ⟨rfl, ?_⟩
            conv => whnf
            refine ⟨rfl, ?_⟩
            conv => whnf
            refine ⟨rfl, ?_⟩
            conv => whnf
            refine ⟨rfl, ?_⟩
            conv => whnf
            refine ⟨rfl, ?_⟩
            conv => whnf
            refine ⟨by kernel_rfl, ?_⟩
            conv => whnf
            refine ⟨⟨7, by omega⟩, by dsimp only; omega, SubE.of ⟨rfl, rfl, rfl, rfl, rfl, rfl, trivial⟩, ?_⟩
            show [_, _, _, AObj.cells (.t 299) 0 ((v 7).ds.map .p)] = [_, _, _, AObj.cells (.t 299) 0 [.p (.lit (.int .u32 (w32 (xI (v 6) (k 6) (w 6) + yI (v 6))))), .p (u32 (v 6).a), .p (u32 (v 6).b), .p (u32 (v 6).c), .p (.lit (.int .u32 (w32 (((v 6).d : Int) + xI (v 6) (k 6) (w 6))))), .p (u32 (v 6).e), .p (u32 (v 6).f), .p (u32 (v 6).g)]]
            rw [xI_eq _ _ _ (hv 6), yI_eq _ (hv 6), w32_add, w32_add, hr 6 (by omega)]
            rfl
          · conv => whnf
            refine ⟨by kernel_rfl, ?_⟩
            conv => whnf
            refine ⟨rfl, ?_⟩
            conv => whnf
            refine ⟨rfl, ?_⟩
            conv => whnf
            refine ⟨_, _, rfl, rotC (v 7).e (hv 7).2.2.2.2.1, ?_⟩
            conv => whnf
            refine ⟨rfl, ?_⟩
            conv => whnf
            refine ⟨rfl, ?_⟩
            conv => whnf
            refine ⟨rfl, ?_⟩
            conv => whnf
            refine ⟨rfl, ?_⟩
            conv => whnf
            refine ⟨rfl, ?_⟩
            conv => whnf
            refine ⟨rfl, ?_⟩
            conv => whnf
            refine ⟨by kernel_rfl, ?_⟩
            conv => whnf
            refine ⟨rfl, ?_⟩
            conv => whnf
            refine ⟨_, _, rfl, rotD (v 7).a (hv 7).1, ?_⟩
            conv => whnf
            refine ⟨rfl, ?_⟩
            conv => whnf
            refine ⟨rfl, ?_⟩
            conv => whnf
            refine ⟨rfl, ?_⟩
            conv => whnf
            refine ⟨rfl, ?_⟩
            conv => whnf
            refine ⟨rfl, ?_⟩
            conv => whnf
            refine ⟨by kernel_rfl, ?_⟩
            conv => whnf
            refine ⟨⟨8, by omega⟩, by dsimp only; omega, SubE.of ⟨rfl, rfl, rfl, rfl, rfl, rfl, trivial⟩, ?_⟩
            show [_, _, _, AObj.cells (.t 299) 0 ((v 8).ds.map .p)] = [_, _, _, AObj.cells (.t 299) 0 [.p (.lit (.int .u32 (w32 (xI (v 7) (k 7) (w 7) + yI (v 7))))), .p (u32 (v 7).a), .p (u32 (v 7).b), .p (u32 (v 7).c), .p (.lit (.int .u32 (w32 (((v 7).d : Int) + xI (v 7) (k 7) (w 7))))), .p (u32 (v 7).e), .p (u32 (v 7).f), .p (u32 (v 7).g)]]
            rw [xI_eq _ _ _ (hv 7), yI_eq _ (hv 7), w32_add, w32_add, hr 7 (by omega)]
            rfl
          · conv => whnf
            refine ⟨by kernel_rfl, ?_⟩
            conv => whnf
            refine ⟨rfl, ?_⟩
            conv => whnf
            refine ⟨rfl, ?_⟩
            conv => whnf
            refine ⟨_, _, rfl, rotC (v 8).e (hv 8).2.2.2.2.1, ?_⟩
            conv => whnf
            refine ⟨rfl, ?_⟩
            conv => whnf
            refine ⟨rfl, ?_⟩
            conv => whnf
            refine ⟨rfl, ?_⟩
            conv => whnf
            refine ⟨rfl, ?_⟩
            conv => whnf
            refine ⟨rfl, ?_⟩
            conv => whnf
            refine ⟨rfl, ?_⟩
            conv => whnf
            refine ⟨by kernel_rfl, ?_⟩
            conv => whnf
            refine ⟨rfl, ?_⟩
            conv => whnf
            refine ⟨_, _, rfl, rotD (v 8).a (hv 8).1, ?_⟩
            conv => whnf
            refine ⟨rfl, ?_⟩
            conv => whnf
            refine ⟨rfl, ?_⟩
            conv => whnf
            refine ⟨rfl, ?_⟩
            conv => whnf
            refine ⟨rfl, ?_⟩
            conv => whnf
            refine ⟨rfl, ?_⟩
            conv => whnf
            refine ⟨by kernel_rfl, ?_⟩
            conv => whnf
            refine ⟨⟨9, by omega⟩, by dsimp only; omega, SubE.of ⟨rfl, rfl, rfl, rfl, rfl, rfl, trivial⟩, ?_⟩
            show [_, _, _, AObj.cells (.t 299) 0 ((v 9).ds.map .p)] = [_, _, _, AObj.cells (.t 299) 0 [.p (.lit (.int .u32 (w32 (xI (v 8) (k 8) (w 8) + yI (v 8))))), .p (u32 (v 8).a), .p (u32 (v 8).b), .p (u32 (v 8).c), .p (.lit (.int .u32 (w32 (((v 8).d : Int) + xI (v 8) (k 8) (w 8))))), .p (u32 (v 8).e), .p (u32 (v 8).f), .p (u32 (v 8).g)]]
            rw [xI_eq _ _ _ (hv 8), yI_eq _ (hv 8), w32_add, w32_add, hr 8 (by omega)]
            rfl
          · conv => whnf
            refine ⟨by kernel_rfl, ?_⟩
            conv => whnf
            refine ⟨rfl, ?_⟩
            conv => whnf
            refine ⟨rfl, ?_⟩
            conv => whnf
            refine ⟨_, _, rfl, rotC (v 9).e (hv 9).2.2.2.2.1, ?_⟩
            conv => whnf
            refine ⟨rfl, ?_⟩
            conv => whnf
            refine ⟨rfl, ?_⟩
            conv => whnf
            refine ⟨rfl, ?_⟩
            conv => whnf
            refine ⟨rfl, ?_⟩
            conv => whnf
            refine ⟨rfl, ?_⟩
            conv => whnf
            refine ⟨rfl, ?_⟩
            conv => whnf
            refine ⟨by kernel_rfl, ?_⟩
            conv => whnf
            refine ⟨rfl, ?_⟩
            conv => whnf
            refine ⟨_, _, rfl, rotD (v 9).a (hv 9).1, ?_⟩
            conv => whnf
            refine ⟨rfl, ?_⟩
            conv => whnf
            refine ⟨rfl, ?_⟩
            conv => whnf
            refine ⟨rfl, ?_⟩
            conv => whnf
            refine ⟨rfl, ?_⟩
            conv => whnf
            refine ⟨rfl, ?_⟩
            conv => whnf
            refine ⟨by kernel_rfl, ?_⟩
            conv => whnf
            refine ⟨⟨10, by omega⟩, by dsimp only; omega, SubE.of ⟨rfl, rfl, rfl, rfl, rfl, rfl, trivial⟩, ?_⟩
            show [_, _, _, AObj.cells (.t 299) 0 ((v 10).ds.map .p)] = [_, _, _, AObj.cells (.t 299) 0 [.p (.lit (.int .u32 (w32 (xI (v 9) (k 9) (w 9) + yI (v 9))))), .p (u32 (v 9).a), .p (u32 (v 9).b), .p (u32 (v 9).c), .p (.lit (.int .u32 (w32 (((v 9).d : Int) + xI (v 9) (k 9) (w 9))))), .p (u32 (v 9).e), .p (u32 (v 9).f), .p (u32 (v 9).g)]]
            rw [xI_eq _ _ _ (hv 9), yI_eq _ (hv 9), w32_add, w32_add, hr 9 (by omega)]
            rfl
          · conv => whnf
            refine ⟨by kernel_rfl, ?_⟩
            conv => whnf
            refine ⟨rfl, ?_⟩
            conv => whnf
            refine ⟨rfl, ?_⟩
            conv => whnf
            refine ⟨_, _, rfl, rotC (v 10).e (hv 10).2.2.2.2.1, ?_⟩
            conv => whnf
            refine ⟨rfl, ?_⟩
            conv => whnf
            refine ⟨rfl, ?_⟩
            conv => whnf
            refine ⟨rfl, ?_⟩
            conv => whnf
            refine ⟨rfl, ?_⟩
            conv => whnf
            refine ⟨rfl, ?_⟩
            conv => whnf
            refine ⟨rfl, ?_⟩
            conv => whnf
            refine ⟨by kernel_rfl, ?_⟩
            conv => whnf
            refine ⟨rfl, ?_⟩
            conv => whnf
            refine ⟨_, _, rfl, rotD (v 10).a (hv 10).1, ?_⟩
            conv => whnf
            refine ⟨rfl, ?_⟩
            conv => whnf
            refine ⟨rfl, ?_⟩
            conv => whnf
            refine ⟨rfl, ?_⟩
            conv => whnf
            refine ⟨rfl, ?_⟩
            conv => whnf
            refine ⟨rfl, ?_⟩
            conv => whnf
            refine ⟨by kernel_rfl, ?_⟩
            conv => whnf
            refine ⟨⟨11, by omega⟩, by dsimp only; omega, SubE.of ⟨rfl, rfl, rfl, rfl, rfl, rfl, trivial⟩, ?_⟩
            show [_, _, _, AObj.cells (.t 299) 0 ((v 11).ds.map .p)] = [_, _, _, AObj.cells (.t 299) 0 [.p (.lit (.int .u32 (w32 (xI (v 10) (k 10) (w 10) + yI (v 10))))), .p (u32 (v 10).a), .p (u32 (v 10).b), .p (u32 (v 10).c), .p (.lit (.int .u32 (w32 (((v 10).d : Int) + xI (v 10) (k 10) (w 10))))), .p (u32 (v 10).e), .p (u32 (v 10).f), .p (u32 (v 10).g)]]
            rw [xI_eq _ _ _ (hv 10), yI_eq _ (hv 10), w32_add, w32_add, hr 10 (by omega)]
            rfl
          · conv => whnf
            refine ⟨by kernel_rfl, ?_⟩
            conv => whnf
            refine ⟨rfl, ?_⟩
            conv => whnf
            refine ⟨rfl, ?_⟩
            conv => whnf
            refine ⟨_, _, rfl, rotC (v 11).e (hv 11).2.2.2.2.1, ?_⟩
            conv => whnf
            refine ⟨rfl, ?_⟩
            conv => whnf
            refine ⟨rfl, ?_⟩
            conv => whnf
            refine ⟨rfl, ?_⟩
            conv => whnf
            refine ⟨rfl, ?_⟩
            conv => whnf
            refine ⟨rfl, ?_⟩
            conv => whnf
            refine ⟨rfl, ?_⟩
            conv => whnf
            refine ⟨by kernel_rfl, ?_⟩
            conv => whnf
            refine ⟨rfl, ?_⟩
            conv => whnf
            refine ⟨_, _, rfl, rotD (v 11).a (hv 11).1, ?_⟩
            conv => whnf
            refine ⟨rfl, ?_⟩
            conv => whnf
            refine ⟨rfl, ?_⟩
            conv => whnf
            refine ⟨rfl, ?_⟩
            conv => whnf
            refine ⟨rfl, ?_⟩
            conv => whnf
            refine ⟨rfl, ?_⟩
            conv => whnf
            refine ⟨by kernel_rfl, ?_⟩
            conv => whnf
            refine ⟨⟨12, by omega⟩, by dsimp only; omega, SubE.of ⟨rfl, rfl, rfl, rfl, rfl, rfl, trivial⟩, ?_⟩
            show [_, _, _, AObj.cells (.t 299) 0 ((v 12).ds.map .p)] = [_, _, _, AObj.cells (.t 299) 0 [.p (.lit (.int .u32 (w32 (xI (v 11) (k 11) (w 11) + yI (v 11))))), .p (u32 (v 11).a), .p (u32 (v 11).b), .p (u32 (v 11).c), .p (.lit (.int .u32 (w32 (((v 11).d : Int) + xI (v 11) (k 11) (w 11))))), .p (u32 (v 11).e), .p (u32 (v 11).f), .p (u32 (v 11).g)]]
            rw [xI_eq _ _ _ (hv 11), yI_eq _ (hv 11), w32_add, w32_add, hr 11 (by omega)]
            rfl
          · conv => whnf
            refine ⟨by kernel_rfl, ?_⟩
            conv => whnf
            refine ⟨rfl, ?_⟩
            conv => whnf
            refine ⟨rfl, ?_⟩
            conv => whnf
            refine ⟨_, _, rfl, rotC (v 12).e (hv 12).2.2.2.2.1, ?_⟩
            conv => whnf
            refine ⟨rfl, ?_⟩
            conv => whnf
            refine ⟨rfl, ?_⟩
            conv => whnf
            refine ⟨rfl, ?_⟩
            conv => whnf
            refine ⟨rfl, ?_⟩
            conv => whnf
            refine ⟨rfl, ?_⟩
            conv => whnf
            refine ⟨rfl, ?_⟩
            conv => whnf
            refine ⟨by kernel_rfl, ?_⟩
            conv => whnf
            refine ⟨rfl, ?_⟩
            conv => whnf
            refine ⟨_, _, rfl, rotD (v 12).a (hv 12).1, ?_⟩
            conv => whnf
            refine ⟨rfl, ?_⟩
            conv => whnf
            refine ⟨rfl, ?_⟩
            conv => whnf
            refine ⟨rfl, ?_⟩
            conv => whnf
            refine ⟨rfl, ?_⟩
            conv => whnf
            refine ⟨rfl, ?_⟩
            conv => whnf
            refine ⟨by kernel_rfl, ?_⟩
            conv => whnf
            refine ⟨⟨13, by omega⟩, by dsimp only; omega, SubE.of ⟨rfl, rfl, rfl, rfl, rfl, rfl, trivial⟩, ?_⟩
            show [_, _, _, AObj.cells (.t 299) 0 ((v 13).ds.map .p)] = [_, _, _, AObj.cells (.t 299) 0 [.p (.lit (.int .u32 (w32 (xI (v 12) (k 12) (w 12) + yI (v 12))))), .p (u32 (v 12).a), .p (u32 (v 12).b), .p (u32 (v 12).c), .p (.lit (.int .u32 (w32 (((v 12).d : Int) + xI (v 12) (k 12) (w 12))))), .p (u32 (v 12).e), .p (u32 (v 12).f), .p (u32 (v 12).g)]]
            rw [xI_eq _ _ _ (hv 12), yI_eq _ (hv 12), w32_add, w32_add, hr 12 (by omega)]
            rfl
          · conv => whnf
            refine ⟨by kernel_rfl, ?_⟩
            conv => whnf
            refine ⟨rfl, ?_⟩
            conv => whnf
            refine ⟨rfl, ?_⟩
            conv => whnf
            refine ⟨_, _, rfl, rotC (v 13).e (hv 13).2.2.2.2.1, ?_⟩
            conv => whnf
            refine ⟨rfl, ?_⟩
            conv => whnf
            refine ⟨rfl, ?_⟩
            conv => whnf
            refine ⟨rfl, ?_⟩
            conv => whnf
            refine ⟨rfl, ?_⟩
            conv => whnf
            refine ⟨rfl, ?_⟩
            conv => whnf
            refine ⟨rfl, ?_⟩
            conv => whnf
            refine ⟨by kernel_rfl, ?_⟩
            conv => whnf
            refine ⟨rfl, ?_⟩
            conv => whnf
            refine ⟨_, _, rfl, rotD (v 13).a (hv 13).1, ?_⟩
            conv => whnf
            refine ⟨rfl, ?_⟩
            conv => whnf
            refine ⟨rfl, ?_⟩
            conv => whnf
            refine ⟨rfl, ?_⟩
            conv => whnf
            refine ⟨rfl, ?_⟩
            conv => whnf
            refine ⟨rfl, ?_⟩
            conv => whnf
            refine ⟨by kernel_rfl, ?_⟩
            conv => whnf
            refine ⟨⟨14, by omega⟩, by dsimp only; omega, SubE.of ⟨rfl, rfl, rfl, rfl, rfl, rfl, trivial⟩, ?_⟩
            show [_, _, _, AObj.cells (.t 299) 0 ((v 14).ds.map .p)] = [_, _, _, AObj.cells (.t 299) 0 [.p (.lit (.int .u32 (w32 (xI (v 13) (k 13) (w 13) + yI (v 13))))), .p (u32 (v 13).a), .p (u32 (v 13).b), .p (u32 (v 13).c), .p (.lit (.int .u32 (w32 (((v 13).d : Int) + xI (v 13) (k 13) (w 13))))), .p (u32 (v 13).e), .p (u32 (v 13).f), .p (u32 (v 13).g)]]
            rw [xI_eq _ _ _ (hv 13), yI_eq _ (hv 13), w32_add, w32_add, hr 13 (by omega)]
            rfl
          · conv => whnf
            refine ⟨by kernel_rfl, ?_⟩
            conv => whnf
            refine ⟨rfl, ?_⟩
            conv => whnf
            refine ⟨rfl, ?_⟩
            conv => whnf
            refine ⟨_, _, rfl, rotC (v 14).e (hv 14).2.2.2.2.1, ?_⟩
            conv => whnf
            refine ⟨rfl, ?_⟩
            conv => whnf
            refine ⟨rfl, ?_⟩
            conv => whnf
            refine ⟨rfl, ?_⟩
            conv => whnf
            refine ⟨rfl, ?_⟩
            conv => whnf
            refine ⟨rfl, ?_⟩
            conv => whnf
            refine ⟨rfl, ?_⟩
            conv => whnf
            refine ⟨by kernel_rfl, ?_⟩
            conv => whnf
            refine ⟨rfl, ?_⟩
            conv => whnf
            refine ⟨_, _, rfl, rotD (v 14).a (hv 14).1, ?_⟩
            conv => whnf
            refine ⟨rfl, ?_⟩
            conv => whnf
            refine ⟨rfl, ?_⟩
            conv => whnf
            refine ⟨rfl, ?_⟩
            conv => whnf
            refine ⟨rfl, ?_⟩
            conv => whnf
            refine ⟨rfl, ?_⟩
            conv => whnf
            refine ⟨by kernel_rfl, ?_⟩
            conv => whnf
            refine ⟨⟨15, by omega⟩, by dsimp only; omega, SubE.of ⟨rfl, rfl, rfl, rfl, rfl, rfl, trivial⟩, ?_⟩
            show [_, _, _, AObj.cells (.t 299) 0 ((v 15).ds.map .p)] = [_, _, _, AObj.cells (.t 299) 0 [.p (.lit (.int .u32 (w32 (xI (v 14) (k 14) (w 14) + yI (v 14))))), .p (u32 (v 14).a), .p (u32 (v 14).b), .p (u32 (v 14).c), .p (.lit (.int .u32 (w32 (((v 14).d : Int) + xI (v 14) (k 14) (w 14))))), .p (u32 (v 14).e), .p (u32 (v 14).f), .p (u32 (v 14).g)]]
            rw [xI_eq _ _ _ (hv 14), yI_eq _ (hv 14), w32_add, w32_add, hr 14 (by omega)]
            rfl
          · conv => whnf
            refine ⟨by kernel_rfl, ?_⟩
            conv => whnf
            refine ⟨rfl, ?_⟩
            conv => whnf
            refine ⟨rfl, ?_⟩
            conv => whnf
            refine ⟨_, _, rfl, rotC (v 15).e (hv 15).2.2.2.2.1, ?_⟩
            conv => whnf
            refine ⟨rfl, ?_⟩
            conv => whnf
            refine ⟨rfl, ?_⟩
            conv => whnf
            refine ⟨rfl, ?_⟩
            conv => whnf
            refine ⟨rfl, ?_⟩
            conv => whnf
            refine ⟨rfl, ?_⟩
            conv => whnf
            refine ⟨rfl, ?_⟩
            conv => whnf
            refine ⟨by kernel_rfl, ?_⟩
            conv => whnf
            refine ⟨rfl, ?_⟩
            conv => whnf
            refine ⟨_, _, rfl, rotD (v 15).a (hv 15).1, ?_⟩
            conv => whnf
            refine ⟨rfl, ?_⟩
            conv => whnf
            refine ⟨rfl, ?_⟩
            conv => whnf
            refine ⟨rfl, ?_⟩
            conv => whnf
            refine ⟨rfl, ?_⟩
            conv => whnf
            refine ⟨rfl, ?_⟩
            conv => whnf
            refine ⟨by kernel_rfl, ?_⟩
            conv => whnf
            refine ⟨⟨16, by omega⟩, by dsimp only; omega, SubE.of ⟨rfl, rfl, rfl, rfl, rfl, rfl, trivial⟩, ?_⟩
            show [_, _, _, AObj.cells (.t 299) 0 ((v 16).ds.map .p)] = [_, _, _, AObj.cells (.t 299) 0 [.p (.lit (.int .u32 (w32 (xI (v 15) (k 15) (w 15) + yI (v 15))))), .p (u32 (v 15).a), .p (u32 (v 15).b), .p (u32 (v 15).c), .p (.lit (.int .u32 (w32 (((v 15).d : Int) + xI (v 15) (k 15) (w 15))))), .p (u32 (v 15).e), .p (u32 (v 15).f), .p (u32 (v 15).g)]]
            rw [xI_eq _ _ _ (hv 15), yI_eq _ (hv 15), w32_add, w32_add, hr 15 (by omega)]
            rfl
          · conv => whnf
            refine ⟨by kernel_rfl, ?_⟩
            conv => whnf
            refine ⟨rfl, ?_⟩
            conv => whnf
            refine ⟨rfl, ?_⟩
            conv => whnf
            refine ⟨_, _, rfl, rotC (v 16).e (hv 16).2.2.2.2.1, ?_⟩
            conv => whnf
            refine ⟨rfl, ?_⟩
            conv => whnf
            refine ⟨rfl, ?_⟩
            conv => whnf
            refine ⟨rfl, ?_⟩
            conv => whnf
            refine ⟨rfl, ?_⟩
            conv => whnf
            refine ⟨rfl, ?_⟩
            conv => whnf
            refine ⟨rfl, ?_⟩
            conv => whnf
            refine ⟨by kernel_rfl, ?_⟩
            conv => whnf
            refine ⟨rfl, ?_⟩
            conv => whnf
            refine ⟨_, _, rfl, rotD (v 16).a (hv 16).1, ?_⟩
            conv => whnf
            refine ⟨rfl, ?_⟩
            conv => whnf
            refine ⟨rfl, ?_⟩
            conv => whnf
            refine ⟨rfl, ?_⟩
            conv => whnf
            refine ⟨rfl, ?_⟩
            conv => whnf
            refine ⟨rfl, ?_⟩
            conv => whnf
            refine ⟨by kernel_rfl, ?_⟩
            conv => whnf
            refine ⟨⟨17, by omega⟩, by dsimp only; omega, SubE.of ⟨rfl, rfl, rfl, rfl, rfl, rfl, trivial⟩, ?_⟩
            show [_, _, _, AObj.cells (.t 299) 0 ((v 17).ds.map .p)] = [_, _, _, AObj.cells (.t 299) 0 [.p (.lit (.int .u32 (w32 (xI (v 16) (k 16) (w 16) + yI (v 16))))), .p (u32 (v 16).a), .p (u32 (v 16).b), .p (u32 (v 16).c), .p (.lit (.int .u32 (w32 (((v 16).d : Int) + xI (v 16) (k 16) (w 16))))), .p (u32 (v 16).e), .p (u32 (v 16).f), .p (u32 (v 16).g)]]
            rw [xI_eq _ _ _ (hv 16), yI_eq _ (hv 16), w32_add, w32_add, hr 16 (by omega)]
            rfl
          · conv => whnf
            refine ⟨by kernel_rfl, ?_⟩
            conv => whnf
            refine ⟨rfl, ?_⟩
            conv => whnf
            refine ⟨rfl, ?_⟩
            conv => whnf
            refine ⟨_, _, rfl, rotC (v 17).e (hv 17).2.2.2.2.1, ?_⟩
            conv => whnf
            refine ⟨rfl, ?_⟩
            conv => whnf
            refine ⟨rfl, ?_⟩
            conv => whnf
            refine ⟨rfl, ?_⟩
            conv => whnf
            refine ⟨rfl, ?_⟩
            conv => whnf
            refine ⟨rfl, ?_⟩
            conv => whnf
            refine ⟨rfl, ?_⟩
            conv => whnf
            refine ⟨by kernel_rfl, ?_⟩
            conv => whnf
            refine ⟨rfl, ?_⟩
            conv => whnf
            refine ⟨_, _, rfl, rotD (v 17).a (hv 17).1, ?_⟩
            conv => whnf
            refine ⟨rfl, ?_⟩
            conv => whnf
            refine ⟨rfl, ?_⟩
            conv => whnf
            refine ⟨rfl, ?_⟩
            conv => whnf
            refine ⟨rfl, ?_⟩
            conv => whnf
            refine ⟨rfl, ?_⟩
            conv => whnf
            refine ⟨by kernel_rfl, ?_⟩
            conv => whnf
            refine ⟨⟨18, by omega⟩, by dsimp only; omega, SubE.of ⟨rfl, rfl, rfl, rfl, rfl, rfl, trivial⟩, ?_⟩
            show [_, _, _, AObj.cells (.t 299) 0 ((v 18).ds.map .p)] = [_, _, _, AObj.cells (.t 299) 0 [.p (.lit (.int .u32 (w32 (xI (v 17) (k 17) (w 17) + yI (v 17))))), .p (u32 (v 17).a), .p (u32 (v 17).b), .p (u32 (v 17).c), .p (.lit (.int .u32 (w32 (((v 17).d : Int) + xI (v 17) (k 17) (w 17))))), .p (u32 (v 17).e), .p (u32 (v 17).f), .p (u32 (v 17).g)]]
            rw [xI_eq _ _ _ (hv 17), yI_eq _ (hv 17), w32_add, w32_add, hr 17 (by omega)]
            rfl
          · conv => whnf
            refine ⟨by kernel_rfl, ?_⟩
            conv => whnf
            refine ⟨rfl, ?_⟩
            conv => whnf
            refine ⟨rfl, ?_⟩
            conv => whnf
            refine ⟨_, _, rfl, rotC (v 18).e (hv 18).2.2.2.2.1, ?_⟩
            conv => whnf
            refine ⟨rfl, ?_⟩
            conv => whnf
            refine ⟨rfl, ?_⟩
            conv => whnf
            refine ⟨rfl, ?_⟩
            conv => whnf
            refine ⟨rfl, ?_⟩
            conv => whnf
            refine ⟨rfl, ?_⟩
            conv => whnf
            refine ⟨rfl, ?_⟩
            conv => whnf
            refine ⟨by kernel_rfl, ?_⟩
            conv => whnf
            refine ⟨rfl, ?_⟩
            conv => whnf
            refine ⟨_, _, rfl, rotD (v 18).a (hv 18).1, ?_⟩
            conv => whnf
            refine ⟨rfl, ?_⟩
            conv => whnf
            refine ⟨rfl, ?_⟩
            conv => whnf
            refine ⟨rfl, ?_⟩
            conv => whnf
            refine ⟨rfl, ?_⟩
            conv => whnf
            refine ⟨rfl, ?_⟩
            conv => whnf
            refine ⟨by kernel_rfl, ?_⟩
            conv => whnf
            refine ⟨⟨19, by omega⟩, by dsimp only; omega, SubE.of ⟨rfl, rfl, rfl, rfl, rfl, rfl, trivial⟩, ?_⟩
            show [_, _, _, AObj.cells (.t 299) 0 ((v 19).ds.map .p)] = [_, _, _, AObj.cells (.t 299) 0 [.p (.lit (.int .u32 (w32 (xI (v 18) (k 18) (w 18) + yI (v 18))))), .p (u32 (v 18).a), .p (u32 (v 18).b), .p (u32 (v 18).c), .p (.lit (.int .u32 (w32 (((v 18).d : Int) + xI (v 18) (k 18) (w 18))))), .p (u32 (v 18).e), .p (u32 (v 18).f), .p (u32 (v 18).g)]]
            rw [xI_eq _ _ _ (hv 18), yI_eq _ (hv 18), w32_add, w32_add, hr 18 (by omega)]
            rfl
          · conv => whnf
            refine ⟨by kernel_rfl, ?_⟩
            conv => whnf
            refine ⟨rfl, ?_⟩
            conv => whnf
            refine ⟨rfl, ?_⟩
            conv => whnf
            refine ⟨_, _, rfl, rotC (v 19).e (hv 19).2.2.2.2.1, ?_⟩
            conv => whnf
            refine ⟨rfl, ?_⟩
            conv => whnf
            refine ⟨rfl, ?_⟩
            conv => whnf
            refine ⟨rfl, ?_⟩
            conv => whnf
            refine ⟨rfl, ?_⟩
            conv => whnf
            refine ⟨rfl, ?_⟩
            conv => whnf
            refine ⟨rfl, ?_⟩
            conv => whnf
            refine ⟨by kernel_rfl, ?_⟩
            conv => whnf
            refine ⟨rfl, ?_⟩
            conv => whnf
            refine ⟨_, _, rfl, rotD (v 19).a (hv 19).1, ?_⟩
            conv => whnf
            refine ⟨rfl, ?_⟩
            conv => whnf
            refine ⟨rfl, ?_⟩
            conv => whnf
            refine ⟨rfl, ?_⟩
            conv => whnf
            refine ⟨rfl, ?_⟩
            conv => whnf
            refine ⟨rfl, ?_⟩
            conv => whnf
            refine ⟨by kernel_rfl, ?_⟩
            conv => whnf
            refine ⟨⟨20, by omega⟩, by dsimp only; omega, SubE.of ⟨rfl, rfl, rfl, rfl, rfl, rfl, trivial⟩, ?_⟩
            show [_, _, _, AObj.cells (.t 299) 0 ((v 20).ds.map .p)] = [_, _, _, AObj.cells (.t 299) 0 [.p (.lit (.int .u32 (w32 (xI (v 19) (k 19) (w 19) + yI (v 19))))), .p (u32 (v 19).a), .p (u32 (v 19).b), .p (u32 (v 19).c), .p (.lit (.int .u32 (w32 (((v 19).d : Int) + xI (v 19) (k 19) (w 19))))), .p (u32 (v 19).e), .p (u32 (v 19).f), .p (u32 (v 19).g)]]
            rw [xI_eq _ _ _ (hv 19), yI_eq _ (hv 19), w32_add, w32_add, hr 19 (by omega)]
            rfl
          · conv => whnf
            refine ⟨by kernel_rfl, ?_⟩
            conv => whnf
            refine ⟨rfl, ?_⟩
            conv => whnf
            refine ⟨rfl, ?_⟩
            conv => whnf
            refine ⟨_, _, rfl, rotC (v 20).e (hv 20).2.2.2.2.1, ?_⟩
            conv => whnf
            refine ⟨rfl, ?_⟩
            conv => whnf
            refine ⟨rfl, ?_⟩
            conv => whnf
            refine ⟨rfl, ?_⟩
            conv => whnf
            refine ⟨rfl, ?_⟩
            conv => whnf
            refine ⟨rfl, ?_⟩
            conv => whnf
            refine ⟨rfl, ?_⟩
            conv => whnf
            refine ⟨by kernel_rfl, ?_⟩
            conv => whnf
            refine ⟨rfl, ?_⟩
            conv => whnf
            refine ⟨_, _, rfl, rotD (v 20).a (hv 20).1, ?_⟩
            conv => whnf
            refine ⟨rfl, ?_⟩
            conv => whnf
            refine ⟨rfl, ?_⟩
            conv => whnf
            refine ⟨rfl, ?_⟩
            conv => whnf
            refine ⟨rfl, ?_⟩
            conv => whnf
            refine ⟨rfl, ?_⟩
            conv => whnf
            refine ⟨by kernel_rfl, ?_⟩
            conv => whnf
            refine ⟨⟨21, by omega⟩, by dsimp only; omega, SubE.of ⟨rfl, rfl, rfl, rfl, rfl, rfl, trivial⟩, ?_⟩
            show [_, _, _, AObj.cells (.t 299) 0 ((v 21).ds.map .p)] = [_, _, _, AObj.cells (.t 299) 0 [.p (.lit (.int .u32 (w32 (xI (v 20) (k 20) (w 20) + yI (v 20))))), .p (u32 (v 20).a), .p (u32 (v 20).b), .p (u32 (v 20).c), .p (.lit (.int .u32 (w32 (((v 20).d : Int) + xI (v 20) (k 20) (w 20))))), .p (u32 (v 20).e), .p (u32 (v 20).f), .p (u32 (v 20).g)]]
            rw [xI_eq _ _ _ (hv 20), yI_eq _ (hv 20), w32_add, w32_add, hr 20 (by omega)]
            rfl
          · conv => whnf
            refine ⟨by kernel_rfl, ?_⟩
            conv => whnf
            refine ⟨rfl, ?_⟩
            conv => whnf
            refine ⟨rfl, ?_⟩
            conv => whnf
            refine ⟨_, _, rfl, rotC (v 21).e (hv 21).2.2.2.2.1, ?_⟩
            conv => whnf
            refine ⟨rfl, ?_⟩
            conv => whnf
            refine ⟨rfl, ?_⟩
            conv => whnf
            refine ⟨rfl, ?_⟩
            conv => whnf
            refine ⟨rfl, ?_⟩
            conv => whnf
            refine ⟨rfl, ?_⟩
            conv => whnf
            refine ⟨rfl, ?_⟩
            conv => whnf
            refine ⟨by kernel_rfl, ?_⟩
            conv => whnf
            refine ⟨rfl, ?_⟩
            conv => whnf
            refine ⟨_, _, rfl, rotD (v 21).a (hv 21).1, ?_⟩
            conv => whnf
            refine ⟨rfl, ?_⟩
            conv => whnf
            refine ⟨rfl, ?_⟩
            conv => whnf
            refine ⟨rfl, ?_⟩
            conv => whnf
            refine ⟨rfl, ?_⟩
            conv => whnf
            refine ⟨rfl, ?_⟩
            conv => whnf
            refine ⟨by kernel_rfl, ?_⟩
            conv => whnf
            refine ⟨⟨22, by omega⟩, by dsimp only; omega, SubE.of ⟨rfl, rfl, rfl, rfl, rfl, rfl, trivial⟩, ?_⟩
            show [_, _, _, AObj.cells (.t 299) 0 ((v 22).ds.map .p)] = [_, _, _, AObj.cells (.t 299) 0 [.p (.lit (.int .u32 (w32 (xI (v 21) (k 21) (w 21) + yI (v 21))))), .p (u32 (v 21).a), .p (u32 (v 21).b), .p (u32 (v 21).c), .p (.lit (.int .u32 (w32 (((v 21).d : Int) + xI (v 21) (k 21) (w 21))))), .p (u32 (v 21).e), .p (u32 (v 21).f), .p (u32 (v 21).g)]]
            rw [xI_eq _ _ _ (hv 21), yI_eq _ (hv 21), w32_add, w32_add, hr 21 (by omega)]
            rfl
          · conv => whnf
            refine ⟨by kernel_rfl, ?_⟩
            conv => whnf
            refine ⟨rfl, ?_⟩
            conv => whnf
            refine ⟨rfl, ?_⟩
            conv => whnf
            refine ⟨_, _, rfl, rotC (v 22).e (hv 22).2.2.2.2.1, ?_⟩
            conv => whnf
            refine ⟨rfl, ?_⟩
            conv => whnf
            refine ⟨rfl, ?_⟩
            conv => whnf
            refine ⟨rfl, ?_⟩
            conv => whnf
            refine ⟨rfl, ?_⟩
            conv => whnf
            refine ⟨rfl, ?_⟩
            conv => whnf
            refine ⟨rfl, ?_⟩
            conv => whnf
            refine ⟨by kernel_rfl, ?_⟩
            conv => whnf
            refine ⟨rfl, ?_⟩
            conv => whnf
            refine ⟨_, _, rfl, rotD (v 22).a (hv 22).1, ?_⟩
            conv => whnf
            refine ⟨rfl, ?_⟩
            conv => whnf
            refine ⟨rfl, ?_⟩
            conv => whnf
            refine ⟨rfl, ?_⟩
            conv => whnf
            refine ⟨rfl, ?_⟩
            conv => whnf
            refine ⟨rfl, ?_⟩
            conv => whnf
            refine ⟨by kernel_rfl, ?_⟩
            conv => whnf
            refine ⟨⟨23, by omega⟩, by dsimp only; omega, SubE.of ⟨rfl, rfl, rfl, rfl, rfl, rfl, trivial⟩, ?_⟩
            show [_, _, _, AObj.cells (.t 299) 0 ((v 23).ds.map .p)] = [_, _, _, AObj.cells (.t 299) 0 [.p (.lit (.int .u32 (w32 (xI (v 22) (k 22) (w 22) + yI (v 22))))), .p (u32 (v 22).a), .p (u32 (v 22).b), .p (u32 (v 22).c), .p (.lit (.int .u32 (w32 (((v 22).d : Int) + xI (v 22) (k 22) (w 22))))), .p (u32 (v 22).e), .p (u32 (v 22).f), .p (u32 (v 22).g)]]
            rw [xI_eq _ _ _ (hv 22), yI_eq _ (hv 22), w32_add, w32_add, hr 22 (by omega)]
            rfl
          · conv => whnf
            refine ⟨by kernel_rfl, ?_⟩
            conv => whnf
            refine ⟨rfl, ?_⟩
            conv => whnf
            refine ⟨rfl, ?_⟩
            conv => whnf
            refine ⟨_, _, rfl, rotC (v 23).e (hv 23).2.2.2.2.1, ?_⟩
            conv => whnf
            refine ⟨rfl, ?_⟩
            conv => whnf
            refine ⟨rfl, ?_⟩
            conv => whnf
            refine ⟨rfl, ?_⟩
            conv => whnf
            refine ⟨rfl, ?_⟩
            conv => whnf
            refine ⟨rfl, ?_⟩
            conv => whnf
            refine ⟨rfl, ?_⟩
            conv => whnf
            refine ⟨by kernel_rfl, ?_⟩
            conv => whnf
            refine ⟨rfl, ?_⟩
            conv => whnf
            refine ⟨_, _, rfl, rotD (v 23).a (hv 23).1, ?_⟩
            conv => whnf
            refine ⟨rfl, ?_⟩
            conv => whnf
            refine ⟨rfl, ?_⟩
            conv => whnf
            refine ⟨rfl, ?_⟩
            conv => whnf
            refine ⟨rfl, ?_⟩
            conv => whnf
            refine ⟨rfl, ?_⟩
            conv => whnf
            refine ⟨by kernel_rfl, ?_⟩
            conv => whnf
            refine ⟨⟨24, by omega⟩, by dsimp only; omega, SubE.of ⟨rfl, rfl, rfl, rfl, rfl, rfl, trivial⟩, ?_⟩
            show [_, _, _, AObj.cells (.t 299) 0 ((v 24).ds.map .p)] = [_, _, _, AObj.cells (.t 299) 0 [.p (.lit (.int .u32 (w32 (xI (v 23) (k 23) (w 23) + yI (v 23))))), .p (u32 (v 23).a), .p (u32 (v 23).b), .p (u32 (v 23).c), .p (.lit (.int .u32 (w32 (((v 23).d : Int) + xI (v 23) (k 23) (w 23))))), .p (u32 (v 23).e), .p (u32 (v 23).f), .p (u32 (v 23).g)]]
            rw [xI_eq _ _ _ (hv 23), yI_eq _ (hv 23), w32_add, w32_add, hr 23 (by omega)]
            rfl
          · conv => whnf
            refine ⟨by kernel_rfl, ?_⟩
            conv => whnf
            refine ⟨rfl, ?_⟩
            conv => whnf
            refine ⟨rfl, ?_⟩
            conv => whnf
            refine ⟨_, _, rfl, rotC (v 24).e (hv 24).2.2.2.2.1, ?_⟩
            conv => whnf
            refine ⟨rfl, ?_⟩
            conv => whnf
            refine ⟨rfl, ?_⟩
            conv => whnf
            refine ⟨rfl, ?_⟩
            conv => whnf
            refine ⟨rfl, ?_⟩
            conv => whnf
            refine ⟨rfl, ?_⟩
            conv => whnf
            refine ⟨rfl, ?_⟩
            conv => whnf
            refine ⟨by kernel_rfl, ?_⟩
            conv => whnf
            refine ⟨rfl, ?_⟩
            conv => whnf
            refine ⟨_, _, rfl, rotD (v 24).a (hv 24).1, ?_⟩
            conv => whnf
            refine ⟨rfl, ?_⟩
            conv => whnf
            refine ⟨rfl, ?_⟩
            conv => whnf
            refine ⟨rfl, ?_⟩
            conv => whnf
            refine ⟨rfl, ?_⟩
            conv => whnf
            refine ⟨rfl, ?_⟩
            conv => whnf
            refine ⟨by kernel_rfl, ?_⟩
            conv => whnf
            refine ⟨⟨25, by omega⟩, by dsimp only; omega, SubE.of ⟨rfl, rfl, rfl, rfl, rfl, rfl, trivial⟩, ?_⟩
            show [_, _, _, AObj.cells (.t 299) 0 ((v 25).ds.map .p)] = [_, _, _, AObj.cells (.t 299) 0 [.p (.lit (.int .u32 (w32 (xI (v 24) (k 24) (w 24) + yI (v 24))))), .p (u32 (v 24).a), .p (u32 (v 24).b), .p (u32 (v 24).c), .p (.lit (.int .u32 (w32 (((v 24).d : Int) + xI (v 24) (k 24) (w 24))))), .p (u32 (v 24).e), .p (u32 (v 24).f), .p (u32 (v 24).g)]]
            rw [xI_eq _ _ _ (hv 24), yI_eq _ (hv 24), w32_add, w32_add, hr 24 (by omega)]
            rfl
          · conv => whnf
            refine ⟨by kernel_rfl, ?_⟩
            conv => whnf
            refine ⟨rfl, ?_⟩
            conv => whnf
            refine ⟨rfl, ?_⟩
            conv => whnf
            refine ⟨_, _, rfl, rotC (v 25).e (hv 25).2.2.2.2.1, ?_⟩
            conv => whnf
            refine ⟨rfl, ?_⟩
            conv => whnf
            refine ⟨rfl, ?_⟩
            conv => whnf
            refine ⟨rfl, ?_⟩
            conv => whnf
            refine ⟨rfl, ?_⟩
            conv => whnf
            refine ⟨rfl, ?_⟩
            conv => whnf
            refine ⟨rfl, ?_⟩
            conv => whnf
            refine ⟨by kernel_rfl, ?_⟩
            conv => whnf
            refine ⟨rfl, ?_⟩
            conv => whnf
            refine ⟨_, _, rfl, rotD (v 25).a (hv 25).1, ?_⟩
            conv => whnf
            refine ⟨rfl, ?_⟩
            conv => whnf
            refine ⟨rfl, ?_⟩
            conv => whnf
            refine ⟨rfl, ?_⟩
            conv => whnf
            refine ⟨rfl, ?_⟩
            conv => whnf
            refine ⟨rfl, ?_⟩
            conv => whnf
            refine ⟨by kernel_rfl, ?_⟩
            conv => whnf
            refine ⟨⟨26, by omega⟩, by dsimp only; omega, SubE.of ⟨rfl, rfl, rfl, rfl, rfl, rfl, trivial⟩, ?_⟩
            show [_, _, _, AObj.cells (.t 299) 0 ((v 26).ds.map .p)] = [_, _, _, AObj.cells (.t 299) 0 [.p (.lit (.int .u32 (w32 (xI (v 25) (k 25) (w 25) + yI (v 25))))), .p (u32 (v 25).a), .p (u32 (v 25).b), .p (u32 (v 25).c), .p (.lit (.int .u32 (w32 (((v 25).d : Int) + xI (v 25) (k 25) (w 25))))), .p (u32 (v 25).e), .p (u32 (v 25).f), .p (u32 (v 25).g)]]
            rw [xI_eq _ _ _ (hv 25), yI_eq _ (hv 25), w32_add, w32_add, hr 25 (by omega)]
            rfl
          · conv => whnf
            refine ⟨by kernel_rfl, ?_⟩
            conv => whnf
            refine ⟨rfl, ?_⟩
            conv => whnf
            refine ⟨rfl, ?_⟩
            conv => whnf
            refine ⟨_, _, rfl, rotC (v 26).e (hv 26).2.2.2.2.1, ?_⟩
            conv => whnf
            refine ⟨rfl, ?_⟩
            conv => whnf
            refine ⟨rfl, ?_⟩
            conv => whnf
            refine ⟨rfl, ?_⟩
            conv => whnf
            refine ⟨rfl, ?_⟩
            conv => whnf
            refine ⟨rfl, ?_⟩
            conv => whnf
            refine ⟨rfl, ?_⟩
            conv => whnf
            refine ⟨by kernel_rfl, ?_⟩
            conv => whnf
            refine ⟨rfl, ?_⟩
            conv => whnf
            refine ⟨_, _, rfl, rotD (v 26).a (hv 26).1, ?_⟩
            conv => whnf
            refine ⟨rfl, ?_⟩
            conv => whnf
            refine ⟨rfl, ?_⟩
            conv => whnf
            refine ⟨rfl, ?_⟩
            conv => whnf
            refine ⟨rfl, ?_⟩
            conv => whnf
            refine ⟨rfl, ?_⟩
            conv => whnf
            refine ⟨by kernel_rfl, ?_⟩
            conv => whnf
            refine ⟨⟨27, by omega⟩, by dsimp only; omega, SubE.of ⟨rfl, rfl, rfl, rfl, rfl, rfl, trivial⟩, ?_⟩
            show [_, _, _, AObj.cells (.t 299) 0 ((v 27).ds.map .p)] = [_, _, _, AObj.cells (.t 299) 0 [.p (.lit (.int .u32 (w32 (xI (v 26) (k 26) (w 26) + yI (v 26))))), .p (u32 (v 26).a), .p (u32 (v 26).b), .p (u32 (v 26).c), .p (.lit (.int .u32 (w32 (((v 26).d : Int) + xI (v 26) (k 26) (w 26))))), .p (u32 (v 26).e), .p (u32 (v 26).f), .p (u32 (v 26).g)]]
            rw [xI_eq _ _ _ (hv 26), yI_eq _ (hv 26), w32_add, w32_add, hr 26 (by omega)]
            rfl
          · conv => whnf
            refine ⟨by kernel_rfl, ?_⟩
            conv => whnf
            refine ⟨rfl, ?_⟩
            conv => whnf
            refine ⟨rfl, ?_⟩
            conv => whnf
            refine ⟨_, _, rfl, rotC (v 27).e (hv 27).2.2.2.2.1, ?_⟩
            conv => whnf
            refine ⟨rfl, ?_⟩
            conv => whnf
            refine ⟨rfl, ?_⟩
            conv => whnf
            refine ⟨rfl, ?_⟩
            conv => whnf
            refine ⟨rfl, ?_⟩
            conv => whnf
            refine ⟨rfl, ?_⟩
            conv => whnf
            refine ⟨rfl, ?_⟩
            conv => whnf
            refine ⟨by kernel_rfl, ?_⟩
            conv => whnf
            refine ⟨rfl, ?_⟩
            conv => whnf
            refine ⟨_, _, rfl, rotD (v 27).a (hv 27).1, ?_⟩
            conv => whnf
            refine ⟨rfl, ?_⟩
            conv => whnf
            refine ⟨rfl, ?_⟩
            conv => whnf
            refine ⟨rfl, ?_⟩
            conv => whnf
            refine ⟨rfl, ?_⟩
            conv => whnf
            refine ⟨rfl, ?_⟩
            conv => whnf
            refine ⟨by kernel_rfl, ?_⟩
            conv => whnf
            refine ⟨⟨28, by omega⟩, by dsimp only; omega, SubE.of ⟨rfl, rfl, rfl, rfl, rfl, rfl, trivial⟩, ?_⟩
            show [_, _, _, AObj.cells (.t 299) 0 ((v 28).ds.map .p)] = [_, _, _, AObj.cells (.t 299) 0 [.p (.lit (.int .u32 (w32 (xI (v 27) (k 27) (w 27) + yI (v 27))))), .p (u32 (v 27).a), .p (u32 (v 27).b), .p (u32 (v 27).c), .p (.lit (.int .u32 (w32 (((v 27).d : Int) + xI (v 27) (k 27) (w 27))))), .p (u32 (v 27).e), .p (u32 (v 27).f), .p (u32 (v 27).g)]]
            rw [xI_eq _ _ _ (hv 27), yI_eq _ (hv 27), w32_add, w32_add, hr 27 (by omega)]
            rfl
          · conv => whnf
            refine ⟨by kernel_rfl, ?_⟩
            conv => whnf
            refine ⟨rfl, ?_⟩
            conv => whnf
            refine ⟨rfl, ?_⟩
            conv => whnf
            refine ⟨_, _, rfl, rotC (v 28).e (hv 28).2.2.2.2.1, ?_⟩
            conv => whnf
            refine ⟨rfl, ?_⟩
            conv => whnf
            refine ⟨rfl, ?_⟩
            conv => whnf
            refine ⟨rfl, ?_⟩
            conv => whnf
            refine ⟨rfl, ?_⟩
            conv => whnf
            refine ⟨rfl, ?_⟩
            conv => whnf
            refine ⟨rfl, ?_⟩
            conv => whnf
            refine ⟨by kernel_rfl, ?_⟩
            conv => whnf
            refine ⟨rfl, ?_⟩
            conv => whnf
            refine ⟨_, _, rfl, rotD (v 28).a (hv 28).1, ?_⟩
            conv => whnf
            refine ⟨rfl, ?_⟩
            conv => whnf
            refine ⟨rfl, ?_⟩
            conv => whnf
            refine ⟨rfl, ?_⟩
            conv => whnf
            refine ⟨rfl, ?_⟩
            conv => whnf
            refine ⟨rfl, ?_⟩
            conv => whnf
            refine ⟨by kernel_rfl, ?_⟩
            conv => whnf
            refine ⟨⟨29, by omega⟩, by dsimp only; omega, SubE.of ⟨rfl, rfl, rfl, rfl, rfl, rfl, trivial⟩, ?_⟩
            show [_, _, _, AObj.cells (.t 299) 0 ((v 29).ds.map .p)] = [_, _, _, AObj.cells (.t 299) 0 [.p (.lit (.int .u32 (w32 (xI (v 28) (k 28) (w 28) + yI (v 28))))), .p (u32 (v 28).a), .p (u32 (v 28).b), .p (u32 (v 28).c), .p (.lit (.int .u32 (w32 (((v 28).d : Int) + xI (v 28) (k 28) (w 28))))), .p (u32 (v 28).e), .p (u32 (v 28).f), .p (u32 (v 28).g)]]
            rw [xI_eq _ _ _ (hv 28), yI_eq _ (hv 28), w32_add, w32_add, hr 28 (by omega)]
            rfl
          · conv => whnf
            refine ⟨by kernel_rfl, ?_⟩
            conv => whnf
            refine ⟨rfl, ?_⟩
            conv => whnf
            refine ⟨rfl, ?_⟩
            conv => whnf
            refine ⟨_, _, rfl, rotC (v 29).e (hv 29).2.2.2.2.1, ?_⟩
            conv => whnf
            refine ⟨rfl, ?_⟩
            conv => whnf
            refine ⟨rfl, ?_⟩
            conv => whnf
            refine ⟨rfl, ?_⟩
            conv => whnf
            refine ⟨rfl, ?_⟩
            conv => whnf
            refine ⟨rfl, ?_⟩
            conv => whnf
            refine ⟨rfl, ?_⟩
            conv => whnf
            refine ⟨by kernel_rfl, ?_⟩
            conv => whnf
            refine ⟨rfl, ?_⟩
            conv => whnf
            refine ⟨_, _, rfl, rotD (v 29).a (hv 29).1, ?_⟩
            conv => whnf
            refine ⟨rfl, ?_⟩
            conv => whnf
            refine ⟨rfl, ?_⟩
            conv => whnf
            refine ⟨rfl, ?_⟩
            conv => whnf
            refine ⟨rfl, ?_⟩
            conv => whnf
            refine ⟨rfl, ?_⟩
            conv => whnf
            refine ⟨by kernel_rfl, ?_⟩
            conv => whnf
            refine ⟨⟨30, by omega⟩, by dsimp only; omega, SubE.of ⟨rfl, rfl, rfl, rfl, rfl, rfl, trivial⟩, ?_⟩
            show [_, _, _, AObj.cells (.t 299) 0 ((v 30).ds.map .p)] = [_, _, _, AObj.cells (.t 299) 0 [.p (.lit (.int .u32 (w32 (xI (v 29) (k 29) (w 29) + yI (v 29))))), .p (u32 (v 29).a), .p (u32 (v 29).b), .p (u32 (v 29).c), .p (.lit (.int .u32 (w32 (((v 29).d : Int) + xI (v 29) (k 29) (w 29))))), .p (u32 (v 29).e), .p (u32 (v 29).f), .p (u32 (v 29).g)]]
            rw [xI_eq _ _ _ (hv 29), yI_eq _ (hv 29), w32_add, w32_add, hr 29 (by omega)]
            rfl
          · conv => whnf
            refine ⟨by kernel_rfl, ?_⟩
            conv => whnf
            refine ⟨rfl, ?_⟩
            conv => whnf
            refine ⟨rfl, ?_⟩
            conv => whnf
            refine ⟨_, _, rfl, rotC (v 30).e (hv 30).2.2.2.2.1, ?_⟩
            conv => whnf
            refine ⟨rfl, ?_⟩
            conv => whnf
            refine ⟨rfl, ?_⟩
            conv => whnf
            refine ⟨rfl, ?_⟩
            conv => whnf
            refine ⟨rfl, ?_⟩
            conv => whnf
            refine ⟨rfl, ?_⟩
            conv => whnf
            refine ⟨rfl, ?_⟩
            conv => whnf
            refine ⟨by kernel_rfl, ?_⟩
            conv => whnf
            refine ⟨rfl, ?_⟩
            conv => whnf
            refine ⟨_, _, rfl, rotD (v 30).a (hv 30).1, ?_⟩
            conv => whnf
            refine ⟨rfl, ?_⟩
            conv => whnf
            refine ⟨rfl, ?_⟩
            conv => whnf
            refine ⟨rfl, ?_⟩
            conv => whnf
            refine ⟨rfl, ?_⟩
            conv => whnf
            refine ⟨rfl, ?_⟩
            conv => whnf
            refine ⟨by kernel_rfl, ?_⟩
            conv => whnf
            refine ⟨⟨31, by omega⟩, by dsimp only; omega, SubE.of ⟨rfl, rfl, rfl, rfl, rfl, rfl, trivial⟩, ?_⟩
            show [_, _, _, AObj.cells (.t 299) 0 ((v 31).ds.map .p)] = [_, _, _, AObj.cells (.t 299) 0 [.p (.lit (.int .u32 (w32 (xI (v 30) (k 30) (w 30) + yI (v 30))))), .p (u32 (v 30).a), .p (u32 (v 30).b), .p (u32 (v 30).c), .p (.lit (.int .u32 (w32 (((v 30).d : Int) + xI (v 30) (k 30) (w 30))))), .p (u32 (v 30).e), .p (u32 (v 30).f), .p (u32 (v 30).g)]]
            rw [xI_eq _ _ _ (hv 30), yI_eq _ (hv 30), w32_add, w32_add, hr 30 (by omega)]
            rfl
          · conv => whnf
            refine ⟨by kernel_rfl, ?_⟩
            conv => whnf
            refine ⟨rfl, ?_⟩
            conv => whnf
            refine ⟨rfl, ?_⟩
            conv => whnf
            refine ⟨_, _, rfl, rotC (v 31).e (hv 31).2.2.2.2.1, ?_⟩
            conv => whnf
            refine ⟨rfl, ?_⟩
            conv => whnf
            refine ⟨rfl, ?_⟩
            conv => whnf
            refine ⟨rfl, ?_⟩
            conv => whnf
            refine ⟨rfl, ?_⟩
            conv => whnf
            refine ⟨rfl, ?_⟩
            conv => whnf
            refine ⟨rfl, ?_⟩
            conv => whnf
            refine ⟨by kernel_rfl, ?_⟩
            conv => whnf
            refine ⟨rfl, ?_⟩
            conv => whnf
            refine ⟨_, _, rfl, rotD (v 31).a (hv 31).1, ?_⟩
            conv => whnf
            refine ⟨rfl, ?_⟩
            conv => whnf
            refine ⟨rfl, ?_⟩
            conv => whnf
            refine ⟨rfl, ?_⟩
            conv => whnf
            refine ⟨rfl, ?_⟩
            conv => whnf
            refine ⟨rfl, ?_⟩
            conv => whnf
            refine ⟨by kernel_rfl, ?_⟩
            conv => whnf
            refine ⟨⟨32, by omega⟩, by dsimp only; omega, SubE.of ⟨rfl, rfl, rfl, rfl, rfl, rfl, trivial⟩, ?_⟩
            show [_, _, _, AObj.cells (.t 299) 0 ((v 32).ds.map .p)] = [_, _, _, AObj.cells (.t 299) 0 [.p (.lit (.int .u32 (w32 (xI (v 31) (k 31) (w 31) + yI (v 31))))), .p (u32 (v 31).a), .p (u32 (v 31).b), .p (u32 (v 31).c), .p (.lit (.int .u32 (w32 (((v 31).d : Int) + xI (v 31) (k 31) (w 31))))), .p (u32 (v 31).e), .p (u32 (v 31).f), .p (u32 (v 31).g)]]
            rw [xI_eq _ _ _ (hv 31), yI_eq _ (hv 31), w32_add, w32_add, hr 31 (by omega)]
            rfl
          · conv => whnf
            refine ⟨by kernel_rfl, ?_⟩
            conv => whnf
            refine ⟨rfl, ?_⟩
            conv => whnf
            refine ⟨rfl, ?_⟩
            conv => whnf
            refine ⟨_, _, rfl, rotC (v 32).e (hv 32).2.2.2.2.1, ?_⟩
            conv => whnf
            refine ⟨rfl, ?_⟩
            conv => whnf
            refine ⟨rfl, ?_⟩
            conv => whnf
            refine ⟨rfl, ?_⟩
            conv => whnf
            refine ⟨rfl, ?_⟩
            conv => whnf
            refine ⟨rfl, ?_⟩
            conv => whnf
            refine ⟨rfl, ?_⟩
            conv => whnf
            refine ⟨by kernel_rfl, ?_⟩
            conv => whnf
            refine ⟨rfl, ?_⟩
            conv => whnf
            refine ⟨_, _, rfl, rotD (v 32).a (hv 32).1, ?_⟩
            conv => whnf
            refine ⟨rfl, ?_⟩
            conv => whnf
            refine ⟨rfl, ?_⟩
            conv => whnf
            refine ⟨rfl, ?_⟩
            conv => whnf
            refine ⟨rfl, ?_⟩
            conv => whnf
            refine ⟨rfl, ?_⟩
            conv => whnf
            refine ⟨by kernel_rfl, ?_⟩
            conv => whnf
            refine ⟨⟨33, by omega⟩, by dsimp only; omega, SubE.of ⟨rfl, rfl, rfl, rfl, rfl, rfl, trivial⟩, ?_⟩
            show [_, _, _, AObj.cells (.t 299) 0 ((v 33).ds.map .p)] = [_, _, _, AObj.cells (.t 299) 0 [.p (.lit (.int .u32 (w32 (xI (v 32) (k 32) (w 32) + yI (v 32))))), .p (u32 (v 32).a), .p (u32 (v 32).b), .p (u32 (v 32).c), .p (.lit (.int .u32 (w32 (((v 32).d : Int) + xI (v 32) (k 32) (w 32))))), .p (u32 (v 32).e), .p (u32 (v 32).f), .p (u32 (v 32).g)]]
            rw [xI_eq _ _ _ (hv 32), yI_eq _ (hv 32), w32_add, w32_add, hr 32 (by omega)]
            rfl
          · conv => whnf
            refine ⟨by kernel_rfl, ?_⟩
            conv => whnf
            refine ⟨rfl, ?_⟩
            conv => whnf
            refine ⟨rfl, ?_⟩
            conv => whnf
            refine ⟨_, _, rfl, rotC (v 33).e (hv 33).2.2.2.2.1, ?_⟩
            conv => whnf
            refine ⟨rfl, ?_⟩
            conv => whnf
            refine ⟨rfl, ?_⟩
            conv => whnf
            refine ⟨rfl, ?_⟩
            conv => whnf
            refine ⟨rfl, ?_⟩
            conv => whnf
            refine ⟨rfl, ?_⟩
            conv => whnf
            refine ⟨rfl, ?_⟩
            conv => whnf
            refine ⟨by kernel_rfl, ?_⟩
            conv => whnf
            refine ⟨rfl, ?_⟩
            conv => whnf
            refine ⟨_, _, rfl, rotD (v 33).a (hv 33).1, ?_⟩
            conv => whnf
            refine ⟨rfl, ?_⟩
            conv => whnf
            refine ⟨rfl, ?_⟩
            conv => whnf
            refine ⟨rfl, ?_⟩
            conv => whnf
            refine ⟨rfl, ?_⟩
            conv => whnf
            refine ⟨rfl, ?_⟩
            conv => whnf
            refine ⟨by kernel_rfl, ?_⟩
            conv => whnf
            refine ⟨⟨34, by omega⟩, by dsimp only; omega, SubE.of ⟨rfl, rfl, rfl, rfl, rfl, rfl, trivial⟩, ?_⟩
            show [_, _, _, AObj.cells (.t 299) 0 ((v 34).ds.map .p)] = [_, _, _, AObj.cells (.t 299) 0 [.p (.lit (.int .u32 (w32 (xI (v 33) (k 33) (w 33) + yI (v 33))))), .p (u32 (v 33).a), .p (u32 (v 33).b), .p (u32 (v 33).c), .p (.lit (.int .u32 (w32 (((v 33).d : Int) + xI (v 33) (k 33) (w 33))))), .p (u32 (v 33).e), .p (u32 (v 33).f), .p (u32 (v 33).g)]]
            rw [xI_eq _ _ _ (hv 33), yI_eq _ (hv 33), w32_add, w32_add, hr 33 (by omega)]
            rfl
          · conv => whnf
            refine ⟨by kernel_rfl, ?_⟩
            conv => whnf
            refine ⟨rfl, ?_⟩
            conv => whnf
            refine ⟨rfl, ?_⟩
            conv => whnf
            refine ⟨_, _, rfl, rotC (v 34).e (hv 34).2.2.2.2.1, ?_⟩
            conv => whnf
            refine ⟨rfl, ?_⟩
            conv => whnf
            refine ⟨rfl, ?_⟩
            conv => whnf
            refine ⟨rfl, ?_⟩
            conv => whnf
            refine ⟨rfl, ?_⟩
            conv => whnf
            refine ⟨rfl, ?_⟩
            conv => whnf
            refine ⟨rfl, ?_⟩
            conv => whnf
            refine ⟨by kernel_rfl, ?_⟩
            conv => whnf
            refine ⟨rfl, ?_⟩
            conv => whnf
            refine ⟨_, _, rfl, rotD (v 34).a (hv 34).1, ?_⟩
            conv => whnf
            refine ⟨rfl, ?_⟩
            conv => whnf
            refine ⟨rfl, ?_⟩
            conv => whnf
            refine ⟨rfl, ?_⟩
            conv => whnf
            refine ⟨rfl, ?_⟩
            conv => whnf
            refine ⟨rfl, ?_⟩
            conv => whnf
            refine ⟨by kernel_rfl, ?_⟩
            conv => whnf
            refine ⟨⟨35, by omega⟩, by dsimp only; omega, SubE.of ⟨rfl, rfl, rfl, rfl, rfl, rfl, trivial⟩, ?_⟩
            show [_, _, _, AObj.cells (.t 299) 0 ((v 35).ds.map .p)] = [_, _, _, AObj.cells (.t 299) 0 [.p (.lit (.int .u32 (w32 (xI (v 34) (k 34) (w 34) + yI (v 34))))), .p (u32 (v 34).a), .p (u32 (v 34).b), .p (u32 (v 34).c), .p (.lit (.int .u32 (w32 (((v 34).d : Int) + xI (v 34) (k 34) (w 34))))), .p (u32 (v 34).e), .p (u32 (v 34).f), .p (u32 (v 34).g)]]
            rw [xI_eq _ _ _ (hv 34), yI_eq _ (hv 34), w32_add, w32_add, hr 34 (by omega)]
            rfl
          · conv => whnf
            refine ⟨by kernel_rfl, ?_⟩
            conv => whnf
            refine ⟨rfl, ?_⟩
            conv => whnf
            refine ⟨rfl, ?_⟩
            conv => whnf
            refine ⟨_, _, rfl, rotC (v 35).e (hv 35).2.2.2.2.1, ?_⟩
            conv => whnf
            refine ⟨rfl, ?_⟩
            conv => whnf
            refine ⟨rfl, ?_⟩
            conv => whnf
            refine ⟨rfl, ?_⟩
            conv => whnf
            refine ⟨rfl, ?_⟩
            conv => whnf
            refine ⟨rfl, ?_⟩
            conv => whnf
            refine ⟨rfl, ?_⟩
            conv => whnf
            refine ⟨by kernel_rfl, ?_⟩
            conv => whnf
            refine ⟨rfl, ?_⟩
            conv => whnf
            refine ⟨_, _, rfl, rotD (v 35).a (hv 35).1, ?_⟩
            conv => whnf
            refine ⟨rfl, ?_⟩
            conv => whnf
            refine ⟨rfl, ?_⟩
            conv => whnf
            refine ⟨rfl, ?_⟩
            conv => whnf
            refine ⟨rfl, ?_⟩
            conv => whnf
            refine ⟨rfl, ?_⟩
            conv => whnf
            refine ⟨by kernel_rfl, ?_⟩
            conv => whnf
            refine ⟨⟨36, by omega⟩, by dsimp only; omega, SubE.of ⟨rfl, rfl, rfl, rfl, rfl, rfl, trivial⟩, ?_⟩
            show [_, _, _, AObj.cells (.t 299) 0 ((v 36).ds.map .p)] = [_, _, _, AObj.cells (.t 299) 0 [.p (.lit (.int .u32 (w32 (xI (v 35) (k 35) (w 35) + yI (v 35))))), .p (u32 (v 35).a), .p (u32 (v 35).b), .p (u32 (v 35).c), .p (.lit (.int .u32 (w32 (((v 35).d : Int) + xI (v 35) (k 35) (w 35))))), .p (u32 (v 35).e), .p (u32 (v 35).f), .p (u32 (v 35).g)]]
            rw [xI_eq _ _ _ (hv 35), yI_eq _ (hv 35), w32_add, w32_add, hr 35 (by omega)]
            rfl
          · conv => whnf
            refine ⟨by kernel_rfl, ?_⟩
            conv => whnf
            refine ⟨rfl, ?_⟩
            conv => whnf
            refine ⟨rfl, ?_⟩
            conv => whnf
            refine ⟨_, _, rfl, rotC (v 36).e (hv 36).2.2.2.2.1, ?_⟩
            conv => whnf
            refine ⟨rfl, ?_⟩
            conv => whnf
            refine ⟨rfl, ?_⟩
            conv => whnf
            refine ⟨rfl, ?_⟩
            conv => whnf
            refine ⟨rfl, ?_⟩
            conv => whnf
            refine ⟨rfl, ?_⟩
            conv => whnf
            refine ⟨rfl, ?_⟩
            conv => whnf
            refine ⟨by kernel_rfl, ?_⟩
            conv => whnf
            refine ⟨rfl, ?_⟩
            conv => whnf
            refine ⟨_, _, rfl, rotD (v 36).a (hv 36).1, ?_⟩
            conv => whnf
            refine ⟨rfl, ?_⟩
            conv => whnf
            refine ⟨rfl, ?_⟩
            conv => whnf
            refine ⟨rfl, ?_⟩
            conv => whnf
            refine ⟨rfl, ?_⟩
            conv => whnf
            refine ⟨rfl, ?_⟩
            conv => whnf
            refine ⟨by kernel_rfl, ?_⟩
            conv => whnf
            refine ⟨⟨37, by omega⟩, by dsimp only; omega, SubE.of ⟨rfl, rfl, rfl, rfl, rfl, rfl, trivial⟩, ?_⟩
            show [_, _, _, AObj.cells (.t 299) 0 ((v 37).ds.map .p)] = [_, _, _, AObj.cells (.t 299) 0 [.p (.lit (.int .u32 (w32 (xI (v 36) (k 36) (w 36) + yI (v 36))))), .p (u32 (v 36).a), .p (u32 (v 36).b), .p (u32 (v 36).c), .p (.lit (.int .u32 (w32 (((v 36).d : Int) + xI (v 36) (k 36) (w 36))))), .p (u32 (v 36).e), .p (u32 (v 36).f), .p (u32 (v 36).g)]]
            rw [xI_eq _ _ _ (hv 36), yI_eq _ (hv 36), w32_add, w32_add, hr 36 (by omega)]
            rfl
          · conv => whnf
            refine ⟨by kernel_rfl, ?_⟩
            conv => whnf
            refine ⟨rfl, ?_⟩
            conv => whnf
            refine ⟨rfl, ?_⟩
            conv => whnf
            refine ⟨_, _, rfl, rotC (v 37).e (hv 37).2.2.2.2.1, ?_⟩
            conv => whnf
            refine ⟨rfl, ?_⟩
            conv => whnf
            refine ⟨rfl, ?_⟩
            conv => whnf
            refine ⟨rfl, ?_⟩
            conv => whnf
            refine ⟨rfl, ?_⟩
            conv => whnf
            refine ⟨rfl, ?_⟩
            conv => whnf
            refine ⟨rfl, ?_⟩
            conv => whnf
            refine ⟨by kernel_rfl, ?_⟩
            conv => whnf
            refine ⟨rfl, ?_⟩
            conv => whnf
            refine ⟨_, _, rfl, rotD (v 37).a (hv 37).1, ?_⟩
            conv => whnf
            refine ⟨rfl, ?_⟩
            conv => whnf
            refine ⟨rfl, ?_⟩
            conv => whnf
            refine ⟨rfl, ?_⟩
            conv => whnf
            refine ⟨rfl, ?_⟩
            conv => whnf
            refine ⟨rfl, ?_⟩
            conv => whnf
            refine ⟨by kernel_rfl, ?_⟩
            conv => whnf
            refine ⟨⟨38, by omega⟩, by dsimp only; omega, SubE.of ⟨rfl, rfl, rfl, rfl, rfl, rfl, trivial⟩, ?_⟩
            show [_, _, _, AObj.cells (.t 299) 0 ((v 38).ds.map .p)] = [_, _, _, AObj.cells (.t 299) 0 [.p (.lit (.int .u32 (w32 (xI (v 37) (k 37) (w 37) + yI (v 37))))), .p (u32 (v 37).a), .p (u32 (v 37).b), .p (u32 (v 37).c), .p (.lit (.int .u32 (w32 (((v 37).d : Int) + xI (v 37) (k 37) (w 37))))), .p (u32 (v 37).e), .p (u32 (v 37).f), .p (u32 (v 37).g)]]
            rw [xI_eq _ _ _ (hv 37), yI_eq _ (hv 37), w32_add, w32_add, hr 37 (by omega)]
            rfl
          · conv => whnf
            refine ⟨by kernel_rfl, ?_⟩
            conv => whnf
            refine ⟨rfl, ?_⟩
            conv => whnf
            refine ⟨rfl, ?_⟩
            conv => whnf
            refine ⟨_, _, rfl, rotC (v 38).e (hv 38).2.2.2.2.1, ?_⟩
            conv => whnf
            refine ⟨rfl, ?_⟩
            conv => whnf
            refine ⟨rfl, ?_⟩
            conv => whnf
            refine ⟨rfl, ?_⟩
            conv => whnf
            refine ⟨rfl, ?_⟩
            conv => whnf
            refine ⟨rfl, ?_⟩
            conv => whnf
            refine ⟨rfl, ?_⟩
            conv => whnf
            refine ⟨by kernel_rfl, ?_⟩
            conv => whnf
            refine ⟨rfl, ?_⟩
            conv => whnf
            refine ⟨_, _, rfl, rotD (v 38).a (hv 38).1, ?_⟩
            conv => whnf
            refine ⟨rfl, ?_⟩
            conv => whnf
            refine ⟨rfl, ?_⟩
            conv => whnf
            refine ⟨rfl, ?_⟩
            conv => whnf
            refine ⟨rfl, ?_⟩
            conv => whnf
            refine ⟨rfl, ?_⟩
            conv => whnf
            refine ⟨by kernel_rfl, ?_⟩
            conv => whnf
            refine ⟨⟨39, by omega⟩, by dsimp only; omega, SubE.of ⟨rfl, rfl, rfl, rfl, rfl, rfl, trivial⟩, ?_⟩
            show [_, _, _, AObj.cells (.t 299) 0 ((v 39).ds.map .p)] = [_, _, _, AObj.cells (.t 299) 0 [.p (.lit (.int .u32 (w32 (xI (v 38) (k 38) (w 38) + yI (v 38))))), .p (u32 (v 38).a), .p (u32 (v 38).b), .p (u32 (v 38).c), .p (.lit (.int .u32 (w32 (((v 38).d : Int) + xI (v 38) (k 38) (w 38))))), .p (u32 (v 38).e), .p (u32 (v 38).f), .p (u32 (v 38).g)]]
            rw [xI_eq _ _ _ (hv 38), yI_eq _ (hv 38), w32_add, w32_add, hr 38 (by omega)]
            rfl
          · conv => whnf
            refine ⟨by kernel_rfl, ?_⟩
            conv => whnf
            refine ⟨rfl, ?_⟩
            conv => whnf
            refine ⟨rfl, ?_⟩
            conv => whnf
            refine ⟨_, _, rfl, rotC (v 39).e (hv 39).2.2.2.2.1, ?_⟩
            conv => whnf
            refine ⟨rfl, ?_⟩
            conv => whnf
            refine ⟨rfl, ?_⟩
            conv => whnf
            refine ⟨rfl, ?_⟩
            conv => whnf
            refine ⟨rfl, ?_⟩
            conv => whnf
            refine ⟨rfl, ?_⟩
            conv => whnf
            refine ⟨rfl, ?_⟩
            conv => whnf
            refine ⟨by kernel_rfl, ?_⟩
            conv => whnf
            refine ⟨rfl, ?_⟩
            conv => whnf
            refine ⟨_, _, rfl, rotD (v 39).a (hv 39).1, ?_⟩
            conv => whnf
            refine ⟨rfl, ?_⟩
            conv => whnf
            refine ⟨rfl, ?_⟩
            conv => whnf
            refine ⟨rfl, ?_⟩
            conv => whnf
            refine ⟨rfl, ?_⟩
            conv => whnf
            refine ⟨rfl, ?_⟩
            conv => whnf
            refine ⟨by kernel_rfl, ?_⟩
            conv => whnf
            refine ⟨⟨40, by omega⟩, by dsimp only; omega, SubE.of ⟨rfl, rfl, rfl, rfl, rfl, rfl, trivial⟩, ?_⟩
            show [_, _, _, AObj.cells (.t 299) 0 ((v 40).ds.map .p)] = [_, _, _, AObj.cells (.t 299) 0 [.p (.lit (.int .u32 (w32 (xI (v 39) (k 39) (w 39) + yI (v 39))))), .p (u32 (v 39).a), .p (u32 (v 39).b), .p (u32 (v 39).c), .p (.lit (.int .u32 (w32 (((v 39).d : Int) + xI (v 39) (k 39) (w 39))))), .p (u32 (v 39).e), .p (u32 (v 39).f), .p (u32 (v 39).g)]]
            rw [xI_eq _ _ _ (hv 39), yI_eq _ (hv 39), w32_add, w32_add, hr 39 (by omega)]
            rfl
          · conv => whnf
            refine ⟨by kernel_rfl, ?_⟩
            conv => whnf
            refine ⟨rfl, ?_⟩
            conv => whnf
            refine ⟨rfl, ?_⟩
            conv => whnf
            refine ⟨_, _, rfl, rotC (v 40).e (hv 40).2.2.2.2.1, ?_⟩
            conv => whnf
            refine ⟨rfl, ?_⟩
            conv => whnf
            refine ⟨rfl, ?_⟩
            conv => whnf
            refine ⟨rfl, ?_⟩
            conv => whnf
            refine ⟨rfl, ?_⟩
            conv => whnf
            refine ⟨rfl, ?_⟩
            conv => whnf
            refine ⟨rfl, ?_⟩
            conv => whnf
            refine ⟨by kernel_rfl, ?_⟩
            conv => whnf
            refine ⟨rfl, ?_⟩
            conv => whnf
            refine ⟨_, _, rfl, rotD (v 40).a (hv 40).1, ?_⟩
            conv => whnf
            refine ⟨rfl, ?_⟩
            conv => whnf
            refine ⟨rfl, ?_⟩
            conv => whnf
            refine ⟨rfl, ?_⟩
            conv => whnf
            refine ⟨rfl, ?_⟩
            conv => whnf
            refine ⟨rfl, ?_⟩
            conv => whnf
            refine ⟨by kernel_rfl, ?_⟩
            conv => whnf
            refine ⟨⟨41, by omega⟩, by dsimp only; omega, SubE.of ⟨rfl, rfl, rfl, rfl, rfl, rfl, trivial⟩, ?_⟩
            show [_, _, _, AObj.cells (.t 299) 0 ((v 41).ds.map .p)] = [_, _, _, AObj.cells (.t 299) 0 [.p (.lit (.int .u32 (w32 (xI (v 40) (k 40) (w 40) + yI (v 40))))), .p (u32 (v 40).a), .p (u32 (v 40).b), .p (u32 (v 40).c), .p (.lit (.int .u32 (w32 (((v 40).d : Int) + xI (v 40) (k 40) (w 40))))), .p (u32 (v 40).e), .p (u32 (v 40).f), .p (u32 (v 40).g)]]
            rw [xI_eq _ _ _ (hv 40), yI_eq _ (hv 40), w32_add, w32_add, hr 40 (by omega)]
            rfl
          · conv => whnf
            refine ⟨by kernel_rfl, ?_⟩
            conv => whnf
            refine ⟨rfl, ?_⟩
            conv => whnf
            refine ⟨rfl, ?_⟩
            conv => whnf
            refine ⟨_, _, rfl, rotC (v 41).e (hv 41).2.2.2.2.1, ?_⟩
            conv => whnf
            refine ⟨rfl, ?_⟩
            conv => whnf
            refine ⟨rfl, ?_⟩
            conv => whnf
            refine ⟨rfl, ?_⟩
            conv => whnf
            refine ⟨rfl, ?_⟩
            conv => whnf
            refine ⟨rfl, ?_⟩
            conv => whnf
            refine ⟨rfl, ?_⟩
            conv => whnf
            refine ⟨by kernel_rfl, ?_⟩
            conv => whnf
            refine ⟨rfl, ?_⟩
            conv => whnf
            refine ⟨_, _, rfl, rotD (v 41).a (hv 41).1, ?_⟩
            conv => whnf
            refine ⟨rfl, ?_⟩
            conv => whnf
            refine ⟨rfl, ?_⟩
            conv => whnf
            refine ⟨rfl, ?_⟩
            conv => whnf
            refine ⟨rfl, ?_⟩
            conv => whnf
            refine ⟨rfl, ?_⟩
            conv => whnf
            refine ⟨by kernel_rfl, ?_⟩
            conv => whnf
            refine ⟨⟨42, by omega⟩, by dsimp only; omega, SubE.of ⟨rfl, rfl, rfl, rfl, rfl, rfl, trivial⟩, ?_⟩
            show [_, _, _, AObj.cells (.t 299) 0 ((v 42).ds.map .p)] = [_, _, _, AObj.cells (.t 299) 0 [.p (.lit (.int .u32 (w32 (xI (v 41) (k 41) (w 41) + yI (v 41))))), .p (u32 (v 41).a), .p (u32 (v 41).b), .p (u32 (v 41).c), .p (.lit (.int .u32 (w32 (((v 41).d : Int) + xI (v 41) (k 41) (w 41))))), .p (u32 (v 41).e), .p (u32 (v 41).f), .p (u32 (v 41).g)]]
            rw [xI_eq _ _ _ (hv 41), yI_eq _ (hv 41), w32_add, w32_add, hr 41 (by omega)]
            rfl
          · conv => whnf
            refine ⟨by kernel_rfl, ?_⟩
            conv => whnf
            refine ⟨rfl, ?_⟩
            conv => whnf
            refine ⟨rfl, ?_⟩
            conv => whnf
            refine ⟨_, _, rfl, rotC (v 42).e (hv 42).2.2.2.2.1, ?_⟩
            conv => whnf
            refine ⟨rfl, ?_⟩
            conv => whnf
            refine ⟨rfl, ?_⟩
            conv => whnf
            refine ⟨rfl, ?_⟩
            conv => whnf
            refine ⟨rfl, ?_⟩
            conv => whnf
            refine ⟨rfl, ?_⟩
            conv => whnf
            refine ⟨rfl, ?_⟩
            conv => whnf
            refine ⟨by kernel_rfl, ?_⟩
            conv => whnf
            refine ⟨rfl, ?_⟩
            conv => whnf
            refine ⟨_, _, rfl, rotD (v 42).a (hv 42).1, ?_⟩
            conv => whnf
            refine ⟨rfl, ?_⟩
            conv => whnf
            refine ⟨rfl, ?_⟩
            conv => whnf
            refine ⟨rfl, ?_⟩
            conv => whnf
            refine ⟨rfl, ?_⟩
            conv => whnf
            refine ⟨rfl, ?_⟩
            conv => whnf
            refine ⟨by kernel_rfl, ?_⟩
            conv => whnf
            refine ⟨⟨43, by omega⟩, by dsimp only; omega, SubE.of ⟨rfl, rfl, rfl, rfl, rfl, rfl, trivial⟩, ?_⟩
            show [_, _, _, AObj.cells (.t 299) 0 ((v 43).ds.map .p)] = [_, _, _, AObj.cells (.t 299) 0 [.p (.lit (.int .u32 (w32 (xI (v 42) (k 42) (w 42) + yI (v 42))))), .p (u32 (v 42).a), .p (u32 (v 42).b), .p (u32 (v 42).c), .p (.lit (.int .u32 (w32 (((v 42).d : Int) + xI (v 42) (k 42) (w 42))))), .p (u32 (v 42).e), .p (u32 (v 42).f), .p (u32 (v 42).g)]]
            rw [xI_eq _ _ _ (hv 42), yI_eq _ (hv 42), w32_add, w32_add, hr 42 (by omega)]
            rfl
          · conv => whnf
            refine ⟨by kernel_rfl, ?_⟩
            conv => whnf
            refine ⟨rfl, ?_⟩
            conv => whnf
            refine ⟨rfl, ?_⟩
            conv => whnf
            refine ⟨_, _, rfl, rotC (v 43).e (hv 43).2.2.2.2.1, ?_⟩
            conv => whnf
            refine ⟨rfl, ?_⟩
            conv => whnf
            refine ⟨rfl, ?_⟩
            conv => whnf
            refine ⟨rfl, ?_⟩
            conv => whnf
            refine ⟨rfl, ?_⟩
            conv => whnf
            refine ⟨rfl, ?_⟩
            conv => whnf
            refine ⟨rfl, ?_⟩
            conv => whnf
            refine ⟨by kernel_rfl, ?_⟩
            conv => whnf
            refine ⟨rfl, ?_⟩
            conv => whnf
            refine ⟨_, _, rfl, rotD (v 43).a (hv 43).1, ?_⟩
            conv => whnf
            refine ⟨rfl, ?_⟩
            conv => whnf
            refine ⟨rfl, ?_⟩
            conv => whnf
            refine ⟨rfl, ?_⟩
            conv => whnf
            refine ⟨rfl, ?_⟩
            conv => whnf
            refine ⟨rfl, ?_⟩
            conv => whnf
            refine ⟨by kernel_rfl, ?_⟩
            conv => whnf
            refine ⟨⟨44, by omega⟩, by dsimp only; omega, SubE.of ⟨rfl, rfl, rfl, rfl, rfl, rfl, trivial⟩, ?_⟩
            show [_, _, _, AObj.cells (.t 299) 0 ((v 44).ds.map .p)] = [_, _, _, AObj.cells (.t 299) 0 [.p (.lit (.int .u32 (w32 (xI (v 43) (k 43) (w 43) + yI (v 43))))), .p (u32 (v 43).a), .p (u32 (v 43).b), .p (u32 (v 43).c), .p (.lit (.int .u32 (w32 (((v 43).d : Int) + xI (v 43) (k 43) (w 43))))), .p (u32 (v 43).e), .p (u32 (v 43).f), .p (u32 (v 43).g)]]
            rw [xI_eq _ _ _ (hv 43), yI_eq _ (hv 43), w32_add, w32_add, hr 43 (by omega)]
            rfl
          · conv => whnf
            refine ⟨by kernel_rfl, ?_⟩
            conv => whnf
            refine ⟨rfl, ?_⟩
            conv => whnf
            refine ⟨rfl, ?_⟩
            conv => whnf
            refine ⟨_, _, rfl, rotC (v 44).e (hv 44).2.2.2.2.1, ?_⟩
            conv => whnf
            refine ⟨rfl, ?_⟩
            conv => whnf
            refine ⟨rfl, ?_⟩
            conv => whnf
            refine ⟨rfl, ?_⟩
            conv => whnf
            refine ⟨rfl, ?_⟩
            conv => whnf
            refine ⟨rfl, ?_⟩
            conv => whnf
            refine ⟨rfl, ?_⟩
            conv => whnf
            refine ⟨by kernel_rfl, ?_⟩
            conv => whnf
            refine ⟨rfl, ?_⟩
            conv => whnf
            refine ⟨_, _, rfl, rotD (v 44).a (hv 44).1, ?_⟩
            conv => whnf
            refine ⟨rfl, ?_⟩
            conv => whnf
            refine ⟨rfl, ?_⟩
            conv => whnf
            refine ⟨rfl, ?_⟩
            conv => whnf
            refine ⟨rfl, ?_⟩
            conv => whnf
            refine ⟨rfl, ?_⟩
            conv => whnf
            refine ⟨by kernel_rfl, ?_⟩
            conv => whnf
            refine ⟨⟨45, by omega⟩, by dsimp only; omega, SubE.of ⟨rfl, rfl, rfl, rfl, rfl, rfl, trivial⟩, ?_⟩
            show [_, _, _, AObj.cells (.t 299) 0 ((v 45).ds.map .p)] = [_, _, _, AObj.cells (.t 299) 0 [.p (.lit (.int .u32 (w32 (xI (v 44) (k 44) (w 44) + yI (v 44))))), .p (u32 (v 44).a), .p (u32 (v 44).b), .p (u32 (v 44).c), .p (.lit (.int .u32 (w32 (((v 44).d : Int) + xI (v 44) (k 44) (w 44))))), .p (u32 (v 44).e), .p (u32 (v 44).f), .p (u32 (v 44).g)]]
            rw [xI_eq _ _ _ (hv 44), yI_eq _ (hv 44), w32_add, w32_add, hr 44 (by omega)]
            rfl
          · conv => whnf
            refine ⟨by kernel_rfl, ?_⟩
            conv => whnf
            refine ⟨rfl, ?_⟩
            conv => whnf
            refine ⟨rfl, ?_⟩
            conv => whnf
            refine ⟨_, _, rfl, rotC (v 45).e (hv 45).2.2.2.2.1, ?_⟩
            conv => whnf
            refine ⟨rfl, ?_⟩
            conv => whnf
            refine ⟨rfl, ?_⟩
            conv => whnf
            refine ⟨rfl, ?_⟩
            conv => whnf
            refine ⟨rfl, ?_⟩
            conv => whnf
            refine ⟨rfl, ?_⟩
            conv => whnf
            refine ⟨rfl, ?_⟩
            conv => whnf
            refine ⟨by kernel_rfl, ?_⟩
            conv => whnf
            refine ⟨rfl, ?_⟩
            conv => whnf
            refine ⟨_, _, rfl, rotD (v 45).a (hv 45).1, ?_⟩
            conv => whnf
            refine ⟨rfl, ?_⟩
            conv => whnf
            refine ⟨rfl, ?_⟩
            conv => whnf
            refine ⟨rfl, ?_⟩
            conv => whnf
            refine ⟨rfl, ?_⟩
            conv => whnf
            refine ⟨rfl, ?_⟩
            conv => whnf
            refine ⟨by kernel_rfl, ?_⟩
            conv => whnf
            refine ⟨⟨46, by omega⟩, by dsimp only; omega, SubE.of ⟨rfl, rfl, rfl, rfl, rfl, rfl, trivial⟩, ?_⟩
            show [_, _, _, AObj.cells (.t 299) 0 ((v 46).ds.map .p)] = [_, _, _, AObj.cells (.t 299) 0 [.p (.lit (.int .u32 (w32 (xI (v 45) (k 45) (w 45) + yI (v 45))))), .p (u32 (v 45).a), .p (u32 (v 45).b), .p (u32 (v 45).c), .p (.lit (.int .u32 (w32 (((v 45).d : Int) + xI (v 45) (k 45) (w 45))))), .p (u32 (v 45).e), .p (u32 (v 45).f), .p (u32 (v 45).g)]]
            rw [xI_eq _ _ _ (hv 45), yI_eq _ (hv 45), w32_add, w32_add, hr 45 (by omega)]
            rfl
          · conv => whnf
            refine ⟨by kernel_rfl, ?_⟩
            conv => whnf
            refine ⟨rfl, ?_⟩
            conv => whnf
            refine ⟨rfl, ?_⟩
            conv => whnf
            refine ⟨_, _, rfl, rotC (v 46).e (hv 46).2.2.2.2.1, ?_⟩
            conv => whnf
            refine ⟨rfl, ?_⟩
            conv => whnf
            refine ⟨rfl, ?_⟩
            conv => whnf
            refine ⟨rfl, ?_⟩
            conv => whnf
            refine ⟨rfl, ?_⟩
            conv => whnf
            refine ⟨rfl, ?_⟩
            conv => whnf
            refine ⟨rfl, ?_⟩
            conv => whnf
            refine ⟨by kernel_rfl, ?_⟩
            conv => whnf
            refine ⟨rfl, ?_⟩
            conv => whnf
            refine ⟨_, _, rfl, rotD (v 46).a (hv 46).1, ?_⟩
            conv => whnf
            refine ⟨rfl, ?_⟩
            conv => whnf
            refine ⟨rfl, ?_⟩
            conv => whnf
            refine ⟨rfl, ?_⟩
            conv => whnf
            refine ⟨rfl, ?_⟩
            conv => whnf
            refine ⟨rfl, ?_⟩
            conv => whnf
            refine ⟨by kernel_rfl, ?_⟩
            conv => whnf
            refine ⟨⟨47, by omega⟩, by dsimp only; omega, SubE.of ⟨rfl, rfl, rfl, rfl, rfl, rfl, trivial⟩, ?_⟩
            show [_, _, _, AObj.cells (.t 299) 0 ((v 47).ds.map .p)] = [_, _, _, AObj.cells (.t 299) 0 [.p (.lit (.int .u32 (w32 (xI (v 46) (k 46) (w 46) + yI (v 46))))), .p (u32 (v 46).a), .p (u32 (v 46).b), .p (u32 (v 46).c), .p (.lit (.int .u32 (w32 (((v 46).d : Int) + xI (v 46) (k 46) (w 46))))), .p (u32 (v 46).e), .p (u32 (v 46).f), .p (u32 (v 46).g)]]
            rw [xI_eq _ _ _ (hv 46), yI_eq _ (hv 46), w32_add, w32_add, hr 46 (by omega)]
            rfl
          · conv => whnf
            refine ⟨by kernel_rfl, ?_⟩
            conv => whnf
            refine ⟨rfl, ?_⟩
            conv => whnf
            refine ⟨rfl, ?_⟩
            conv => whnf
            refine ⟨_, _, rfl, rotC (v 47).e (hv 47).2.2.2.2.1, ?_⟩
            conv => whnf
            refine ⟨rfl, ?_⟩
            conv => whnf
            refine ⟨rfl, ?_⟩
            conv => whnf
            refine ⟨rfl, ?_⟩
            conv => whnf
            refine ⟨rfl, ?_⟩
            conv => whnf
            refine ⟨rfl, ?_⟩
            conv => whnf
            refine ⟨rfl, ?_⟩
            conv => whnf
            refine ⟨by kernel_rfl, ?_⟩
            conv => whnf
            refine ⟨rfl, ?_⟩
            conv => whnf
            refine ⟨_, _, rfl, rotD (v 47).a (hv 47).1, ?_⟩
            conv => whnf
            refine ⟨rfl, ?_⟩
            conv => whnf
            refine ⟨rfl, ?_⟩
            conv => whnf
            refine ⟨rfl, ?_⟩
            conv => whnf
            refine ⟨rfl, ?_⟩
            conv => whnf
            refine ⟨rfl, ?_⟩
            conv => whnf
            refine ⟨by kernel_rfl, ?_⟩
            conv => whnf
            refine ⟨⟨48, by omega⟩, by dsimp only; omega, SubE.of ⟨rfl, rfl, rfl, rfl, rfl, rfl, trivial⟩, ?_⟩
            show [_, _, _, AObj.cells (.t 299) 0 ((v 48).ds.map .p)] = [_, _, _, AObj.cells (.t 299) 0 [.p (.lit (.int .u32 (w32 (xI (v 47) (k 47) (w 47) + yI (v 47))))), .p (u32 (v 47).a), .p (u32 (v 47).b), .p (u32 (v 47).c), .p (.lit (.int .u32 (w32 (((v 47).d : Int) + xI (v 47) (k 47) (w 47))))), .p (u32 (v 47).e), .p (u32 (v 47).f), .p (u32 (v 47).g)]]
            rw [xI_eq _ _ _ (hv 47), yI_eq _ (hv 47), w32_add, w32_add, hr 47 (by omega)]
            rfl
          · conv => whnf
            refine ⟨by kernel_rfl, ?_⟩
            conv => whnf
            refine ⟨rfl, ?_⟩
            conv => whnf
            refine ⟨rfl, ?_⟩
            conv => whnf
            refine ⟨_, _, rfl, rotC (v 48).e (hv 48).2.2.2.2.1, ?_⟩
            conv => whnf
            refine ⟨rfl, ?_⟩
            conv => whnf
            refine ⟨rfl, ?_⟩
            conv => whnf
            refine ⟨rfl, ?_⟩
            conv => whnf
            refine ⟨rfl, ?_⟩
            conv => whnf
            refine ⟨rfl, ?_⟩
            conv => whnf
            refine ⟨rfl, ?_⟩
            conv => whnf
            refine ⟨by kernel_rfl, ?_⟩
            conv => whnf
            refine ⟨rfl, ?_⟩
            conv => whnf
            refine ⟨_, _, rfl, rotD (v 48).a (hv 48).1, ?_⟩
            conv => whnf
            refine ⟨rfl, ?_⟩
            conv => whnf
            refine ⟨rfl, ?_⟩
            conv => whnf
            refine ⟨rfl, ?_⟩
            conv => whnf
            refine ⟨rfl, ?_⟩
            conv => whnf
            refine ⟨rfl, ?_⟩
            conv => whnf
            refine ⟨by kernel_rfl, ?_⟩
            conv => whnf
            refine ⟨⟨49, by omega⟩, by dsimp only; omega, SubE.of ⟨rfl, rfl, rfl, rfl, rfl, rfl, trivial⟩, ?_⟩
            show [_, _, _, AObj.cells (.t 299) 0 ((v 49).ds.map .p)] = [_, _, _, AObj.cells (.t 299) 0 [.p (.lit (.int .u32 (w32 (xI (v 48) (k 48) (w 48) + yI (v 48))))), .p (u32 (v 48).a), .p (u32 (v 48).b), .p (u32 (v 48).c), .p (.lit (.int .u32 (w32 (((v 48).d : Int) + xI (v 48) (k 48) (w 48))))), .p (u32 (v 48).e), .p (u32 (v 48).f), .p (u32 (v 48).g)]]
            rw [xI_eq _ _ _ (hv 48), yI_eq _ (hv 48), w32_add, w32_add, hr 48 (by omega)]
            rfl
          · conv => whnf
            refine ⟨by kernel_rfl, ?_⟩
            conv => whnf
            refine ⟨rfl, ?_⟩
            conv => whnf
            refine ⟨rfl, ?_⟩
            conv => whnf
            refine ⟨_, _, rfl, rotC (v 49).e (hv 49).2.2.2.2.1, ?_⟩
            conv => whnf
            refine ⟨rfl, ?_⟩
            conv => whnf
            refine ⟨rfl, ?_⟩
            conv => whnf
            refine ⟨rfl, ?_⟩
            conv => whnf
            refine ⟨rfl, ?_⟩
            conv => whnf
            refine ⟨rfl, ?_⟩
            conv => whnf
            refine ⟨rfl, ?_⟩
            conv => whnf
            refine ⟨by kernel_rfl, ?_⟩
            conv => whnf
            refine ⟨rfl, ?_⟩
            conv => whnf
            refine ⟨_, _, rfl, rotD (v 49).a (hv 49).1, ?_⟩
            conv => whnf
            refine ⟨rfl, ?_⟩
            conv => whnf
            refine ⟨rfl, ?_⟩
            conv => whnf
            refine ⟨rfl, ?_⟩
            conv => whnf
            refine ⟨rfl, ?_⟩
            conv => whnf
            refine ⟨rfl, ?_⟩
            conv => whnf
            refine ⟨by kernel_rfl, ?_⟩
            conv => whnf
            refine ⟨⟨50, by omega⟩, by dsimp only; omega, SubE.of ⟨rfl, rfl, rfl, rfl, rfl, rfl, trivial⟩, ?_⟩
            show [_, _, _, AObj.cells (.t 299) 0 ((v 50).ds.map .p)] = [_, _, _, AObj.cells (.t 299) 0 [.p (.lit (.int .u32 (w32 (xI (v 49) (k 49) (w 49) + yI (v 49))))), .p (u32 (v 49).a), .p (u32 (v 49).b), .p (u32 (v 49).c), .p (.lit (.int .u32 (w32 (((v 49).d : Int) + xI (v 49) (k 49) (w 49))))), .p (u32 (v 49).e), .p (u32 (v 49).f), .p (u32 (v 49).g)]]
            rw [xI_eq _ _ _ (hv 49), yI_eq _ (hv 49), w32_add, w32_add, hr 49 (by omega)]
            rfl
          · conv => whnf
            refine ⟨by kernel_rfl, ?_⟩
            conv => whnf
            refine ⟨rfl, ?_⟩
            conv => whnf
            refine ⟨rfl, ?_⟩
            conv => whnf
            refine ⟨_, _, rfl, rotC (v 50).e (hv 50).2.2.2.2.1, ?_⟩
            conv => whnf
            refine ⟨rfl, ?_⟩
            conv => whnf
            refine ⟨rfl, ?_⟩
            conv => whnf
            refine ⟨rfl, ?_⟩
            conv => whnf
            refine ⟨rfl, ?_⟩
            conv => whnf
            refine ⟨rfl, ?_⟩
            conv => whnf
            refine ⟨rfl, ?_⟩
            conv => whnf
            refine ⟨by kernel_rfl, ?_⟩
            conv => whnf
            refine ⟨rfl, ?_⟩
            conv => whnf
            refine ⟨_, _, rfl, rotD (v 50).a (hv 50).1, ?_⟩
            conv => whnf
            refine ⟨rfl, ?_⟩
            conv => whnf
            refine ⟨rfl, ?_⟩
            conv => whnf
            refine ⟨rfl, ?_⟩
            conv => whnf
            refine ⟨rfl, ?_⟩
            conv => whnf
            refine ⟨rfl, ?_⟩
            conv => whnf
            refine ⟨by kernel_rfl, ?_⟩
            conv => whnf
            refine ⟨⟨51, by omega⟩, by dsimp only; omega, SubE.of ⟨rfl, rfl, rfl, rfl, rfl, rfl, trivial⟩, ?_⟩
            show [_, _, _, AObj.cells (.t 299) 0 ((v 51).ds.map .p)] = [_, _, _, AObj.cells (.t 299) 0 [.p (.lit (.int .u32 (w32 (xI (v 50) (k 50) (w 50) + yI (v 50))))), .p (u32 (v 50).a), .p (u32 (v 50).b), .p (u32 (v 50).c), .p (.lit (.int .u32 (w32 (((v 50).d : Int) + xI (v 50) (k 50) (w 50))))), .p (u32 (v 50).e), .p (u32 (v 50).f), .p (u32 (v 50).g)]]
            rw [xI_eq _ _ _ (hv 50), yI_eq _ (hv 50), w32_add, w32_add, hr 50 (by omega)]
            rfl
          · conv => whnf
            refine ⟨by kernel_rfl, ?_⟩
            conv => whnf
            refine ⟨rfl, ?_⟩
            conv => whnf
            refine ⟨rfl, ?_⟩
            conv => whnf
            refine ⟨_, _, rfl, rotC (v 51).e (hv 51).2.2.2.2.1, ?_⟩
            conv => whnf
            refine ⟨rfl, ?_⟩
            conv => whnf
            refine ⟨rfl, ?_⟩
            conv => whnf
            refine ⟨rfl, ?_⟩
            conv => whnf
            refine ⟨rfl, ?_⟩
            conv => whnf
            refine ⟨rfl, ?_⟩
            conv => whnf
            refine ⟨rfl, ?_⟩
            conv => whnf
            refine ⟨by kernel_rfl, ?_⟩
            conv => whnf
            refine ⟨rfl, ?_⟩
            conv => whnf
            refine ⟨_, _, rfl, rotD (v 51).a (hv 51).1, ?_⟩
            conv => whnf
            refine ⟨rfl, ?_⟩
            conv => whnf
            refine ⟨rfl, ?_⟩
            conv => whnf
            refine ⟨rfl, ?_⟩
            conv => whnf
            refine ⟨rfl, ?_⟩
            conv => whnf
            refine ⟨rfl, ?_⟩
            conv => whnf
            refine ⟨by kernel_rfl, ?_⟩
            conv => whnf
            refine ⟨⟨52, by omega⟩, by dsimp only; omega, SubE.of ⟨rfl, rfl, rfl, rfl, rfl, rfl, trivial⟩, ?_⟩
            show [_, _, _, AObj.cells (.t 299) 0 ((v 52).ds.map .p)] = [_, _, _, AObj.cells (.t 299) 0 [.p (.lit (.int .u32 (w32 (xI (v 51) (k 51) (w 51) + yI (v 51))))), .p (u32 (v 51).a), .p (u32 (v 51).b), .p (u32 (v 51).c), .p (.lit (.int .u32 (w32 (((v 51).d : Int) + xI (v 51) (k 51) (w 51))))), .p (u32 (v 51).e), .p (u32 (v 51).f), .p (u32 (v 51).g)]]
            rw [xI_eq _ _ _ (hv 51), yI_eq _ (hv 51), w32_add, w32_add, hr 51 (by omega)]
            rfl
          · conv => whnf
            refine ⟨by kernel_rfl, ?_⟩
            conv => whnf
            refine ⟨rfl, ?_⟩
            conv => whnf
            refine ⟨rfl, ?_⟩
            conv => whnf
            refine ⟨_, _, rfl, rotC (v 52).e (hv 52).2.2.2.2.1, ?_⟩
            conv => whnf
            refine ⟨rfl, ?_⟩
            conv => whnf
            refine ⟨rfl, ?_⟩
            conv => whnf
            refine ⟨rfl, ?_⟩
            conv => whnf
            refine ⟨rfl, ?_⟩
            conv => whnf
            refine ⟨rfl, ?_⟩
            conv => whnf
            refine ⟨rfl, ?_⟩
            conv => whnf
            refine ⟨by kernel_rfl, ?_⟩
            conv => whnf
            refine ⟨rfl, ?_⟩
            conv => whnf
            refine ⟨_, _, rfl, rotD (v 52).a (hv 52).1, ?_⟩
            conv => whnf
            refine ⟨rfl, ?_⟩
            conv => whnf
            refine ⟨rfl, ?_⟩
            conv => whnf
            refine ⟨rfl, ?_⟩
            conv => whnf
            refine ⟨rfl, ?_⟩
            conv => whnf
            refine ⟨rfl, ?_⟩
            conv => whnf
            refine ⟨by kernel_rfl, ?_⟩
            conv => whnf
            refine ⟨⟨53, by omega⟩, by dsimp only; omega, SubE.of ⟨rfl, rfl, rfl, rfl, rfl, rfl, trivial⟩, ?_⟩
            show [_, _, _, AObj.cells (.t 299) 0 ((v 53).ds.map .p)] = [_, _, _, AObj.cells (.t 299) 0 [.p (.lit (.int .u32 (w32 (xI (v 52) (k 52) (w 52) + yI (v 52))))), .p (u32 (v 52).a), .p (u32 (v 52).b), .p (u32 (v 52).c), .p (.lit (.int .u32 (w32 (((v 52).d : Int) + xI (v 52) (k 52) (w 52))))), .p (u32 (v 52).e), .p (u32 (v 52).f), .p (u32 (v 52).g)]]
            rw [xI_eq _ _ _ (hv 52), yI_eq _ (hv 52), w32_add, w32_add, hr 52 (by omega)]
            rfl
          · conv => whnf
            refine ⟨by kernel_rfl, ?_⟩
            conv => whnf
            refine ⟨rfl, ?_⟩
            conv => whnf
            refine ⟨rfl, ?_⟩
            conv => whnf
            refine ⟨_, _, rfl, rotC (v 53).e (hv 53).2.2.2.2.1, ?_⟩
            conv => whnf
            refine ⟨rfl, ?_⟩
            conv => whnf
            refine ⟨rfl, ?_⟩
            conv => whnf
            refine ⟨rfl, ?_⟩
            conv => whnf
            refine ⟨rfl, ?_⟩
            conv => whnf
            refine ⟨rfl, ?_⟩
            conv => whnf
            refine ⟨rfl, ?_⟩
            conv => whnf
            refine ⟨by kernel_rfl, ?_⟩
            conv => whnf
            refine ⟨rfl, ?_⟩
            conv => whnf
            refine ⟨_, _, rfl, rotD (v 53).a (hv 53).1, ?_⟩
            conv => whnf
            refine ⟨rfl, ?_⟩
            conv => whnf
            refine ⟨rfl, ?_⟩
            conv => whnf
            refine ⟨rfl, ?_⟩
            conv => whnf
            refine ⟨rfl, ?_⟩
            conv => whnf
            refine ⟨rfl, ?_⟩
            conv => whnf
            refine ⟨by kernel_rfl, ?_⟩
            conv => whnf
            refine ⟨⟨54, by omega⟩, by dsimp only; omega, SubE.of ⟨rfl, rfl, rfl, rfl, rfl, rfl, trivial⟩, ?_⟩
            show [_, _, _, AObj.cells (.t 299) 0 ((v 54).ds.map .p)] = [_, _, _, AObj.cells (.t 299) 0 [.p (.lit (.int .u32 (w32 (xI (v 53) (k 53) (w 53) + yI (v 53))))), .p (u32 (v 53).a), .p (u32 (v 53).b), .p (u32 (v 53).c), .p (.lit (.int .u32 (w32 (((v 53).d : Int) + xI (v 53) (k 53) (w 53))))), .p (u32 (v 53).e), .p (u32 (v 53).f), .p (u32 (v 53).g)]]
            rw [xI_eq _ _ _ (hv 53), yI_eq _ (hv 53), w32_add, w32_add, hr 53 (by omega)]
            rfl
          · conv => whnf
            refine ⟨by kernel_rfl, ?_⟩
            conv => whnf
            refine ⟨rfl, ?_⟩
            conv => whnf
            refine ⟨rfl, ?_⟩
            conv => whnf
            refine ⟨_, _, rfl, rotC (v 54).e (hv 54).2.2.2.2.1, ?_⟩
            conv => whnf
            refine ⟨rfl, ?_⟩
            conv => whnf
            refine ⟨rfl, ?_⟩
            conv => whnf
            refine ⟨rfl, ?_⟩
            conv => whnf
            refine ⟨rfl, ?_⟩
            conv => whnf
            refine ⟨rfl, ?_⟩
            conv => whnf
            refine ⟨rfl, ?_⟩
            conv => whnf
            refine ⟨by kernel_rfl, ?_⟩
            conv => whnf
            refine ⟨rfl, ?_⟩
            conv => whnf
            refine ⟨_, _, rfl, rotD (v 54).a (hv 54).1, ?_⟩
            conv => whnf
            refine ⟨rfl, ?_⟩
            conv => whnf
            refine ⟨rfl, ?_⟩
            conv => whnf
            refine ⟨rfl, ?_⟩
            conv => whnf
            refine ⟨rfl, ?_⟩
            conv => whnf
            refine ⟨rfl, ?_⟩
            conv => whnf
            refine ⟨by kernel_rfl, ?_⟩
            conv => whnf
            refine ⟨⟨55, by omega⟩, by dsimp only; omega, SubE.of ⟨rfl, rfl, rfl, rfl, rfl, rfl, trivial⟩, ?_⟩
            show [_, _, _, AObj.cells (.t 299) 0 ((v 55).ds.map .p)] = [_, _, _, AObj.cells (.t 299) 0 [.p (.lit (.int .u32 (w32 (xI (v 54) (k 54) (w 54) + yI (v 54))))), .p (u32 (v 54).a), .p (u32 (v 54).b), .p (u32 (v 54).c), .p (.lit (.int .u32 (w32 (((v 54).d : Int) + xI (v 54) (k 54) (w 54))))), .p (u32 (v 54).e), .p (u32 (v 54).f), .p (u32 (v 54).g)]]
            rw [xI_eq _ _ _ (hv 54), yI_eq _ (hv 54), w32_add, w32_add, hr 54 (by omega)]
            rfl
          · conv => whnf
            refine ⟨by kernel_rfl, ?_⟩
            conv => whnf
            refine ⟨rfl, ?_⟩
            conv => whnf
            refine ⟨rfl, ?_⟩
            conv => whnf
            refine ⟨_, _, rfl, rotC (v 55).e (hv 55).2.2.2.2.1, ?_⟩
            conv => whnf
            refine ⟨rfl, ?_⟩
            conv => whnf
            refine ⟨rfl, ?_⟩
            conv => whnf
            refine ⟨rfl, ?_⟩
            conv => whnf
            refine ⟨rfl, ?_⟩
            conv => whnf
            refine ⟨rfl, ?_⟩
            conv => whnf
            refine ⟨rfl, ?_⟩
            conv => whnf
            refine ⟨by kernel_rfl, ?_⟩
            conv => whnf
            refine ⟨rfl, ?_⟩
            conv => whnf
            refine ⟨_, _, rfl, rotD (v 55).a (hv 55).1, ?_⟩
            conv => whnf
            refine ⟨rfl, ?_⟩
            conv => whnf
            refine ⟨rfl, ?_⟩
            conv => whnf
            refine ⟨rfl, ?_⟩
            conv => whnf
            refine ⟨rfl, ?_⟩
            conv => whnf
            refine ⟨rfl, ?_⟩
            conv => whnf
            refine ⟨by kernel_rfl, ?_⟩
            conv => whnf
            refine ⟨⟨56, by omega⟩, by dsimp only; omega, SubE.of ⟨rfl, rfl, rfl, rfl, rfl, rfl, trivial⟩, ?_⟩
            show [_, _, _, AObj.cells (.t 299) 0 ((v 56).ds.map .p)] = [_, _, _, AObj.cells (.t 299) 0 [.p (.lit (.int .u32 (w32 (xI (v 55) (k 55) (w 55) + yI (v 55))))), .p (u32 (v 55).a), .p (u32 (v 55).b), .p (u32 (v 55).c), .p (.lit (.int .u32 (w32 (((v 55).d : Int) + xI (v 55) (k 55) (w 55))))), .p (u32 (v 55).e), .p (u32 (v 55).f), .p (u32 (v 55).g)]]
            rw [xI_eq _ _ _ (hv 55), yI_eq _ (hv 55), w32_add, w32_add, hr 55 (by omega)]
            rfl
          · conv => whnf
            refine ⟨by kernel_rfl, ?_⟩
            conv => whnf
            refine ⟨rfl, ?_⟩
            conv => whnf
            refine ⟨rfl, ?_⟩
            conv => whnf
            refine ⟨_, _, rfl, rotC (v 56).e (hv 56).2.2.2.2.1, ?_⟩
            conv => whnf
            refine ⟨rfl, ?_⟩
            conv => whnf
            refine ⟨rfl, ?_⟩
            conv => whnf
            refine ⟨rfl, ?_⟩
            conv => whnf
            refine ⟨rfl, ?_⟩
            conv => whnf
            refine ⟨rfl, ?_⟩
            conv => whnf
            refine ⟨rfl, ?_⟩
            conv => whnf
            refine ⟨by kernel_rfl, ?_⟩
            conv => whnf
            refine ⟨rfl, ?_⟩
            conv => whnf
            refine ⟨_, _, rfl, rotD (v 56).a (hv 56).1, ?_⟩
            conv => whnf
            refine ⟨rfl, ?_⟩
            conv => whnf
            refine ⟨rfl, ?_⟩
            conv => whnf
            refine ⟨rfl, ?_⟩
            conv => whnf
            refine ⟨rfl, ?_⟩
            conv => whnf
            refine ⟨rfl, ?_⟩
            conv => whnf
            refine ⟨by kernel_rfl, ?_⟩
            conv => whnf
            refine ⟨⟨57, by omega⟩, by dsimp only; omega, SubE.of ⟨rfl, rfl, rfl, rfl, rfl, rfl, trivial⟩, ?_⟩
            show [_, _, _, AObj.cells (.t 299) 0 ((v 57).ds.map .p)] = [_, _, _, AObj.cells (.t 299) 0 [.p (.lit (.int .u32 (w32 (xI (v 56) (k 56) (w 56) + yI (v 56))))), .p (u32 (v 56).a), .p (u32 (v 56).b), .p (u32 (v 56).c), .p (.lit (.int .u32 (w32 (((v 56).d : Int) + xI (v 56) (k 56) (w 56))))), .p (u32 (v 56).e), .p (u32 (v 56).f), .p (u32 (v 56).g)]]
            rw [xI_eq _ _ _ (hv 56), yI_eq _ (hv 56), w32_add, w32_add, hr 56 (by omega)]
            rfl
          · conv => whnf
            refine ⟨by kernel_rfl, ?_⟩
            conv => whnf
            refine ⟨rfl, ?_⟩
            conv => whnf
            refine ⟨rfl, ?_⟩
            conv => whnf
            refine ⟨_, _, rfl, rotC (v 57).e (hv 57).2.2.2.2.1, ?_⟩
            conv => whnf
            refine ⟨rfl, ?_⟩
            conv => whnf
            refine ⟨rfl, ?_⟩
            conv => whnf
            refine ⟨rfl, ?_⟩
            conv => whnf
            refine ⟨rfl, ?_⟩
            conv => whnf
            refine ⟨rfl, ?_⟩
            conv => whnf
            refine ⟨rfl, ?_⟩
            conv => whnf
            refine ⟨by kernel_rfl, ?_⟩
            conv => whnf
            refine ⟨rfl, ?_⟩
            conv => whnf
            refine ⟨_, _, rfl, rotD (v 57).a (hv 57).1, ?_⟩
            conv => whnf
            refine ⟨rfl, ?_⟩
            conv => whnf
            refine ⟨rfl, ?_⟩
            conv => whnf
            refine ⟨rfl, ?_⟩
            conv => whnf
            refine ⟨rfl, ?_⟩
            conv => whnf
            refine ⟨rfl, ?_⟩
            conv => whnf
            refine ⟨by kernel_rfl, ?_⟩
            conv => whnf
            refine ⟨⟨58, by omega⟩, by dsimp only; omega, SubE.of ⟨rfl, rfl, rfl, rfl, rfl, rfl, trivial⟩, ?_⟩
            show [_, _, _, AObj.cells (.t 299) 0 ((v 58).ds.map .p)] = [_, _, _, AObj.cells (.t 299) 0 [.p (.lit (.int .u32 (w32 (xI (v 57) (k 57) (w 57) + yI (v 57))))), .p (u32 (v 57).a), .p (u32 (v 57).b), .p (u32 (v 57).c), .p (.lit (.int .u32 (w32 (((v 57).d : Int) + xI (v 57) (k 57) (w 57))))), .p (u32 (v 57).e), .p (u32 (v 57).f), .p (u32 (v 57).g)]]
            rw [xI_eq _ _ _ (hv 57), yI_eq _ (hv 57), w32_add, w32_add, hr 57 (by omega)]
            rfl
          · conv => whnf
            refine ⟨by kernel_rfl, ?_⟩
            conv => whnf
            refine ⟨rfl, ?_⟩
            conv => whnf
            refine ⟨rfl, ?_⟩
            conv => whnf
            refine ⟨_, _, rfl, rotC (v 58).e (hv 58).2.2.2.2.1, ?_⟩
            conv => whnf
            refine ⟨rfl, ?_⟩
            conv => whnf
            refine ⟨rfl, ?_⟩
            conv => whnf
            refine ⟨rfl, ?_⟩
            conv => whnf
            refine ⟨rfl, ?_⟩
            conv => whnf
            refine ⟨rfl, ?_⟩
            conv => whnf
            refine ⟨rfl, ?_⟩
            conv => whnf
            refine ⟨by kernel_rfl, ?_⟩
            conv => whnf
            refine ⟨rfl, ?_⟩
            conv => whnf
            refine ⟨_, _, rfl, rotD (v 58).a (hv 58).1, ?_⟩
            conv => whnf
            refine ⟨rfl, ?_⟩
            conv => whnf
            refine ⟨rfl, ?_⟩
            conv => whnf
            refine ⟨rfl, ?_⟩
            conv => whnf
            refine ⟨rfl, ?_⟩
            conv => whnf
            refine ⟨rfl, ?_⟩
            conv => whnf
            refine ⟨by kernel_rfl, ?_⟩
            conv => whnf
            refine ⟨⟨59, by omega⟩, by dsimp only; omega, SubE.of ⟨rfl, rfl, rfl, rfl, rfl, rfl, trivial⟩, ?_⟩
            show [_, _, _, AObj.cells (.t 299) 0 ((v 59).ds.map .p)] = [_, _, _, AObj.cells (.t 299) 0 [.p (.lit (.int .u32 (w32 (xI (v 58) (k 58) (w 58) + yI (v 58))))), .p (u32 (v 58).a), .p (u32 (v 58).b), .p (u32 (v 58).c), .p (.lit (.int .u32 (w32 (((v 58).d : Int) + xI (v 58) (k 58) (w 58))))), .p (u32 (v 58).e), .p (u32 (v 58).f), .p (u32 (v 58).g)]]
            rw [xI_eq _ _ _ (hv 58), yI_eq _ (hv 58), w32_add, w32_add, hr 58 (by omega)]
            rfl
          · conv => whnf
            refine ⟨by kernel_rfl, ?_⟩
            conv => whnf
            refine ⟨rfl, ?_⟩
            conv => whnf
            refine ⟨rfl, ?_⟩
            conv => whnf
            refine ⟨_, _, rfl, rotC (v 59).e (hv 59).2.2.2.2.1, ?_⟩
            conv => whnf
            refine ⟨rfl, ?_⟩
            conv => whnf
            refine ⟨rfl, ?_⟩
            conv => whnf
            refine ⟨rfl, ?_⟩
            conv => whnf
            refine ⟨rfl, ?_⟩
            conv => whnf
            refine ⟨rfl, ?_⟩
            conv => whnf
            refine ⟨rfl, ?_⟩
            conv => whnf
            refine ⟨by kernel_rfl, ?_⟩
            conv => whnf
            refine ⟨rfl, ?_⟩
            conv => whnf
            refine ⟨_, _, rfl, rotD (v 59).a (hv 59).1, ?_⟩
            conv => whnf
            refine ⟨rfl, ?_⟩
            conv => whnf
            refine ⟨rfl, ?_⟩
            conv => whnf
            refine ⟨rfl, ?_⟩
            conv => whnf
            refine ⟨rfl, ?_⟩
            conv => whnf
            refine ⟨rfl, ?_⟩
            conv => whnf
            refine ⟨by kernel_rfl, ?_⟩
            conv => whnf
            refine ⟨⟨60, by omega⟩, by dsimp only; omega, SubE.of ⟨rfl, rfl, rfl, rfl, rfl, rfl, trivial⟩, ?_⟩
            show [_, _, _, AObj.cells (.t 299) 0 ((v 60).ds.map .p)] = [_, _, _, AObj.cells (.t 299) 0 [.p (.lit (.int .u32 (w32 (xI (v 59) (k 59) (w 59) + yI (v 59))))), .p (u32 (v 59).a), .p (u32 (v 59).b), .p (u32 (v 59).c), .p (.lit (.int .u32 (w32 (((v 59).d : Int) + xI (v 59) (k 59) (w 59))))), .p (u32 (v 59).e), .p (u32 (v 59).f), .p (u32 (v 59).g)]]
            rw [xI_eq _ _ _ (hv 59), yI_eq _ (hv 59), w32_add, w32_add, hr 59 (by omega)]
            rfl
          · conv => whnf
            refine ⟨by kernel_rfl, ?_⟩
            conv => whnf
            refine ⟨rfl, ?_⟩
            conv => whnf
            refine ⟨rfl, ?_⟩
            conv => whnf
            refine ⟨_, _, rfl, rotC (v 60).e (hv 60).2.2.2.2.1, ?_⟩
            conv => whnf
            refine ⟨rfl, ?_⟩
            conv => whnf
            refine ⟨rfl, ?_⟩
            conv => whnf
            refine ⟨rfl, ?_⟩
            conv => whnf
            refine ⟨rfl, ?_⟩
            conv => whnf
            refine ⟨rfl, ?_⟩
            conv => whnf
            refine ⟨rfl, ?_⟩
            conv => whnf
            refine ⟨by kernel_rfl, ?_⟩
            conv => whnf
            refine ⟨rfl, ?_⟩
            conv => whnf
            refine ⟨_, _, rfl, rotD (v 60).a (hv 60).1, ?_⟩
            conv => whnf
            refine ⟨rfl, ?_⟩
            conv => whnf
            refine ⟨rfl, ?_⟩
            conv => whnf
            refine ⟨rfl, ?_⟩
            conv => whnf
            refine ⟨rfl, ?_⟩
            conv => whnf
            refine ⟨rfl, ?_⟩
            conv => whnf
            refine ⟨by kernel_rfl, ?_⟩
            conv => whnf
            refine ⟨⟨61, by omega⟩, by dsimp only; omega, SubE.of ⟨rfl, rfl, rfl, rfl, rfl, rfl, trivial⟩, ?_⟩
            show [_, _, _, AObj.cells (.t 299) 0 ((v 61).ds.map .p)] = [_, _, _, AObj.cells (.t 299) 0 [.p (.lit (.int .u32 (w32 (xI (v 60) (k 60) (w 60) + yI (v 60))))), .p (u32 (v 60).a), .p (u32 (v 60).b), .p (u32 (v 60).c), .p (.lit (.int .u32 (w32 (((v 60).d : Int) + xI (v 60) (k 60) (w 60))))), .p (u32 (v 60).e), .p (u32 (v 60).f), .p (u32 (v 60).g)]]
            rw [xI_eq _ _ _ (hv 60), yI_eq _ (hv 60), w32_add, w32_add, hr 60 (by omega)]
            rfl
          · conv => whnf
            refine ⟨by kernel_rfl, ?_⟩
            conv => whnf
            refine ⟨rfl, ?_⟩
            conv => whnf
            refine ⟨rfl, ?_⟩
            conv => whnf
            refine ⟨_, _, rfl, rotC (v 61).e (hv 61).2.2.2.2.1, ?_⟩
            conv => whnf
            refine ⟨rfl, ?_⟩
            conv => whnf
            refine ⟨rfl, ?_⟩
            conv => whnf
            refine ⟨rfl, ?_⟩
            conv => whnf
            refine ⟨rfl, ?_⟩
            conv => whnf
            refine ⟨rfl, ?_⟩
            conv => whnf
            refine ⟨rfl, ?_⟩
            conv => whnf
            refine ⟨by kernel_rfl, ?_⟩
            conv => whnf
            refine ⟨rfl, ?_⟩
            conv => whnf
            refine ⟨_, _, rfl, rotD (v 61).a (hv 61).1, ?_⟩
            conv => whnf
            refine ⟨rfl, ?_⟩
            conv => whnf
            refine ⟨rfl, ?_⟩
            conv => whnf
            refine ⟨rfl, ?_⟩
            conv => whnf
            refine ⟨rfl, ?_⟩
            conv => whnf
            refine ⟨rfl, ?_⟩
            conv => whnf
            refine ⟨by kernel_rfl, ?_⟩
            conv => whnf
            refine ⟨⟨62, by omega⟩, by dsimp only; omega, SubE.of ⟨rfl, rfl, rfl, rfl, rfl, rfl, trivial⟩, ?_⟩
            show [_, _, _, AObj.cells (.t 299) 0 ((v 62).ds.map .p)] = [_, _, _, AObj.cells (.t 299) 0 [.p (.lit (.int .u32 (w32 (xI (v 61) (k 61) (w 61) + yI (v 61))))), .p (u32 (v 61).a), .p (u32 (v 61).b), .p (u32 (v 61).c), .p (.lit (.int .u32 (w32 (((v 61).d : Int) + xI (v 61) (k 61) (w 61))))), .p (u32 (v 61).e), .p (u32 (v 61).f), .p (u32 (v 61).g)]]
            rw [xI_eq _ _ _ (hv 61), yI_eq _ (hv 61), w32_add, w32_add, hr 61 (by omega)]
            rfl
          · conv => whnf
            refine ⟨by kernel_rfl, ?_⟩
            conv => whnf
            refine ⟨rfl, ?_⟩
            conv => whnf
            refine ⟨rfl, ?_⟩
            conv => whnf
            refine ⟨_, _, rfl, rotC (v 62).e (hv 62).2.2.2.2.1, ?_⟩
            conv => whnf
            refine ⟨rfl, ?_⟩
            conv => whnf
            refine ⟨rfl, ?_⟩
            conv => whnf
            refine ⟨rfl, ?_⟩
            conv => whnf
            refine ⟨rfl, ?_⟩
            conv => whnf
            refine ⟨rfl, ?_⟩
            conv => whnf
            refine ⟨rfl, ?_⟩
            conv => whnf
            refine ⟨by kernel_rfl, ?_⟩
            conv => whnf
            refine ⟨rfl, ?_⟩
            conv => whnf
            refine ⟨_, _, rfl, rotD (v 62).a (hv 62).1, ?_⟩
            conv => whnf
            refine ⟨rfl, ?_⟩
            conv => whnf
            refine ⟨rfl, ?_⟩
            conv => whnf
            refine ⟨rfl, ?_⟩
            conv => whnf
            refine ⟨rfl, ?_⟩
            conv => whnf
            refine ⟨rfl, ?_⟩
            conv => whnf
            refine ⟨by kernel_rfl, ?_⟩
            conv => whnf
            refine ⟨⟨63, by omega⟩, by dsimp only; omega, SubE.of ⟨rfl, rfl, rfl, rfl, rfl, rfl, trivial⟩, ?_⟩
            show [_, _, _, AObj.cells (.t 299) 0 ((v 63).ds.map .p)] = [_, _, _, AObj.cells (.t 299) 0 [.p (.lit (.int .u32 (w32 (xI (v 62) (k 62) (w 62) + yI (v 62))))), .p (u32 (v 62).a), .p (u32 (v 62).b), .p (u32 (v 62).c), .p (.lit (.int .u32 (w32 (((v 62).d : Int) + xI (v 62) (k 62) (w 62))))), .p (u32 (v 62).e), .p (u32 (v 62).f), .p (u32 (v 62).g)]]
            rw [xI_eq _ _ _ (hv 62), yI_eq _ (hv 62), w32_add, w32_add, hr 62 (by omega)]
            rfl
          · conv => whnf
            refine ⟨by kernel_rfl, ?_⟩
            conv => whnf
            refine ⟨rfl, ?_⟩
            conv => whnf
            refine ⟨rfl, ?_⟩
            conv => whnf
            refine ⟨_, _, rfl, rotC (v 63).e (hv 63).2.2.2.2.1, ?_⟩
            conv => whnf
            refine ⟨rfl, ?_⟩
            conv => whnf
            refine ⟨rfl, ?_⟩
            conv => whnf
            refine ⟨rfl, ?_⟩
            conv => whnf
            refine ⟨rfl, ?_⟩
            conv => whnf
            refine ⟨rfl, ?_⟩
            conv => whnf
            refine ⟨rfl, ?_⟩
            conv => whnf
            refine ⟨by kernel_rfl, ?_⟩
            conv => whnf
            refine ⟨rfl, ?_⟩
            conv => whnf
            refine ⟨_, _, rfl, rotD (v 63).a (hv 63).1, ?_⟩
            conv => whnf
            refine ⟨rfl, ?_⟩
            conv => whnf
            refine ⟨rfl, ?_⟩
            conv => whnf
            refine ⟨rfl, ?_⟩
            conv => whnf
            refine ⟨rfl, ?_⟩
            conv => whnf
            refine ⟨rfl, ?_⟩
            conv => whnf
            refine ⟨by kernel_rfl, ?_⟩
            conv => whnf
            refine ⟨⟨64, by omega⟩, by dsimp only; omega, SubE.of ⟨rfl, rfl, rfl, rfl, rfl, rfl, trivial⟩, ?_⟩
            show [_, _, _, AObj.cells (.t 299) 0 ((v 64).ds.map .p)] = [_, _, _, AObj.cells (.t 299) 0 [.p (.lit (.int .u32 (w32 (xI (v 63) (k 63) (w 63) + yI (v 63))))), .p (u32 (v 63).a), .p (u32 (v 63).b), .p (u32 (v 63).c), .p (.lit (.int .u32 (w32 (((v 63).d : Int) + xI (v 63) (k 63) (w 63))))), .p (u32 (v 63).e), .p (u32 (v 63).f), .p (u32 (v 63).g)]]
            rw [xI_eq _ _ _ (hv 63), yI_eq _ (hv 63), w32_add, w32_add, hr 63 (by omega)]
            rfl
          · conv => whnf
            refine .inl ⟨9, ?_⟩
            conv => whnf
            refine ⟨by kernel_rfl, ?_⟩
            conv => whnf
            refine ⟨rfl, ?_⟩
            conv => whnf
            refine ⟨rfl, ?_⟩
            conv => whnf
            refine ⟨by kernel_rfl, ?_⟩
            conv => whnf
            refine ⟨rfl, ?_⟩
            conv => whnf
            refine ⟨rfl, ?_⟩
            conv => whnf
            refine ⟨by kernel_rfl, ?_⟩
            conv => whnf
            refine ⟨rfl, ?_⟩
            conv => whnf
            refine ⟨rfl, ?_⟩
            conv => whnf
            refine ⟨by kernel_rfl, ?_⟩
            conv => whnf
            refine ⟨rfl, ?_⟩
            conv => whnf
            refine ⟨rfl, ?_⟩
            conv => whnf
            refine ⟨by kernel_rfl, ?_⟩
            conv => whnf
            refine ⟨rfl, ?_⟩
            conv => whnf
            refine ⟨rfl, ?_⟩
            conv => whnf
            refine ⟨by kernel_rfl, ?_⟩
            conv => whnf
            refine ⟨rfl, ?_⟩
            conv => whnf
            refine ⟨rfl, ?_⟩
            conv => whnf
            refine ⟨by kernel_rfl, ?_⟩
            conv => whnf
            refine ⟨rfl, ?_⟩
            conv => whnf
            refine ⟨rfl, ?_⟩
            conv => whnf
            refine ⟨by kernel_rfl, ?_⟩
            conv => whnf
            refine ⟨rfl, ?_⟩
            conv => whnf
            refine ⟨rfl, ?_⟩
            conv => whnf
            show some (D.agg [.lit (.int .u32 (w32 ((h.a : Int) + ((v 64).a : Int)))), .lit (.int .u32 (w32 ((h.b : Int) + ((v 64).b : Int)))), .lit (.int .u32 (w32 ((h.c : Int) + ((v 64).c : Int)))), .lit (.int .u32 (w32 ((h.d : Int) + ((v 64).d : Int)))),
              .lit (.int .u32 (w32 ((h.e : Int) + ((v 64).e : Int)))), .lit (.int .u32 (w32 ((h.f : Int) + ((v 64).f : Int)))), .lit (.int .u32 (w32 ((h.g : Int) + ((v 64).g : Int)))), .lit (.int .u32 (w32 ((h.h : Int) + ((v 64).h : Int))))]) = _
            rw [w32_add, w32_add, w32_add, w32_add, w32_add, w32_add, w32_add, w32_add]
            rfl
end Go.Abs
