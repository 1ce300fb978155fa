/-
  DERIVED: THE SHELF's CONTRACTS AT THIS DUMP, IN PLAIN WORDS (tools/lay-plain.mjs out of 'TryzIterA.lean', which tools/lay-shelf.mjs wrote): THE SAME DECLARATIONS UNDER THE SAME NAMES: 'import', 'namespace', 'open', 'def', 'theorem' AND NOTHING ELSE: no command of the shelf's: FOR A HAND-IN. Each laying: the table of numbers ('.._ren') and one theorem, a field a fact of the dump's own or the kernel's comparison; each contract: ONE APPLICATION.
-/
import Derived.Shelf.SlIter.Nil
import Derived.Shelf.SortM.Plain
import Derived.Shelf.SortM.SortNone
import Derived.Ground.GgzProg
import Derived.Ground.SlgmProg
import Derived.Test.YtpmejcfbnghaeaaGreatDoorProg
namespace Go.Proofs
open Go.Shelf
def Tryz.keys279_ren : Go.Shelf.Ren := ⟨fun | 7 => 279 | 10 => 299 | n => n, fun | 23 => 81 | 26 => 9 | 3 => 204 | 28 => 344 | 0 => 0 | 27 => 343 | 33 => 236 | 4 => 4 | n => n, fun | n => n⟩
theorem Tryz.keys279 : Go.Proofs.SlLaysZ.n7 Tryz.prog Tryz.keys279_ren := {
  mixed := by kernel_rfl
  f7 := ⟨Tryz.f279.name, by decide, Tryz.func279.trans (congrArg some (by kernel_rfl))⟩
  f10 := ⟨Tryz.f299.name, by decide, Tryz.func299.trans (congrArg some (by kernel_rfl))⟩
  t0 := Tryz.underlying0
  a0 := Tryz.isAgg0
  z0 := Tryz.sizeOf0
  v0 := Tryz.zeroValue0
  t4 := Tryz.underlying4
  a4 := Tryz.isAgg4
  z4 := Tryz.sizeOf4
  v4 := Tryz.zeroValue4
  t23 := Tryz.underlying81
  a23 := Tryz.isAgg81
  z23 := Tryz.sizeOf81
  v23 := Tryz.zeroValue81
  t26 := Tryz.underlying9
  a26 := Tryz.isAgg9
  z26 := Tryz.sizeOf9
  v26 := Tryz.zeroValue9
  t27 := Tryz.underlying343
  a27 := Tryz.isAgg343
  z27 := Tryz.sizeOf343
  v27 := Tryz.zeroValue343
  t28 := Tryz.underlying344
  a28 := Tryz.isAgg344
  z28 := Tryz.sizeOf344
  v28 := Tryz.zeroValue344
  t33 := Tryz.underlying236
  a33 := Tryz.isAgg236
  z33 := Tryz.sizeOf236
  v33 := Tryz.zeroValue236 }
def Tryz.sorted278_ren : Go.Shelf.Ren := ⟨fun | 6 => 278 | 8 => 297 | 9 => 298 | 11 => 307 | 13 => 309 | 12 => 308 | 23 => 322 | 24 => 282 | 14 => 313 | 15 => 314 | 16 => 315 | 17 => 316 | 18 => 317 | 19 => 318 | 20 => 319 | 21 => 320 | 22 => 321 | 25 => 325 | 26 => 326 | 27 => 327 | 28 => 328 | 29 => 329 | 30 => 151 | 31 => 332 | n => n, fun | 26 => 9 | 28 => 344 | 24 => 132 | 0 => 0 | 3 => 3 | 37 => 200 | 48 => 198 | 50 => 27 | 4 => 4 | 40 => 372 | 39 => 371 | 45 => 98 | 5 => 5 | 9 => 9 | 51 => 379 | 55 => 383 | 57 => 387 | 58 => 388 | 33 => 236 | n => n, fun | n => n⟩
theorem Tryz.sorted278 : Go.Proofs.SlLaysZ.n6 Tryz.prog Tryz.sorted278_ren := {
  mixed := by kernel_rfl
  f6 := ⟨Tryz.f278.name, by decide, Tryz.func278.trans (congrArg some (by kernel_rfl))⟩
  f8 := ⟨Tryz.f297.name, by decide, Tryz.func297.trans (congrArg some (by kernel_rfl))⟩
  f11 := ⟨Tryz.f307.name, by decide, Tryz.func307.trans (congrArg some (by kernel_rfl))⟩
  t0 := Tryz.underlying0
  a0 := Tryz.isAgg0
  z0 := Tryz.sizeOf0
  v0 := Tryz.zeroValue0
  t24 := Tryz.underlying132
  a24 := Tryz.isAgg132
  z24 := Tryz.sizeOf132
  v24 := Tryz.zeroValue132
  t26 := Tryz.underlying9
  a26 := Tryz.isAgg9
  z26 := Tryz.sizeOf9
  v26 := Tryz.zeroValue9
  t28 := Tryz.underlying344
  a28 := Tryz.isAgg344
  z28 := Tryz.sizeOf344
  v28 := Tryz.zeroValue344
  i26 := by kernel_rfl }
def Tryz.sort298_ren : Go.Shelf.Ren := ⟨fun | 6 => 298 | 8 => 309 | 9 => 308 | 19 => 322 | 20 => 282 | 21 => 313 | 22 => 314 | 23 => 315 | 24 => 316 | 25 => 317 | 26 => 318 | 27 => 319 | 28 => 320 | 29 => 321 | 36 => 325 | 31 => 326 | 32 => 327 | 37 => 328 | 38 => 329 | 39 => 151 | 41 => 332 | n => n, fun | 27 => 132 | 29 => 9 | 3 => 3 | 32 => 200 | 26 => 132 | 0 => 0 | 44 => 198 | 46 => 27 | 4 => 4 | 36 => 372 | 35 => 371 | 41 => 98 | 5 => 5 | 9 => 9 | 53 => 379 | 57 => 383 | 63 => 387 | 64 => 388 | n => n, fun | n => n⟩
theorem Tryz.sort298 : Go.Proofs.SlLaysM.n6 Tryz.prog Tryz.sort298_ren := {
  mixed := by kernel_rfl
  f6 := ⟨Tryz.f298.name, by decide, Tryz.func298.trans (congrArg some (by kernel_rfl))⟩
  f8 := Tryz.func309.trans (congrArg some (by kernel_rfl))
  f9 := ⟨Tryz.f308.name, by decide, Tryz.func308.trans (congrArg some (by kernel_rfl))⟩
  f19 := Tryz.func322.trans (congrArg some (by kernel_rfl))
  f20 := Tryz.func282.trans (congrArg some (by kernel_rfl))
  f21 := ⟨Tryz.f313.name, by decide, Tryz.func313.trans (congrArg some (by kernel_rfl))⟩
  f22 := ⟨Tryz.f314.name, by decide, Tryz.func314.trans (congrArg some (by kernel_rfl))⟩
  f23 := ⟨Tryz.f315.name, by decide, Tryz.func315.trans (congrArg some (by kernel_rfl))⟩
  f24 := ⟨Tryz.f316.name, by decide, Tryz.func316.trans (congrArg some (by kernel_rfl))⟩
  f25 := ⟨Tryz.f317.name, by decide, Tryz.func317.trans (congrArg some (by kernel_rfl))⟩
  f26 := ⟨Tryz.f318.name, by decide, Tryz.func318.trans (congrArg some (by kernel_rfl))⟩
  f27 := ⟨Tryz.f319.name, by decide, Tryz.func319.trans (congrArg some (by kernel_rfl))⟩
  f28 := ⟨Tryz.f320.name, by decide, Tryz.func320.trans (congrArg some (by kernel_rfl))⟩
  f29 := ⟨Tryz.f321.name, by decide, Tryz.func321.trans (congrArg some (by kernel_rfl))⟩
  f31 := Tryz.func326.trans (congrArg some (by kernel_rfl))
  f32 := Tryz.func327.trans (congrArg some (by kernel_rfl))
  f36 := ⟨Tryz.f325.name, by decide, Tryz.func325.trans (congrArg some (by kernel_rfl))⟩
  f37 := ⟨Tryz.f328.name, by decide, Tryz.func328.trans (congrArg some (by kernel_rfl))⟩
  f38 := ⟨Tryz.f329.name, by decide, Tryz.func329.trans (congrArg some (by kernel_rfl))⟩
  f39 := ⟨Tryz.f151.name, by decide, Tryz.func151.trans (congrArg some (by kernel_rfl))⟩
  f41 := ⟨Tryz.f332.name, by decide, Tryz.func332.trans (congrArg some (by kernel_rfl))⟩
  t0 := Tryz.underlying0
  a0 := Tryz.isAgg0
  z0 := Tryz.sizeOf0
  v0 := Tryz.zeroValue0
  t3 := Tryz.underlying3
  a3 := Tryz.isAgg3
  z3 := Tryz.sizeOf3
  v3 := Tryz.zeroValue3
  t4 := Tryz.underlying4
  a4 := Tryz.isAgg4
  z4 := Tryz.sizeOf4
  v4 := Tryz.zeroValue4
  t5 := Tryz.underlying5
  a5 := Tryz.isAgg5
  z5 := Tryz.sizeOf5
  v5 := Tryz.zeroValue5
  t9 := Tryz.underlying9
  a9 := Tryz.isAgg9
  z9 := Tryz.sizeOf9
  v9 := Tryz.zeroValue9
  t26 := Tryz.underlying132
  a26 := Tryz.isAgg132
  z26 := Tryz.sizeOf132
  v26 := Tryz.zeroValue132
  t27 := Tryz.underlying132
  a27 := Tryz.isAgg132
  z27 := Tryz.sizeOf132
  v27 := Tryz.zeroValue132
  t29 := Tryz.underlying9
  a29 := Tryz.isAgg9
  z29 := Tryz.sizeOf9
  v29 := Tryz.zeroValue9
  t32 := Tryz.underlying200
  a32 := Tryz.isAgg200
  z32 := Tryz.sizeOf200
  v32 := Tryz.zeroValue200
  t35 := Tryz.underlying371
  a35 := Tryz.isAgg371
  z35 := Tryz.sizeOf371
  v35 := Tryz.zeroValue371
  t36 := Tryz.underlying372
  a36 := Tryz.isAgg372
  z36 := Tryz.sizeOf372
  v36 := Tryz.zeroValue372
  t41 := Tryz.underlying98
  a41 := Tryz.isAgg98
  z41 := Tryz.sizeOf98
  v41 := Tryz.zeroValue98
  t44 := Tryz.underlying198
  a44 := Tryz.isAgg198
  z44 := Tryz.sizeOf198
  v44 := Tryz.zeroValue198
  t46 := Tryz.underlying27
  a46 := Tryz.isAgg27
  z46 := Tryz.sizeOf27
  v46 := Tryz.zeroValue27
  t53 := Tryz.underlying379
  a53 := Tryz.isAgg379
  z53 := Tryz.sizeOf379
  v53 := Tryz.zeroValue379
  t57 := Tryz.underlying383
  a57 := Tryz.isAgg383
  z57 := Tryz.sizeOf383
  v57 := Tryz.zeroValue383
  t63 := Tryz.underlying387
  a63 := Tryz.isAgg387
  z63 := Tryz.sizeOf387
  v63 := Tryz.zeroValue387
  t64 := Tryz.underlying388
  a64 := Tryz.isAgg388
  z64 := Tryz.sizeOf388
  v64 := Tryz.zeroValue388 }
end Go.Proofs
/- slices.Sorted(maps.Keys(m)) at this program. -/
namespace Go.Proofs
open Go.Shelf
open Go.RowKit Go.Maps Go.Sort

/-- slices.Sort's two contracts at this dump, at the fence that asks nothing. -/
theorem Tryz.sorts278 (m : Nat) : AnyZ.SortsIn Tryz.prog Tryz.sorted278_ren Fence.wide m :=
  ⟨fun blk off cap ss W hH hblk hsz => callsIn_wide.2 (AnyM.slices_Sort_string Tryz.sort298 blk off cap ss W hH hblk hsz),
   fun p cap W => callsIn_wide.2 (AnyM.slices_Sort_string_none Tryz.sort298 p cap W)⟩

/-- **maps.Keys[map[string]*outrider/disk.node,string,*outrider/disk.node], at whatever map, the nil one too:** a function value over ONE NEW BLOCK, which holds the map. -/
theorem Tryz.maps_Keys_279 (mb : Option Nat) (W : World) : CallsIn Fence.wide 5 Tryz.prog 279 #[.map mb] W fun e w' => e = .returned (.func (.func 299) #[] #[.pointer (some ⟨W.heap.size, 0, none⟩)]) ∧ w' = W.alloc (.cells #[.map mb] 81) :=
  AnyZ.keys_in Tryz.keys279 Fence.wide 5 trivial rfl mb W

set_option maxHeartbeats 1000000 in
/-- **slices.Sorted[string] AT WHAT maps.Keys[map[string]*outrider/disk.node,string,*outrider/disk.node] HANDED BACK FOR A MAP THAT IS NOT nil** ('w': the world AHEAD of maps.Keys' call): A NEW SLICE THAT HOLDS THE MAP's KEYS, SORTED; nil just where it has none; nothing that lay before has turned. -/
theorem Tryz.slices_Sorted_keys_278_279 {H : Type} (b nn : Nat) (D0 : DataW H) (R : Value → Option (DataW H × List MemPlace)) (w : World) (hown : w.ownsMap Tryz.prog 9 R b nn D0) (hmax : Maps.size D0 ≤ maxLen) (hbytes : Maps.size D0 * 16 ≤ 140737488355328) :
    CallsIn Fence.wide 5 Tryz.prog 278 #[.func (.func 299) #[] #[.pointer (some ⟨w.heap.size, 0, none⟩)]] (w.alloc (.cells #[.map (some b)] 81)) fun e w' => ∃ (v : Value) (ss : List (List UInt8)), e = .returned v ∧ ss.Perm (strKeys D0) ∧
      w'.ownsRow (w.alloc (.cells #[.map (some b)] 81)).heap.size 9 1 v ss.length ((ss.mergeSort (fun x y => decide (x ≤ y))).map encStr) ∧ (v = .slice none 0 0 ↔ ss = []) ∧ Below (w.alloc (.cells #[.map (some b)] 81)).heap.size (w.alloc (.cells #[.map (some b)] 81)) w' := by
  have hbl := hown.lt
  have hseq : SeqGives Fence.wide 2 Tryz.prog 299 #[.pointer (some ⟨w.heap.size, 0, none⟩)] encStr (fun ss => ss.Perm (strKeys D0)) (Maps.size D0) (w.alloc (.cells #[.map (some b)] 81)) :=
    AnyZ.keys_gives (ρ := Tryz.keys279_ren) { Tryz.keys279 with } Fence.wide _ trivial rfl (by omega) w.heap.size b nn D0 _ (by simp) (by simp) (by
      obtain ⟨es, clock, hb, Ft, hs, hD⟩ := hown
      exact ⟨es, clock, (Below.heap_alloc _ _ b hbl).trans hb, Ft, hs, hD⟩)
  exact AnyZ.sorted_in Tryz.sorted278 Fence.wide 5 trivial trivial trivial trivial rfl (by omega) (Tryz.sorts278 _) (enters_of Tryz.func298 (by kernel_rfl) rfl) 299 #[.pointer (some ⟨w.heap.size, 0, none⟩)] trivial (enters_of Tryz.func299 (by kernel_rfl) rfl) _ _ hmax hbytes _ hseq

set_option maxHeartbeats 1000000 in
/-- **.. AND FOR THE nil MAP: nil.** -/
theorem Tryz.slices_Sorted_keys_nil_278_279 (w : World) :
    CallsIn Fence.wide 5 Tryz.prog 278 #[.func (.func 299) #[] #[.pointer (some ⟨w.heap.size, 0, none⟩)]] (w.alloc (.cells #[.map none] 81)) fun e w' => ∃ (v : Value) (ss : List (List UInt8)), e = .returned v ∧ ss = [] ∧
      w'.ownsRow (w.alloc (.cells #[.map none] 81)).heap.size 9 1 v ss.length ((ss.mergeSort (fun x y => decide (x ≤ y))).map encStr) ∧ (v = .slice none 0 0 ↔ ss = []) ∧ Below (w.alloc (.cells #[.map none] 81)).heap.size (w.alloc (.cells #[.map none] 81)) w' := by
  have hseq : SeqGives Fence.wide 2 Tryz.prog 299 #[.pointer (some ⟨w.heap.size, 0, none⟩)] encStr (fun ss : List (List UInt8) => ss = []) 0 (w.alloc (.cells #[.map none] 81)) :=
    AnyZ.keys_gives_nil (ρ := Tryz.keys279_ren) { Tryz.keys279 with } Fence.wide _ trivial rfl w.heap.size _ (by simp) (by simp)
  exact AnyZ.sorted_in Tryz.sorted278 Fence.wide 5 trivial trivial trivial trivial rfl (by omega) (Tryz.sorts278 _) (enters_of Tryz.func298 (by kernel_rfl) rfl) 299 #[.pointer (some ⟨w.heap.size, 0, none⟩)] trivial (enters_of Tryz.func299 (by kernel_rfl) rfl) _ 0 (Nat.zero_le _) (by omega) _ hseq

end Go.Proofs
