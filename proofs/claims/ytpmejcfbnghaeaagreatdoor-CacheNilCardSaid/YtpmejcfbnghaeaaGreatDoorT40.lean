/- The interpreter's texts: part of the proof that CacheNil answers true; no condition. -/
import Derived.Test.YtpmejcfbnghaeaaGreatDoorT39
namespace Go.Proofs.YtpmejcfbnghaeaaGreatDoor
open Go
theorem jf0 : (Rows.cacheNilRow.wf (OpenSpec.ofChange Rows.cacheNilSpec)) = true := by kernel_rfl

theorem jf1 : (laidOutB Tryz.prog) = true := by kernel_rfl

theorem jf2 : (mapsRowed Tryz.prog) = true := by kernel_rfl

theorem jf3 : (Tryz.f3.params.all (Tryz.prog.readableRec ·)) = true := by kernel_rfl

theorem jf4 : (namedTie Tryz.prog Rows.cacheNilRow.named Rows.cacheNilSpec.vars) = true := by kernel_rfl

end Go.Proofs.YtpmejcfbnghaeaaGreatDoor
namespace Go.Proofs.YtpmejcfbnghaeaaGreatDoor
open Go
theorem jf9 : (Rows.cacheNilRow.inPlace == Tryz.prog.inPlace 3) = true := by
  unfold Program.inPlace; rw [closure3]; kernel_rfl

end Go.Proofs.YtpmejcfbnghaeaaGreatDoor
namespace Go.Proofs.YtpmejcfbnghaeaaGreatDoor
open Go
theorem jf10 : (Rows.cacheNilRow.unfollowed == Tryz.prog.unfollowed 3) = true := by
  unfold Program.unfollowed; rw [closure3]; kernel_rfl

theorem unf3 : Tryz.prog.unfollowed 3 = true := by
  unfold Program.unfollowed; rw [closure3]; kernel_rfl

theorem jf11 : (Rows.cacheNilRow.recurses == Tryz.prog.recurses 3) = true := by
  unfold Program.recurses; rw [unf3]; kernel_rfl

end Go.Proofs.YtpmejcfbnghaeaaGreatDoor
namespace Go.Proofs.YtpmejcfbnghaeaaGreatDoor
open Go
theorem jf12 : (Rows.cacheNilRow.named == Tryz.prog.varsNamed 3) = true := by
  unfold Program.varsNamed; rw [closure3]; kernel_rfl

end Go.Proofs.YtpmejcfbnghaeaaGreatDoor
namespace Go.Proofs.YtpmejcfbnghaeaaGreatDoor
open Go
theorem jf5 : (Rows.cacheNilRow.stops == []) = true := by kernel_rfl

theorem jf6 : (Tryz.prog.stops == []) = true := by kernel_rfl

theorem jf7 : (Rows.cacheNilRow.knobs == []) = true := by kernel_rfl

theorem jf8 : (Tryz.prog.stopKnobs == []) = true := by kernel_rfl

theorem jf13 : (Rows.cacheNilRow.maps == (Tryz.f3.params.toList ++ Rows.cacheNilSpec.plain.varTypes Tryz.prog).any (Tryz.prog.mapsRec ·)) = true := by kernel_rfl

theorem jf14 : (Rows.cacheNilRow.ifaces == (Tryz.f3.params.toList ++ Rows.cacheNilSpec.plain.varTypes Tryz.prog).any (Tryz.prog.ifacesRec ·)) = true := by kernel_rfl

theorem jf15 : (Rows.cacheNilRow.mapsOut == Tryz.prog.mapsAmong Tryz.f3.resultTypes.toList) = true := by kernel_rfl

theorem jf16 : (Rows.cacheNilRow.loops == (Tryz.f3.params.toList ++ Rows.cacheNilSpec.plain.varTypes Tryz.prog).any (Tryz.prog.loopsFrom ·)) = true := by kernel_rfl

theorem jf17 : (Rows.cacheNilRow.wideKeys == (Tryz.f3.params.toList ++ Rows.cacheNilSpec.plain.varTypes Tryz.prog ++ Tryz.f3.resultTypes.toList).any (Tryz.prog.wideKeysFrom ·)) = true := by kernel_rfl

theorem jf18 : (Rows.cacheNilSpec.vars.all (Tryz.prog.varReadable ·)) = true := by kernel_rfl

end Go.Proofs.YtpmejcfbnghaeaaGreatDoor
