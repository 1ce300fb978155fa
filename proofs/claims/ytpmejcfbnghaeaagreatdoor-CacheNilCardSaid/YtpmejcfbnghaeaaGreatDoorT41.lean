/- The interpreter's texts: part of the proof that CacheNil answers true; no condition. -/
import Derived.Test.YtpmejcfbnghaeaaGreatDoorT39
import Derived.Test.YtpmejcfbnghaeaaGreatDoorT40
namespace Go.Proofs.YtpmejcfbnghaeaaGreatDoor
open Go
theorem jf19 : (Tryz.f3.resultTypes.all (fun t => Tryz.prog.readableRec t && decide (t < Tryz.prog.types.size))) = true := by kernel_rfl

theorem jf20 : (Rows.cacheNilRow.ifacesOut == Tryz.f3.resultTypes.toList.any (Tryz.prog.ifacesRec ·)) = true := by kernel_rfl

theorem jf21 : (Rows.cacheNilRow.loopsOut == Tryz.f3.resultTypes.toList.any (Tryz.prog.loopsFrom ·)) = true := by kernel_rfl

theorem jf22 : (Rows.cacheNilRow.plainKeys == Tryz.prog.plainKeys) = true := by kernel_rfl

theorem jf23 : (Rows.cacheNilRow.shortTexts.isNone) = true := by kernel_rfl

end Go.Proofs.YtpmejcfbnghaeaaGreatDoor
namespace Go.Proofs.YtpmejcfbnghaeaaGreatDoor
open Go
theorem jf24 : (Tryz.prog.stopsHeard) = true := by kernel_rfl

theorem jf25 : (Tryz.prog.mayEnter) = true := by kernel_rfl

end Go.Proofs.YtpmejcfbnghaeaaGreatDoor
namespace Go.Proofs.YtpmejcfbnghaeaaGreatDoor
open Go
theorem jf26 : (Rows.cacheNilRow.lifted == Tryz.prog.liftsFinal) = true := by kernel_rfl

theorem jf27 : (Tryz.prog.make == some Rows.cacheNilRow.make) = true := by kernel_rfl

theorem jf28 : (Rows.cacheNilRow.kinds == (if Rows.cacheNilRow.domain.isEmpty then [] else Tryz.f3.params.toList.map fun t => match Tryz.prog.underlying t with | some (.int k) => some k | _ => none)) = true := by kernel_rfl

theorem jf29 : (Rows.cacheNilRow.pinned == Rows.cacheNilRow.pinnedBy) = true := by kernel_rfl

theorem jf30 : (Rows.cacheNilRow.veiled == (Tryz.f3.params.toList ++ Rows.cacheNilSpec.plain.varTypes Tryz.prog ++ Tryz.f3.resultTypes.toList).any (Tryz.prog.veiledRec ·)) = true := by kernel_rfl

theorem jf31 : (Rows.cacheNilRow.veiledFits Tryz.prog Tryz.f3.params.toList (Tryz.f3.params.toList ++ Rows.cacheNilSpec.plain.varTypes Tryz.prog ++ Tryz.f3.resultTypes.toList)) = true := by kernel_rfl

end Go.Proofs.YtpmejcfbnghaeaaGreatDoor
namespace Go.Proofs.YtpmejcfbnghaeaaGreatDoor
open Go
theorem goes3 : false = Rows.cacheNilRow.goesBy Tryz.prog := by
  unfold OpenClaim.goesBy Program.goesAt Program.goesFrom
  rw [show Tryz.prog.funcNamed Rows.cacheNilRow.func = some 3 by kernel_rfl]
  simp only [Option.any_some]
  unfold Program.goes
  rw [closure3]
  kernel_rfl

theorem wf3 : Rows.cacheNilRow.wfByText (OpenSpec.ofChange Rows.cacheNilSpec) = true := by kernel_rfl

end Go.Proofs.YtpmejcfbnghaeaaGreatDoor
/- What the row asks of the program, together. -/
namespace Go.Proofs.YtpmejcfbnghaeaaGreatDoor
open Go
theorem jfacts : joinedFacts Tryz.prog 3 Tryz.f3 Rows.cacheNilSpec Rows.cacheNilRow = true := by
  unfold joinedFacts
  simp only [Bool.and_eq_true]
  and_intros
  · exact jf0
  · exact jf1
  · exact jf2
  · exact jf3
  · exact jf4
  · exact jf5
  · exact jf6
  · exact jf7
  · exact jf8
  · exact jf9
  · exact jf10
  · exact jf11
  · exact jf12
  · exact jf13
  · exact jf14
  · exact jf15
  · exact jf16
  · exact jf17
  · exact jf18
  · exact jf19
  · exact jf20
  · exact jf21
  · exact jf22
  · exact jf23
  · exact jf24
  · exact jf25
  · exact jf26
  · exact jf27
  · kernel_rfl
  · exact jf29
  · exact jf30
  · exact jf31
end Go.Proofs.YtpmejcfbnghaeaaGreatDoor
