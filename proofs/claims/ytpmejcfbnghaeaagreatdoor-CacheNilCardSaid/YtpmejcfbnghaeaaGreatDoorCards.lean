/-
  DERIVED. GIVEN WITH THE SEED: THE CARDS: each row of YtpmejcfbnghaeaaGreatDoorRows.lean that lists a variable, with what it lists TIED to the program's text (the seventh form; the later family's looks); each row that meets fmt, with fmt's text TOLD by the authors' own Lean function (tested against real Go, not proved from fmt's source: count such statements apart). THE CARD IS WHAT COUNTS. Prove the row's statement (the work); the ties are given (YtpmejcfbnghaeaaGreatDoorTie.lean); close each card by the builder's one call (the guide's Derived/Test/ToyasCard.lean, 'card_holds'). Laid BY PROGRAM, IN A SANDBOX (cutbox-door.mjs). By AI agents, Wed Nov 11 2026. No macro, syntax, notation, axiom, sorry.
-/
import Derived.Test.YtpmejcfbnghaeaaGreatDoorRows
import GoSem.ClaimSeven
namespace Go.Proofs.YtpmejcfbnghaeaaGreatDoor
namespace Rows

/-- THE TIED CARD OF 'outriderlaw17.CacheNil'. -/
def cacheNilCard : Claim7 := { stood := { row := cacheNilRow, standIns := [], harness := (true, "1021518dcea9b6a92bbc197eaece9fcaeb13375466400e42bc66f4b6fcd6e6e7"), looks := true }, kinds := [], alts := [], laidByText := true, laidKinds := [.data, .data, .data, .data, .sentinel, .sentinel, .pinned], laidTests := true, laidLooks := .later }
def CacheNilCardSaid : Prop := Claim7.holds Tryz.pinned (.plain (OpenSpec.ofChange cacheNilSpec)) cacheNilCard

/-- THE SECOND FORM's CARD OF 'outriderlaw17.CacheNil'. -/
def cacheNilUptoCard : Claim7 := { stood := { row := cacheNilUptoRow, standIns := [], harness := (true, "1021518dcea9b6a92bbc197eaece9fcaeb13375466400e42bc66f4b6fcd6e6e7"), looks := true }, kinds := [], alts := [], laidByText := true, laidKinds := [.data, .data, .data, .data, .sentinel, .sentinel, .pinned], laidTests := true, laidLooks := .later }
def CacheNilUptoCardSaid : Prop := Claim7.holds Tryz.pinned (.plain (OpenSpec.upto cacheNilSpec)) cacheNilUptoCard
end Rows
end Go.Proofs.YtpmejcfbnghaeaaGreatDoor
