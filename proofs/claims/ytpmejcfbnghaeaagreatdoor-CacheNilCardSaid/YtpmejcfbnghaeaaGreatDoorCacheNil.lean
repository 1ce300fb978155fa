/- outriderlaw17.CacheNil returns true, whatever the start: the tied card. Conditions: those that the given row lists; none besides. -/
import Derived.Test.YtpmejcfbnghaeaaGreatDoorT38
import Derived.Test.YtpmejcfbnghaeaaGreatDoorT42
namespace Go.Proofs.YtpmejcfbnghaeaaGreatDoor
theorem cacheNil_card : Rows.CacheNilCardSaid := card_of Go.Abs.cacheNil_calls
#print axioms cacheNil_card
end Go.Proofs.YtpmejcfbnghaeaaGreatDoor
