/- Index, Contains and Equal on lists of numbers. -/
import Derived.Test.YtbcooccafbccdaaGreatDoorPf
import Derived.Test.YtbcooccafbccdaaGreatDoorVmD
namespace Go.Proofs.YtbcooccafbccdaaGreatDoor
open Go Vm
end Go.Proofs.YtbcooccafbccdaaGreatDoor
