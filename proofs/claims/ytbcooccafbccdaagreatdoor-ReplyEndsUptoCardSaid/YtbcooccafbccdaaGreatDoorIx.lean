/- Index, Contains and Equal on lists of numbers. -/
import Derived.Test.YtbcooccafbccdaaGreatDoorPf
import Derived.Test.YtbcooccafbccdaaGreatDoorVmD
namespace Go.Proofs.YtbcooccafbccdaaGreatDoor
open Go Vm

theorem fuel100 : 1000 ≤ fuel := fuel_ge (by decide)

end Go.Proofs.YtbcooccafbccdaaGreatDoor
