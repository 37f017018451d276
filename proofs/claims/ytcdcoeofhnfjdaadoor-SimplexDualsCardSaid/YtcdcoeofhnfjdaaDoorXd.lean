/- The plain laws of MatrixTurns and MatrixRing. -/
import Derived.Test.YtcdcoeofhnfjdaaDoorXc
namespace Go.Proofs.YtcdcoeofhnfjdaaDoor
open Go Vm
end Go.Proofs.YtcdcoeofhnfjdaaDoor
