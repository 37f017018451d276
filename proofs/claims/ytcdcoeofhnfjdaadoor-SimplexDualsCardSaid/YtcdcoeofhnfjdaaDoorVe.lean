/- The pivot y0q of Unique as Det has them. -/
import Derived.Test.YtcdcoeofhnfjdaaDoorVd
namespace Go.Proofs.YtcdcoeofhnfjdaaDoor
open Go Vm
end Go.Proofs.YtcdcoeofhnfjdaaDoor
