import Derived.Test.YtebbaokcgnjfiaaEGQ
namespace Go.Proofs.Ytebbaokcgnjfiaa.F
open Go Go.RowKit Go.Proofs.Ytebbaokcgnjfiaa.K Go.Proofs.Ytebbaokcgnjfiaa.K.E
set_option maxRecDepth 100000
theorem live_eq : law28_live = some true := law28_live_le _ (by kernel_rfl)
end Go.Proofs.Ytebbaokcgnjfiaa.F
