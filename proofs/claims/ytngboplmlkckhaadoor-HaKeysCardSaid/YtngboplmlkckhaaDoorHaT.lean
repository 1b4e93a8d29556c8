/- ha: what the row's list of variables gives: the table of the powers of ten. -/
import Derived.Test.YtngboplmlkckhaaDoorFmtU
import Derived.Test.YtngboplmlkckhaaDoorFrameC
namespace Go.Proofs.YtngboplmlkckhaaDoor
open Go.ChangeShapes Go.WideShapes Go.ChangeAt Go.RowKit

theorem tab10_of {W : World} (h : laidMetH Tryd.prog Rows.haKeysRow.laid W) : Tab10 W := by
  have h1 : laidMet Tryd.prog [("internal/strconv.uint64pow10", Rows.laid_internal_strconv_uint64pow10)] W := laidMet.tail (laidMet.tail h)
  exact Lib.tabIs_of_head (rest := []) (g := 0) (by kernel_rfl) (by kernel_rfl : _ = some 78) Tryd.underlying78 Tryd.underlying50 (by kernel_rfl) (by kernel_rfl) h1
end Go.Proofs.YtngboplmlkckhaaDoor
