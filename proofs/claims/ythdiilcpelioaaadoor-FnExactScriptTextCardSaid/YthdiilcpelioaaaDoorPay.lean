/- What the table's condition gives: internal/strconv.uint64pow10 holds Go's powers of ten in this world and in every later one. -/
import Derived.Test.YthdiilcpelioaaaDoorLedLaw
import Derived.Test.YthdiilcpelioaaaDoorTie
import Derived.Test.YthdiilcpelioaaaDoorCards
import Derived.ProofKit
import Derived.Lay
import Derived.SevenTiedAt
import Derived.Lib.SmallJoins
import Derived.Lib.LaidTab
namespace Go.Proofs.YthdiilcpelioaaaDoor
open Go.ChangeShapes Go.WideShapes Go.ChangeAt Go.RowKit
theorem own : ownKnob Tryd.prog.godebug = none := by kernel_rfl
theorem gPow : Tryd.prog.globalNamed "internal/strconv.uint64pow10" = some 0 := by kernel_rfl
theorem tPow : (Tryd.prog.globals[0]?).map (·.type) = some 77 := by kernel_rfl
theorem cPow : Tryd.prog.cellsOf 77 = 20 := by kernel_rfl
theorem cU64 : Tryd.prog.cellsOf 70 = 1 := by kernel_rfl
theorem powData : (Rows.laid_internal_strconv_uint64pow10 : DataW Unit) = Lib.tabData .u64 Lib.pow10Tab := by rfl
def laidAll : List (String × DataW Unit) := [("math/bits.deBruijn32tab", Rows.laid_math_bits_deBruijn32tab), ("math/bits.deBruijn64tab", Rows.laid_math_bits_deBruijn64tab), ("internal/strconv.uint64pow10", Rows.laid_internal_strconv_uint64pow10)]
theorem pow_of_laid {W : World} (h : laidMetH Tryd.prog laidAll W) : Pow W := by
  have h1 := h.filter fun x => x.1 == "internal/strconv.uint64pow10"
  have e : (laidAll.filter fun x => x.1 == "internal/strconv.uint64pow10") = [("internal/strconv.uint64pow10", Rows.laid_internal_strconv_uint64pow10)] := by rfl
  rw [e, MakeChecks.laidMetH_plain _ _ _ (by kernel_rfl), powData] at h1
  exact Lib.tabBelow_of_tabIs (Lib.tabIs_of_head gPow tPow Tryd.underlying77 Tryd.underlying70 cU64 cPow h1)
theorem isInt_of {n : Int} (h : (Lit.int .i64 n).wf = true) : isInt n := by
  simpa [Lit.wf, IntKind.min, IntKind.max, IntKind.signed, IntKind.bits, isInt] using h
end Go.Proofs.YthdiilcpelioaaaDoor
