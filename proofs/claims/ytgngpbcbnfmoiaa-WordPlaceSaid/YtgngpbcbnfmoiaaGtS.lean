/- string '>' as one word for the walks. -/
import Derived.RowKit
import Derived.Laws.Cover1
namespace Go.Proofs.Ytgngpbcbnfmoiaa.GtS
open Go
def gtS (a b : ByteArray) : Bool := !(Op.bytesLess a.toList b.toList || a.toList == b.toList)
theorem binOp_gtS (t : TypeId) (a b : ByteArray) : Go.binOp .gtr t (.string a) (.string b) = pure (.bool (gtS a b)) := by rw [Go.binOp_string_gtr]; rfl
end Go.Proofs.Ytgngpbcbnfmoiaa.GtS
