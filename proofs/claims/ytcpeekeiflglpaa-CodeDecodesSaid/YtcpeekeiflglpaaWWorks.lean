/- The example of the package word, and the statement WordSigns, walked. -/
import Derived.Test.YtcpeekeiflglpaaWMore
import Derived.Test.YtcpeekeiflglpaaBase
namespace Go.Proofs.Ytcpeekeiflglpaa.Word
open Go Go.Proofs.Ytcpeekeiflglpaa Go.Proofs.Ytcpeekeiflglpaa.Eng Go.Proofs
set_option maxRecDepth 10000

theorem one_i64 (w : World) (z : Int) : Row (w.alloc (.cells #[.int .i64 z] 3)) (some ⟨w.heap.size, 0, none⟩) (ivs [z]) := row_alloc w [.int .i64 z] _ _

end Go.Proofs.Ytcpeekeiflglpaa.Word
