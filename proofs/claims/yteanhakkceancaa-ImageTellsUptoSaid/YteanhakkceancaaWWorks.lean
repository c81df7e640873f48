/- The example of the package word, and the statement WordSigns, walked. -/
import Derived.Test.YteanhakkceancaaWMore
import Derived.Test.YteanhakkceancaaBase
namespace Go.Proofs.Yteanhakkceancaa.Word
open Go Go.Proofs.Yteanhakkceancaa Go.Proofs.Yteanhakkceancaa.Eng Go.Proofs
set_option maxRecDepth 10000

theorem one_i64 (w : World) (z : Int) : Row (w.alloc (.cells #[.int .i64 z] 3)) (some ⟨w.heap.size, 0, none⟩) (ivs [z]) := row_alloc w [.int .i64 z] _ _

end Go.Proofs.Yteanhakkceancaa.Word
