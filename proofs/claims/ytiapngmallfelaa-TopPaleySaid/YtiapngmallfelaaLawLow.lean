
/- Walks: the law's own functions odd and size. -/
import Derived.Test.YtiapngmallfelaaOdd
namespace Go.Proofs.Ytiapngmallfelaa
open Go.RowKit

end Go.Proofs.Ytiapngmallfelaa
