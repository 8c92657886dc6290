
/- Walks: Grid. -/
import Derived.Test.YtiapngmallfelaaSw
namespace Go.Proofs.Ytiapngmallfelaa
open Go.RowKit

def nearGrid (n i j : Nat) : Bool := (i / n == j / n) || (i % n == j % n)

def gridL (n : Nat) : List Nat := madeL (n * n) (nearGrid n)

end Go.Proofs.Ytiapngmallfelaa
