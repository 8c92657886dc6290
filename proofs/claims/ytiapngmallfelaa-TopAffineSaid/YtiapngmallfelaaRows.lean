/-
  No cell of these rows narrows 'for every input' (looked for: loops, veiled, ifaces, maps, wideKeys, modest, calm, conditions, laid).
  DERIVED. THE GIVEN ROWS OF THIS SEAT. 4 by the template 'for every input the law returns true; each argument reads behind the call as it read before'; 0 by the template 'total and deterministic' (their statements: YtiapngmallfelaaTotals.lean).
  GIVEN WITH THE SEED: the statements are not yours to turn. If you find one false, say at which input.
  Laid BY PROGRAM, IN A SANDBOX (cutbox-rows.mjs): the forced cells as the released guide's own fill.sh prints them over the translation 006cf5cecdcdd0c6… (all of the seat's roots in one cut). By AI agents, Wed Nov 11 2026. No macro, syntax, notation, axiom, sorry.
-/
import Derived.Test.YtiapngmallfelaaChecked
import GoSem.Claim
import GoSem.ClaimJoined
import GoSem.ClaimMapViews
import Derived.JoinedTies
import Derived.KernelRfl
namespace Go.Proofs.Ytiapngmallfelaa
/- THE CELL 'sum', in the pinned program and in every row, IS THE sha256 OF THE DUMP (.gsa) THAT YtiapngmallfelaaProg.lean LOADS. Nothing in Lean hashes anything: it is a label: what it is worth is what the hold of that sum in a sandbox is worth. -/
noncomputable def Try.pinned : Pinned := { name := "ytiapngmallfelaa", sum := "006cf5cecdcdd0c6862f323c61b38d80931b8ed25dbacfeb242d7e29ac5c365d", checked := Try.checked }
namespace Rows
def none {H : Type} : Left H := { results := [], args := [] }

/-- 'corsagetop.TopRegular': WHATEVER THE INPUT: true; the input reads as it did. -/
def topRegularSpec : ChangeSpec := { name := "topRegular", fn := fun _ => fun
  | [d1, d2] => { results := [.lit (.bool true)], args := [d1, d2] }
  | _ => none }
def topRegularRow : OpenClaim := { program := "ytiapngmallfelaa", sum := "006cf5cecdcdd0c6862f323c61b38d80931b8ed25dbacfeb242d7e29ac5c365d", func := "corsage/corsagetop.TopRegular", spec := "topRegular", unfollowed := true, recurses := true, plainKeys := false, apart := false }
def TopRegularSaid : Prop := topRegularRow.holds Try.pinned (OpenSpec.ofChange topRegularSpec)

/-- ITS FALSE NEIGHBOUR: 'it returns false'. Refute it at one input. -/
def topRegularWrong : ChangeSpec := { name := "topRegular", fn := fun _ => fun
  | [d1, d2] => { results := [.lit (.bool false)], args := [d1, d2] }
  | _ => none }
def TopRegularWrongFalsely : Prop := topRegularRow.holds Try.pinned (OpenSpec.ofChange topRegularWrong)

/-- 'corsagetop.TopPaley': WHATEVER THE INPUT: true; the input reads as it did. -/
def topPaleySpec : ChangeSpec := { name := "topPaley", fn := fun _ => fun
  | [d] => { results := [.lit (.bool true)], args := [d] }
  | _ => none }
def topPaleyRow : OpenClaim := { program := "ytiapngmallfelaa", sum := "006cf5cecdcdd0c6862f323c61b38d80931b8ed25dbacfeb242d7e29ac5c365d", func := "corsage/corsagetop.TopPaley", spec := "topPaley", unfollowed := true, recurses := true, plainKeys := false, apart := false }
def TopPaleySaid : Prop := topPaleyRow.holds Try.pinned (OpenSpec.ofChange topPaleySpec)

/-- ITS FALSE NEIGHBOUR: 'it returns false'. Refute it at one input. -/
def topPaleyWrong : ChangeSpec := { name := "topPaley", fn := fun _ => fun
  | [d] => { results := [.lit (.bool false)], args := [d] }
  | _ => none }
def TopPaleyWrongFalsely : Prop := topPaleyRow.holds Try.pinned (OpenSpec.ofChange topPaleyWrong)

/-- 'corsagetop.TopFano': WHATEVER THE INPUT: true; the input reads as it did. -/
def topFanoSpec : ChangeSpec := { name := "topFano", fn := fun _ => fun
  | [d1, d2, d3] => { results := [.lit (.bool true)], args := [d1, d2, d3] }
  | _ => none }
def topFanoRow : OpenClaim := { program := "ytiapngmallfelaa", sum := "006cf5cecdcdd0c6862f323c61b38d80931b8ed25dbacfeb242d7e29ac5c365d", func := "corsage/corsagetop.TopFano", spec := "topFano", unfollowed := true, recurses := true, plainKeys := false, apart := false }
def TopFanoSaid : Prop := topFanoRow.holds Try.pinned (OpenSpec.ofChange topFanoSpec)

/-- ITS FALSE NEIGHBOUR: 'it returns false'. Refute it at one input. -/
def topFanoWrong : ChangeSpec := { name := "topFano", fn := fun _ => fun
  | [d1, d2, d3] => { results := [.lit (.bool false)], args := [d1, d2, d3] }
  | _ => none }
def TopFanoWrongFalsely : Prop := topFanoRow.holds Try.pinned (OpenSpec.ofChange topFanoWrong)

/-- 'corsagetop.TopAffine': WHATEVER THE INPUT: true; the input reads as it did. -/
def topAffineSpec : ChangeSpec := { name := "topAffine", fn := fun _ => fun
  | [d] => { results := [.lit (.bool true)], args := [d] }
  | _ => none }
def topAffineRow : OpenClaim := { program := "ytiapngmallfelaa", sum := "006cf5cecdcdd0c6862f323c61b38d80931b8ed25dbacfeb242d7e29ac5c365d", func := "corsage/corsagetop.TopAffine", spec := "topAffine", unfollowed := true, recurses := true, plainKeys := false, apart := false }
def TopAffineSaid : Prop := topAffineRow.holds Try.pinned (OpenSpec.ofChange topAffineSpec)

/-- ITS FALSE NEIGHBOUR: 'it returns false'. Refute it at one input. -/
def topAffineWrong : ChangeSpec := { name := "topAffine", fn := fun _ => fun
  | [d] => { results := [.lit (.bool false)], args := [d] }
  | _ => none }
def TopAffineWrongFalsely : Prop := topAffineRow.holds Try.pinned (OpenSpec.ofChange topAffineWrong)

/- THE SECOND FORM. 'bulk': how many values and letters a reading holds, each counted each time it is reached (what is shared counts as often as it is met; a slice's spare places count too). A statement '..UptoSaid' is the law's where the arguments, and the package variables that the reading takes, are together of bulk at most 1048576: NARROWER than '..Said'. Prove '..Said' where nothing that the law and all that it calls make is longer than what came in: it says more and counts as full. Else prove '..UptoSaid'. A law counts once. -/
mutual
def uptoBulk {H : Type} : DataW H → Nat
  | .lit (.string bytes) => bytes.length + 1
  | .lit _ => 1
  | .nil => 1
  | .ptr d => uptoBulk d + 1
  | .slice elems spare => uptoBulkAll elems + uptoBulkAll spare + 1
  | .agg parts => uptoBulkAll parts + 1
  | .iface _ d => uptoBulk d + 1
  | .map entries => uptoBulkEntries entries + 1
  | .held _ => 1
def uptoBulkAll {H : Type} : List (DataW H) → Nat
  | [] => 0
  | d :: r => uptoBulk d + uptoBulkAll r
def uptoBulkEntries {H : Type} : List (Lit × DataW H) → Nat
  | [] => 0
  | x :: r => uptoBulkEntry x + uptoBulkEntries r
def uptoBulkEntry {H : Type} : Lit × DataW H → Nat
  | (.string bytes, d) => bytes.length + uptoBulk d + 1
  | (_, d) => uptoBulk d + 1
 end
def uptoSmall : (H : Type) → List (DataW H) → Bool := fun _ ds => decide (uptoBulkAll ds ≤ 1048576)
def OpenSpec.upto (s : _root_.Go.ChangeSpec) : _root_.Go.OpenSpec := { _root_.Go.OpenSpec.ofChange s with cond := some uptoSmall }

/-- 'corsagetop.TopRegular', WHERE WHAT IT READS IS OF BULK AT MOST 1048576: true; the input reads as it did. -/
def topRegularUptoRow : OpenClaim := { program := "ytiapngmallfelaa", sum := "006cf5cecdcdd0c6862f323c61b38d80931b8ed25dbacfeb242d7e29ac5c365d", func := "corsage/corsagetop.TopRegular", spec := "topRegular", unfollowed := true, recurses := true, plainKeys := false, apart := false, narrowed := true }
def TopRegularUptoSaid : Prop := topRegularUptoRow.holds Try.pinned (OpenSpec.upto topRegularSpec)

/-- 'corsagetop.TopPaley', WHERE WHAT IT READS IS OF BULK AT MOST 1048576: true; the input reads as it did. -/
def topPaleyUptoRow : OpenClaim := { program := "ytiapngmallfelaa", sum := "006cf5cecdcdd0c6862f323c61b38d80931b8ed25dbacfeb242d7e29ac5c365d", func := "corsage/corsagetop.TopPaley", spec := "topPaley", unfollowed := true, recurses := true, plainKeys := false, apart := false, narrowed := true }
def TopPaleyUptoSaid : Prop := topPaleyUptoRow.holds Try.pinned (OpenSpec.upto topPaleySpec)

/-- 'corsagetop.TopFano', WHERE WHAT IT READS IS OF BULK AT MOST 1048576: true; the input reads as it did. -/
def topFanoUptoRow : OpenClaim := { program := "ytiapngmallfelaa", sum := "006cf5cecdcdd0c6862f323c61b38d80931b8ed25dbacfeb242d7e29ac5c365d", func := "corsage/corsagetop.TopFano", spec := "topFano", unfollowed := true, recurses := true, plainKeys := false, apart := false, narrowed := true }
def TopFanoUptoSaid : Prop := topFanoUptoRow.holds Try.pinned (OpenSpec.upto topFanoSpec)

/-- 'corsagetop.TopAffine', WHERE WHAT IT READS IS OF BULK AT MOST 1048576: true; the input reads as it did. -/
def topAffineUptoRow : OpenClaim := { program := "ytiapngmallfelaa", sum := "006cf5cecdcdd0c6862f323c61b38d80931b8ed25dbacfeb242d7e29ac5c365d", func := "corsage/corsagetop.TopAffine", spec := "topAffine", unfollowed := true, recurses := true, plainKeys := false, apart := false, narrowed := true }
def TopAffineUptoSaid : Prop := topAffineUptoRow.holds Try.pinned (OpenSpec.upto topAffineSpec)

end Rows
end Go.Proofs.Ytiapngmallfelaa
