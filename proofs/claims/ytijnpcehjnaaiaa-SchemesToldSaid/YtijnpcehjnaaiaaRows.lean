/-
  No cell of these rows narrows 'for every input' (looked for: loops, veiled, ifaces, maps, wideKeys, modest, calm, conditions, laid).
  DERIVED. THE GIVEN ROWS OF THIS SEAT. 12 by the template 'for every input the law returns true; each argument reads behind the call as it read before'; 0 by the template 'total and deterministic' (their statements: YtijnpcehjnaaiaaTotals.lean).
  GIVEN WITH THE SEED: the statements are not yours to turn. If you find one false, say at which input.
  Laid BY PROGRAM, IN A SANDBOX (cutbox-rows.mjs): the forced cells as the released guide's own fill.sh prints them over the translation 1890f922e4948ed7… (all of the seat's roots in one cut). By AI agents, Wed Nov 11 2026. No macro, syntax, notation, axiom, sorry.
-/
import Derived.Test.YtijnpcehjnaaiaaChecked
import GoSem.Claim
import GoSem.ClaimJoined
import GoSem.ClaimMapViews
import Derived.JoinedTies
import Derived.KernelRfl
namespace Go.Proofs.Ytijnpcehjnaaiaa
/- THE CELL 'sum', in the pinned program and in every row, IS THE sha256 OF THE DUMP (.gsa) THAT YtijnpcehjnaaiaaProg.lean LOADS. Nothing in Lean hashes anything: it is a label: what it is worth is what the hold of that sum in a sandbox is worth. -/
noncomputable def Try.pinned : Pinned := { name := "ytijnpcehjnaaiaa", sum := "1890f922e4948ed76d8608852bc6ed0db511431b32eced8a3135d656e12db71d", checked := Try.checked }
namespace Rows
def none {H : Type} : Left H := { results := [], args := [] }

/-- 'corsagelaw06.SchemesReads': WHATEVER THE INPUT: true; the input reads as it did. -/
def schemesReadsSpec : ChangeSpec := { name := "schemesReads", fn := fun _ => fun
  | [d] => { results := [.lit (.bool true)], args := [d] }
  | _ => none }
def schemesReadsRow : OpenClaim := { program := "ytijnpcehjnaaiaa", sum := "1890f922e4948ed76d8608852bc6ed0db511431b32eced8a3135d656e12db71d", func := "corsage/corsagelaw06.SchemesReads", spec := "schemesReads", apart := false }
def SchemesReadsSaid : Prop := schemesReadsRow.holds Try.pinned (OpenSpec.ofChange schemesReadsSpec)

/-- ITS FALSE NEIGHBOUR: 'it returns false'. Refute it at one input. -/
def schemesReadsWrong : ChangeSpec := { name := "schemesReads", fn := fun _ => fun
  | [d] => { results := [.lit (.bool false)], args := [d] }
  | _ => none }
def SchemesReadsWrongFalsely : Prop := schemesReadsRow.holds Try.pinned (OpenSpec.ofChange schemesReadsWrong)

/-- 'corsagelaw06.SchemesFamilies': WHATEVER THE INPUT: true; the input reads as it did. -/
def schemesFamiliesSpec : ChangeSpec := { name := "schemesFamilies", fn := fun _ => fun
  | [d] => { results := [.lit (.bool true)], args := [d] }
  | _ => none }
def schemesFamiliesRow : OpenClaim := { program := "ytijnpcehjnaaiaa", sum := "1890f922e4948ed76d8608852bc6ed0db511431b32eced8a3135d656e12db71d", func := "corsage/corsagelaw06.SchemesFamilies", spec := "schemesFamilies", unfollowed := true, recurses := true, apart := false }
def SchemesFamiliesSaid : Prop := schemesFamiliesRow.holds Try.pinned (OpenSpec.ofChange schemesFamiliesSpec)

/-- ITS FALSE NEIGHBOUR: 'it returns false'. Refute it at one input. -/
def schemesFamiliesWrong : ChangeSpec := { name := "schemesFamilies", fn := fun _ => fun
  | [d] => { results := [.lit (.bool false)], args := [d] }
  | _ => none }
def SchemesFamiliesWrongFalsely : Prop := schemesFamiliesRow.holds Try.pinned (OpenSpec.ofChange schemesFamiliesWrong)

/-- 'corsagelaw06.SchemesSame': WHATEVER THE INPUT: true; the input reads as it did. -/
def schemesSameSpec : ChangeSpec := { name := "schemesSame", fn := fun _ => fun
  | [d1, d2] => { results := [.lit (.bool true)], args := [d1, d2] }
  | _ => none }
def schemesSameRow : OpenClaim := { program := "ytijnpcehjnaaiaa", sum := "1890f922e4948ed76d8608852bc6ed0db511431b32eced8a3135d656e12db71d", func := "corsage/corsagelaw06.SchemesSame", spec := "schemesSame", unfollowed := true, recurses := true, apart := false }
def SchemesSameSaid : Prop := schemesSameRow.holds Try.pinned (OpenSpec.ofChange schemesSameSpec)

/-- ITS FALSE NEIGHBOUR: 'it returns false'. Refute it at one input. -/
def schemesSameWrong : ChangeSpec := { name := "schemesSame", fn := fun _ => fun
  | [d1, d2] => { results := [.lit (.bool false)], args := [d1, d2] }
  | _ => none }
def SchemesSameWrongFalsely : Prop := schemesSameRow.holds Try.pinned (OpenSpec.ofChange schemesSameWrong)

/-- 'corsagelaw06.SchemesAlone': WHATEVER THE INPUT: true; the input reads as it did. -/
def schemesAloneSpec : ChangeSpec := { name := "schemesAlone", fn := fun _ => fun
  | [d1, d2] => { results := [.lit (.bool true)], args := [d1, d2] }
  | _ => none }
def schemesAloneRow : OpenClaim := { program := "ytijnpcehjnaaiaa", sum := "1890f922e4948ed76d8608852bc6ed0db511431b32eced8a3135d656e12db71d", func := "corsage/corsagelaw06.SchemesAlone", spec := "schemesAlone", unfollowed := true, recurses := true, apart := false }
def SchemesAloneSaid : Prop := schemesAloneRow.holds Try.pinned (OpenSpec.ofChange schemesAloneSpec)

/-- ITS FALSE NEIGHBOUR: 'it returns false'. Refute it at one input. -/
def schemesAloneWrong : ChangeSpec := { name := "schemesAlone", fn := fun _ => fun
  | [d1, d2] => { results := [.lit (.bool false)], args := [d1, d2] }
  | _ => none }
def SchemesAloneWrongFalsely : Prop := schemesAloneRow.holds Try.pinned (OpenSpec.ofChange schemesAloneWrong)

/-- 'corsagelaw06.SchemesMakes': WHATEVER THE INPUT: true; the input reads as it did. -/
def schemesMakesSpec : ChangeSpec := { name := "schemesMakes", fn := fun _ => fun
  | [d] => { results := [.lit (.bool true)], args := [d] }
  | _ => none }
def schemesMakesRow : OpenClaim := { program := "ytijnpcehjnaaiaa", sum := "1890f922e4948ed76d8608852bc6ed0db511431b32eced8a3135d656e12db71d", func := "corsage/corsagelaw06.SchemesMakes", spec := "schemesMakes", unfollowed := true, recurses := true, apart := false }
def SchemesMakesSaid : Prop := schemesMakesRow.holds Try.pinned (OpenSpec.ofChange schemesMakesSpec)

/-- ITS FALSE NEIGHBOUR: 'it returns false'. Refute it at one input. -/
def schemesMakesWrong : ChangeSpec := { name := "schemesMakes", fn := fun _ => fun
  | [d] => { results := [.lit (.bool false)], args := [d] }
  | _ => none }
def SchemesMakesWrongFalsely : Prop := schemesMakesRow.holds Try.pinned (OpenSpec.ofChange schemesMakesWrong)

/-- 'corsagelaw06.SchemesDescend': WHATEVER THE INPUT: true; the input reads as it did. -/
def schemesDescendSpec : ChangeSpec := { name := "schemesDescend", fn := fun _ => fun
  | [d1, d2] => { results := [.lit (.bool true)], args := [d1, d2] }
  | _ => none }
def schemesDescendRow : OpenClaim := { program := "ytijnpcehjnaaiaa", sum := "1890f922e4948ed76d8608852bc6ed0db511431b32eced8a3135d656e12db71d", func := "corsage/corsagelaw06.SchemesDescend", spec := "schemesDescend", unfollowed := true, recurses := true, apart := false }
def SchemesDescendSaid : Prop := schemesDescendRow.holds Try.pinned (OpenSpec.ofChange schemesDescendSpec)

/-- ITS FALSE NEIGHBOUR: 'it returns false'. Refute it at one input. -/
def schemesDescendWrong : ChangeSpec := { name := "schemesDescend", fn := fun _ => fun
  | [d1, d2] => { results := [.lit (.bool false)], args := [d1, d2] }
  | _ => none }
def SchemesDescendWrongFalsely : Prop := schemesDescendRow.holds Try.pinned (OpenSpec.ofChange schemesDescendWrong)

/-- 'corsagelaw06.SchemesSwitches': WHATEVER THE INPUT: true; the input reads as it did. -/
def schemesSwitchesSpec : ChangeSpec := { name := "schemesSwitches", fn := fun _ => fun
  | [d1, d2] => { results := [.lit (.bool true)], args := [d1, d2] }
  | _ => none }
def schemesSwitchesRow : OpenClaim := { program := "ytijnpcehjnaaiaa", sum := "1890f922e4948ed76d8608852bc6ed0db511431b32eced8a3135d656e12db71d", func := "corsage/corsagelaw06.SchemesSwitches", spec := "schemesSwitches", unfollowed := true, recurses := true, apart := false }
def SchemesSwitchesSaid : Prop := schemesSwitchesRow.holds Try.pinned (OpenSpec.ofChange schemesSwitchesSpec)

/-- ITS FALSE NEIGHBOUR: 'it returns false'. Refute it at one input. -/
def schemesSwitchesWrong : ChangeSpec := { name := "schemesSwitches", fn := fun _ => fun
  | [d1, d2] => { results := [.lit (.bool false)], args := [d1, d2] }
  | _ => none }
def SchemesSwitchesWrongFalsely : Prop := schemesSwitchesRow.holds Try.pinned (OpenSpec.ofChange schemesSwitchesWrong)

/-- 'corsagelaw06.SchemesTwice': WHATEVER THE INPUT: true; the input reads as it did. -/
def schemesTwiceSpec : ChangeSpec := { name := "schemesTwice", fn := fun _ => fun
  | [d1, d2, d3] => { results := [.lit (.bool true)], args := [d1, d2, d3] }
  | _ => none }
def schemesTwiceRow : OpenClaim := { program := "ytijnpcehjnaaiaa", sum := "1890f922e4948ed76d8608852bc6ed0db511431b32eced8a3135d656e12db71d", func := "corsage/corsagelaw06.SchemesTwice", spec := "schemesTwice", unfollowed := true, recurses := true, apart := false }
def SchemesTwiceSaid : Prop := schemesTwiceRow.holds Try.pinned (OpenSpec.ofChange schemesTwiceSpec)

/-- ITS FALSE NEIGHBOUR: 'it returns false'. Refute it at one input. -/
def schemesTwiceWrong : ChangeSpec := { name := "schemesTwice", fn := fun _ => fun
  | [d1, d2, d3] => { results := [.lit (.bool false)], args := [d1, d2, d3] }
  | _ => none }
def SchemesTwiceWrongFalsely : Prop := schemesTwiceRow.holds Try.pinned (OpenSpec.ofChange schemesTwiceWrong)

/-- 'corsagelaw06.SchemesSolves': WHATEVER THE INPUT: true; the input reads as it did. -/
def schemesSolvesSpec : ChangeSpec := { name := "schemesSolves", fn := fun _ => fun
  | [d] => { results := [.lit (.bool true)], args := [d] }
  | _ => none }
def schemesSolvesRow : OpenClaim := { program := "ytijnpcehjnaaiaa", sum := "1890f922e4948ed76d8608852bc6ed0db511431b32eced8a3135d656e12db71d", func := "corsage/corsagelaw06.SchemesSolves", spec := "schemesSolves", unfollowed := true, recurses := true, apart := false }
def SchemesSolvesSaid : Prop := schemesSolvesRow.holds Try.pinned (OpenSpec.ofChange schemesSolvesSpec)

/-- ITS FALSE NEIGHBOUR: 'it returns false'. Refute it at one input. -/
def schemesSolvesWrong : ChangeSpec := { name := "schemesSolves", fn := fun _ => fun
  | [d] => { results := [.lit (.bool false)], args := [d] }
  | _ => none }
def SchemesSolvesWrongFalsely : Prop := schemesSolvesRow.holds Try.pinned (OpenSpec.ofChange schemesSolvesWrong)

/-- 'corsagelaw06.SchemesSpectra': WHATEVER THE INPUT: true; the input reads as it did. -/
def schemesSpectraSpec : ChangeSpec := { name := "schemesSpectra", fn := fun _ => fun
  | [d] => { results := [.lit (.bool true)], args := [d] }
  | _ => none }
def schemesSpectraRow : OpenClaim := { program := "ytijnpcehjnaaiaa", sum := "1890f922e4948ed76d8608852bc6ed0db511431b32eced8a3135d656e12db71d", func := "corsage/corsagelaw06.SchemesSpectra", spec := "schemesSpectra", unfollowed := true, recurses := true, apart := false }
def SchemesSpectraSaid : Prop := schemesSpectraRow.holds Try.pinned (OpenSpec.ofChange schemesSpectraSpec)

/-- ITS FALSE NEIGHBOUR: 'it returns false'. Refute it at one input. -/
def schemesSpectraWrong : ChangeSpec := { name := "schemesSpectra", fn := fun _ => fun
  | [d] => { results := [.lit (.bool false)], args := [d] }
  | _ => none }
def SchemesSpectraWrongFalsely : Prop := schemesSpectraRow.holds Try.pinned (OpenSpec.ofChange schemesSpectraWrong)

/-- 'corsagelaw06.SchemesLists': WHATEVER THE INPUT: true; the input reads as it did. -/
def schemesListsSpec : ChangeSpec := { name := "schemesLists", fn := fun _ => fun
  | [d] => { results := [.lit (.bool true)], args := [d] }
  | _ => none }
def schemesListsRow : OpenClaim := { program := "ytijnpcehjnaaiaa", sum := "1890f922e4948ed76d8608852bc6ed0db511431b32eced8a3135d656e12db71d", func := "corsage/corsagelaw06.SchemesLists", spec := "schemesLists", unfollowed := true, recurses := true, apart := false }
def SchemesListsSaid : Prop := schemesListsRow.holds Try.pinned (OpenSpec.ofChange schemesListsSpec)

/-- ITS FALSE NEIGHBOUR: 'it returns false'. Refute it at one input. -/
def schemesListsWrong : ChangeSpec := { name := "schemesLists", fn := fun _ => fun
  | [d] => { results := [.lit (.bool false)], args := [d] }
  | _ => none }
def SchemesListsWrongFalsely : Prop := schemesListsRow.holds Try.pinned (OpenSpec.ofChange schemesListsWrong)

/-- 'corsagelaw06.SchemesTold': WHATEVER THE INPUT: true; the input reads as it did. -/
def schemesToldSpec : ChangeSpec := { name := "schemesTold", fn := fun _ => fun
  | [d] => { results := [.lit (.bool true)], args := [d] }
  | _ => none }
def schemesToldRow : OpenClaim := { program := "ytijnpcehjnaaiaa", sum := "1890f922e4948ed76d8608852bc6ed0db511431b32eced8a3135d656e12db71d", func := "corsage/corsagelaw06.SchemesTold", spec := "schemesTold", unfollowed := true, recurses := true, apart := false }
def SchemesToldSaid : Prop := schemesToldRow.holds Try.pinned (OpenSpec.ofChange schemesToldSpec)

/-- ITS FALSE NEIGHBOUR: 'it returns false'. Refute it at one input. -/
def schemesToldWrong : ChangeSpec := { name := "schemesTold", fn := fun _ => fun
  | [d] => { results := [.lit (.bool false)], args := [d] }
  | _ => none }
def SchemesToldWrongFalsely : Prop := schemesToldRow.holds Try.pinned (OpenSpec.ofChange schemesToldWrong)

/- THE SECOND FORM. 'bulk': how many values and letters a reading holds, each counted each time it is reached (what is shared counts as often as it is met; a slice's spare places count too). A statement '..UptoSaid' is the law's where the arguments, and the package variables that the reading takes, are together of bulk at most 1048576: NARROWER than '..Said'. Prove '..Said' where nothing that the law and all that it calls make is longer than what came in: it says more and counts as full. Else prove '..UptoSaid'. A law counts once. -/
mutual
def uptoBulk {H : Type} : DataW H → Nat
  | .lit (.string bytes) => bytes.length + 1
  | .lit _ => 1
  | .nil => 1
  | .ptr d => uptoBulk d + 1
  | .slice elems spare => uptoBulkAll elems + uptoBulkAll spare + 1
  | .agg parts => uptoBulkAll parts + 1
  | .iface _ d => uptoBulk d + 1
  | .map entries => uptoBulkEntries entries + 1
  | .held _ => 1
def uptoBulkAll {H : Type} : List (DataW H) → Nat
  | [] => 0
  | d :: r => uptoBulk d + uptoBulkAll r
def uptoBulkEntries {H : Type} : List (Lit × DataW H) → Nat
  | [] => 0
  | x :: r => uptoBulkEntry x + uptoBulkEntries r
def uptoBulkEntry {H : Type} : Lit × DataW H → Nat
  | (.string bytes, d) => bytes.length + uptoBulk d + 1
  | (_, d) => uptoBulk d + 1
 end
def uptoSmall : (H : Type) → List (DataW H) → Bool := fun _ ds => decide (uptoBulkAll ds ≤ 1048576)
def OpenSpec.upto (s : _root_.Go.ChangeSpec) : _root_.Go.OpenSpec := { _root_.Go.OpenSpec.ofChange s with cond := some uptoSmall }

/-- 'corsagelaw06.SchemesReads', WHERE WHAT IT READS IS OF BULK AT MOST 1048576: true; the input reads as it did. -/
def schemesReadsUptoRow : OpenClaim := { program := "ytijnpcehjnaaiaa", sum := "1890f922e4948ed76d8608852bc6ed0db511431b32eced8a3135d656e12db71d", func := "corsage/corsagelaw06.SchemesReads", spec := "schemesReads", apart := false, narrowed := true }
def SchemesReadsUptoSaid : Prop := schemesReadsUptoRow.holds Try.pinned (OpenSpec.upto schemesReadsSpec)

/-- 'corsagelaw06.SchemesFamilies', WHERE WHAT IT READS IS OF BULK AT MOST 1048576: true; the input reads as it did. -/
def schemesFamiliesUptoRow : OpenClaim := { program := "ytijnpcehjnaaiaa", sum := "1890f922e4948ed76d8608852bc6ed0db511431b32eced8a3135d656e12db71d", func := "corsage/corsagelaw06.SchemesFamilies", spec := "schemesFamilies", unfollowed := true, recurses := true, apart := false, narrowed := true }
def SchemesFamiliesUptoSaid : Prop := schemesFamiliesUptoRow.holds Try.pinned (OpenSpec.upto schemesFamiliesSpec)

/-- 'corsagelaw06.SchemesSame', WHERE WHAT IT READS IS OF BULK AT MOST 1048576: true; the input reads as it did. -/
def schemesSameUptoRow : OpenClaim := { program := "ytijnpcehjnaaiaa", sum := "1890f922e4948ed76d8608852bc6ed0db511431b32eced8a3135d656e12db71d", func := "corsage/corsagelaw06.SchemesSame", spec := "schemesSame", unfollowed := true, recurses := true, apart := false, narrowed := true }
def SchemesSameUptoSaid : Prop := schemesSameUptoRow.holds Try.pinned (OpenSpec.upto schemesSameSpec)

/-- 'corsagelaw06.SchemesAlone', WHERE WHAT IT READS IS OF BULK AT MOST 1048576: true; the input reads as it did. -/
def schemesAloneUptoRow : OpenClaim := { program := "ytijnpcehjnaaiaa", sum := "1890f922e4948ed76d8608852bc6ed0db511431b32eced8a3135d656e12db71d", func := "corsage/corsagelaw06.SchemesAlone", spec := "schemesAlone", unfollowed := true, recurses := true, apart := false, narrowed := true }
def SchemesAloneUptoSaid : Prop := schemesAloneUptoRow.holds Try.pinned (OpenSpec.upto schemesAloneSpec)

/-- 'corsagelaw06.SchemesMakes', WHERE WHAT IT READS IS OF BULK AT MOST 1048576: true; the input reads as it did. -/
def schemesMakesUptoRow : OpenClaim := { program := "ytijnpcehjnaaiaa", sum := "1890f922e4948ed76d8608852bc6ed0db511431b32eced8a3135d656e12db71d", func := "corsage/corsagelaw06.SchemesMakes", spec := "schemesMakes", unfollowed := true, recurses := true, apart := false, narrowed := true }
def SchemesMakesUptoSaid : Prop := schemesMakesUptoRow.holds Try.pinned (OpenSpec.upto schemesMakesSpec)

/-- 'corsagelaw06.SchemesDescend', WHERE WHAT IT READS IS OF BULK AT MOST 1048576: true; the input reads as it did. -/
def schemesDescendUptoRow : OpenClaim := { program := "ytijnpcehjnaaiaa", sum := "1890f922e4948ed76d8608852bc6ed0db511431b32eced8a3135d656e12db71d", func := "corsage/corsagelaw06.SchemesDescend", spec := "schemesDescend", unfollowed := true, recurses := true, apart := false, narrowed := true }
def SchemesDescendUptoSaid : Prop := schemesDescendUptoRow.holds Try.pinned (OpenSpec.upto schemesDescendSpec)

/-- 'corsagelaw06.SchemesSwitches', WHERE WHAT IT READS IS OF BULK AT MOST 1048576: true; the input reads as it did. -/
def schemesSwitchesUptoRow : OpenClaim := { program := "ytijnpcehjnaaiaa", sum := "1890f922e4948ed76d8608852bc6ed0db511431b32eced8a3135d656e12db71d", func := "corsage/corsagelaw06.SchemesSwitches", spec := "schemesSwitches", unfollowed := true, recurses := true, apart := false, narrowed := true }
def SchemesSwitchesUptoSaid : Prop := schemesSwitchesUptoRow.holds Try.pinned (OpenSpec.upto schemesSwitchesSpec)

/-- 'corsagelaw06.SchemesTwice', WHERE WHAT IT READS IS OF BULK AT MOST 1048576: true; the input reads as it did. -/
def schemesTwiceUptoRow : OpenClaim := { program := "ytijnpcehjnaaiaa", sum := "1890f922e4948ed76d8608852bc6ed0db511431b32eced8a3135d656e12db71d", func := "corsage/corsagelaw06.SchemesTwice", spec := "schemesTwice", unfollowed := true, recurses := true, apart := false, narrowed := true }
def SchemesTwiceUptoSaid : Prop := schemesTwiceUptoRow.holds Try.pinned (OpenSpec.upto schemesTwiceSpec)

/-- 'corsagelaw06.SchemesSolves', WHERE WHAT IT READS IS OF BULK AT MOST 1048576: true; the input reads as it did. -/
def schemesSolvesUptoRow : OpenClaim := { program := "ytijnpcehjnaaiaa", sum := "1890f922e4948ed76d8608852bc6ed0db511431b32eced8a3135d656e12db71d", func := "corsage/corsagelaw06.SchemesSolves", spec := "schemesSolves", unfollowed := true, recurses := true, apart := false, narrowed := true }
def SchemesSolvesUptoSaid : Prop := schemesSolvesUptoRow.holds Try.pinned (OpenSpec.upto schemesSolvesSpec)

/-- 'corsagelaw06.SchemesSpectra', WHERE WHAT IT READS IS OF BULK AT MOST 1048576: true; the input reads as it did. -/
def schemesSpectraUptoRow : OpenClaim := { program := "ytijnpcehjnaaiaa", sum := "1890f922e4948ed76d8608852bc6ed0db511431b32eced8a3135d656e12db71d", func := "corsage/corsagelaw06.SchemesSpectra", spec := "schemesSpectra", unfollowed := true, recurses := true, apart := false, narrowed := true }
def SchemesSpectraUptoSaid : Prop := schemesSpectraUptoRow.holds Try.pinned (OpenSpec.upto schemesSpectraSpec)

/-- 'corsagelaw06.SchemesLists', WHERE WHAT IT READS IS OF BULK AT MOST 1048576: true; the input reads as it did. -/
def schemesListsUptoRow : OpenClaim := { program := "ytijnpcehjnaaiaa", sum := "1890f922e4948ed76d8608852bc6ed0db511431b32eced8a3135d656e12db71d", func := "corsage/corsagelaw06.SchemesLists", spec := "schemesLists", unfollowed := true, recurses := true, apart := false, narrowed := true }
def SchemesListsUptoSaid : Prop := schemesListsUptoRow.holds Try.pinned (OpenSpec.upto schemesListsSpec)

/-- 'corsagelaw06.SchemesTold', WHERE WHAT IT READS IS OF BULK AT MOST 1048576: true; the input reads as it did. -/
def schemesToldUptoRow : OpenClaim := { program := "ytijnpcehjnaaiaa", sum := "1890f922e4948ed76d8608852bc6ed0db511431b32eced8a3135d656e12db71d", func := "corsage/corsagelaw06.SchemesTold", spec := "schemesTold", unfollowed := true, recurses := true, apart := false, narrowed := true }
def SchemesToldUptoSaid : Prop := schemesToldUptoRow.holds Try.pinned (OpenSpec.upto schemesToldSpec)

end Rows
end Go.Proofs.Ytijnpcehjnaaiaa
