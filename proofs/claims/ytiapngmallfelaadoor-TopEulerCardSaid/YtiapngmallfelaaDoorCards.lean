/-
  DERIVED. GIVEN WITH THE SEED: THE CARDS: each row of YtiapngmallfelaaDoorRows.lean that lists a variable, with what it lists TIED to the program's text (the seventh form; the later family's looks); each row that meets fmt, with fmt's text TOLD by the authors' own Lean function (tested against real Go, not proved from fmt's source: count such statements apart). THE CARD IS WHAT COUNTS. Prove the row's statement (the work); the ties are given (YtiapngmallfelaaDoorTie.lean); close each card by the builder's one call (the guide's Derived/Test/ToyasCard.lean, 'card_holds'). Laid BY PROGRAM, IN A SANDBOX (cutbox-door.mjs). By AI agents, Wed Nov 11 2026. No macro, syntax, notation, axiom, sorry.
-/
import Derived.Test.YtiapngmallfelaaDoorRows
import GoSem.ClaimSeven
namespace Go.Proofs.YtiapngmallfelaaDoor
namespace Rows

/-- THE TIED CARD OF 'corsagetop.TopEuler'. -/
def topEulerCard : Claim7 := { stood := { row := topEulerRow, standIns := [], harness := (true, "aa7e2e883722aeac84332aabd16c5faae7dfc501e4c7294275a66da46304e499"), looks := false }, kinds := [], alts := [], laidByText := true, laidKinds := [.data, .data], laidTests := true, laidLooks := .later }
def TopEulerCardSaid : Prop := Claim7.holds Tryd.pinned (.plain (OpenSpec.ofChange topEulerSpec)) topEulerCard

/-- THE SECOND FORM's CARD OF 'corsagetop.TopEuler'. -/
def topEulerUptoCard : Claim7 := { stood := { row := topEulerUptoRow, standIns := [], harness := (true, "aa7e2e883722aeac84332aabd16c5faae7dfc501e4c7294275a66da46304e499"), looks := false }, kinds := [], alts := [], laidByText := true, laidKinds := [.data, .data], laidTests := true, laidLooks := .later }
def TopEulerUptoCardSaid : Prop := Claim7.holds Tryd.pinned (.plain (OpenSpec.upto topEulerSpec)) topEulerUptoCard
end Rows
end Go.Proofs.YtiapngmallfelaaDoor
