/-
  No cell of these rows narrows 'for every input' (looked for: loops, veiled, ifaces, maps, wideKeys, modest, calm, conditions, laid).
  DERIVED. THE GIVEN ROWS OF THIS SEAT. 12 by the template 'for every input the law returns true; each argument reads behind the call as it read before'; 0 by the template 'total and deterministic' (their statements: YtcmakddnjmeklaaTotals.lean).
  GIVEN WITH THE SEED: the statements are not yours to turn. If you find one false, say at which input.
  Laid BY PROGRAM, IN A SANDBOX (cutbox-rows.mjs): the forced cells as the released guide's own fill.sh prints them over the translation a30cbb01967c9cbd… (all of the seat's roots in one cut). By AI agents, Wed Nov 11 2026. No macro, syntax, notation, axiom, sorry.
-/
import Derived.Test.YtcmakddnjmeklaaChecked
import GoSem.Claim
import GoSem.ClaimJoined
import GoSem.ClaimMapViews
import Derived.JoinedTies
import Derived.KernelRfl
namespace Go.Proofs.Ytcmakddnjmeklaa
/- THE CELL 'sum', in the pinned program and in every row, IS THE sha256 OF THE DUMP (.gsa) THAT YtcmakddnjmeklaaProg.lean LOADS. Nothing in Lean hashes anything: it is a label: what it is worth is what the hold of that sum in a sandbox is worth. -/
noncomputable def Try.pinned : Pinned := { name := "ytcmakddnjmeklaa", sum := "a30cbb01967c9cbda31c83260159711b305714213b9fdf75aabf63eba238c3e5", checked := Try.checked }
namespace Rows
def none {H : Type} : Left H := { results := [], args := [] }

/-- 'corsagelaw09.StemsEquations': WHATEVER THE INPUT: true; the input reads as it did. -/
def stemsEquationsSpec : ChangeSpec := { name := "stemsEquations", fn := fun _ => fun
  | [d1, d2] => { results := [.lit (.bool true)], args := [d1, d2] }
  | _ => none }
def stemsEquationsRow : OpenClaim := { program := "ytcmakddnjmeklaa", sum := "a30cbb01967c9cbda31c83260159711b305714213b9fdf75aabf63eba238c3e5", func := "corsage/corsagelaw09.StemsEquations", spec := "stemsEquations", unfollowed := true, recurses := true, apart := false }
def StemsEquationsSaid : Prop := stemsEquationsRow.holds Try.pinned (OpenSpec.ofChange stemsEquationsSpec)

/-- ITS FALSE NEIGHBOUR: 'it returns false'. Refute it at one input. -/
def stemsEquationsWrong : ChangeSpec := { name := "stemsEquations", fn := fun _ => fun
  | [d1, d2] => { results := [.lit (.bool false)], args := [d1, d2] }
  | _ => none }
def StemsEquationsWrongFalsely : Prop := stemsEquationsRow.holds Try.pinned (OpenSpec.ofChange stemsEquationsWrong)

/-- 'corsagelaw09.StemsMore': WHATEVER THE INPUT: true; the input reads as it did. -/
def stemsMoreSpec : ChangeSpec := { name := "stemsMore", fn := fun _ => fun
  | [d1, d2, d3] => { results := [.lit (.bool true)], args := [d1, d2, d3] }
  | _ => none }
def stemsMoreRow : OpenClaim := { program := "ytcmakddnjmeklaa", sum := "a30cbb01967c9cbda31c83260159711b305714213b9fdf75aabf63eba238c3e5", func := "corsage/corsagelaw09.StemsMore", spec := "stemsMore", unfollowed := true, recurses := true, apart := false }
def StemsMoreSaid : Prop := stemsMoreRow.holds Try.pinned (OpenSpec.ofChange stemsMoreSpec)

/-- ITS FALSE NEIGHBOUR: 'it returns false'. Refute it at one input. -/
def stemsMoreWrong : ChangeSpec := { name := "stemsMore", fn := fun _ => fun
  | [d1, d2, d3] => { results := [.lit (.bool false)], args := [d1, d2, d3] }
  | _ => none }
def StemsMoreWrongFalsely : Prop := stemsMoreRow.holds Try.pinned (OpenSpec.ofChange stemsMoreWrong)

/-- 'corsagelaw09.StemsBest': WHATEVER THE INPUT: true; the input reads as it did. -/
def stemsBestSpec : ChangeSpec := { name := "stemsBest", fn := fun _ => fun
  | [d1, d2] => { results := [.lit (.bool true)], args := [d1, d2] }
  | _ => none }
def stemsBestRow : OpenClaim := { program := "ytcmakddnjmeklaa", sum := "a30cbb01967c9cbda31c83260159711b305714213b9fdf75aabf63eba238c3e5", func := "corsage/corsagelaw09.StemsBest", spec := "stemsBest", unfollowed := true, recurses := true, apart := false }
def StemsBestSaid : Prop := stemsBestRow.holds Try.pinned (OpenSpec.ofChange stemsBestSpec)

/-- ITS FALSE NEIGHBOUR: 'it returns false'. Refute it at one input. -/
def stemsBestWrong : ChangeSpec := { name := "stemsBest", fn := fun _ => fun
  | [d1, d2] => { results := [.lit (.bool false)], args := [d1, d2] }
  | _ => none }
def StemsBestWrongFalsely : Prop := stemsBestRow.holds Try.pinned (OpenSpec.ofChange stemsBestWrong)

/-- 'corsagelaw09.StemsBound': WHATEVER THE INPUT: true; the input reads as it did. -/
def stemsBoundSpec : ChangeSpec := { name := "stemsBound", fn := fun _ => fun
  | [d1, d2, d3] => { results := [.lit (.bool true)], args := [d1, d2, d3] }
  | _ => none }
def stemsBoundRow : OpenClaim := { program := "ytcmakddnjmeklaa", sum := "a30cbb01967c9cbda31c83260159711b305714213b9fdf75aabf63eba238c3e5", func := "corsage/corsagelaw09.StemsBound", spec := "stemsBound", unfollowed := true, recurses := true, apart := false }
def StemsBoundSaid : Prop := stemsBoundRow.holds Try.pinned (OpenSpec.ofChange stemsBoundSpec)

/-- ITS FALSE NEIGHBOUR: 'it returns false'. Refute it at one input. -/
def stemsBoundWrong : ChangeSpec := { name := "stemsBound", fn := fun _ => fun
  | [d1, d2, d3] => { results := [.lit (.bool false)], args := [d1, d2, d3] }
  | _ => none }
def StemsBoundWrongFalsely : Prop := stemsBoundRow.holds Try.pinned (OpenSpec.ofChange stemsBoundWrong)

/-- 'corsagelaw09.StemsPrices': WHATEVER THE INPUT: true; the input reads as it did. -/
def stemsPricesSpec : ChangeSpec := { name := "stemsPrices", fn := fun _ => fun
  | [d1, d2, d3, d4] => { results := [.lit (.bool true)], args := [d1, d2, d3, d4] }
  | _ => none }
def stemsPricesRow : OpenClaim := { program := "ytcmakddnjmeklaa", sum := "a30cbb01967c9cbda31c83260159711b305714213b9fdf75aabf63eba238c3e5", func := "corsage/corsagelaw09.StemsPrices", spec := "stemsPrices", unfollowed := true, recurses := true, apart := false }
def StemsPricesSaid : Prop := stemsPricesRow.holds Try.pinned (OpenSpec.ofChange stemsPricesSpec)

/-- ITS FALSE NEIGHBOUR: 'it returns false'. Refute it at one input. -/
def stemsPricesWrong : ChangeSpec := { name := "stemsPrices", fn := fun _ => fun
  | [d1, d2, d3, d4] => { results := [.lit (.bool false)], args := [d1, d2, d3, d4] }
  | _ => none }
def StemsPricesWrongFalsely : Prop := stemsPricesRow.holds Try.pinned (OpenSpec.ofChange stemsPricesWrong)

/-- 'corsagelaw09.StemsBetter': WHATEVER THE INPUT: true; the input reads as it did. -/
def stemsBetterSpec : ChangeSpec := { name := "stemsBetter", fn := fun _ => fun
  | [d1, d2] => { results := [.lit (.bool true)], args := [d1, d2] }
  | _ => none }
def stemsBetterRow : OpenClaim := { program := "ytcmakddnjmeklaa", sum := "a30cbb01967c9cbda31c83260159711b305714213b9fdf75aabf63eba238c3e5", func := "corsage/corsagelaw09.StemsBetter", spec := "stemsBetter", unfollowed := true, recurses := true, apart := false }
def StemsBetterSaid : Prop := stemsBetterRow.holds Try.pinned (OpenSpec.ofChange stemsBetterSpec)

/-- ITS FALSE NEIGHBOUR: 'it returns false'. Refute it at one input. -/
def stemsBetterWrong : ChangeSpec := { name := "stemsBetter", fn := fun _ => fun
  | [d1, d2] => { results := [.lit (.bool false)], args := [d1, d2] }
  | _ => none }
def StemsBetterWrongFalsely : Prop := stemsBetterRow.holds Try.pinned (OpenSpec.ofChange stemsBetterWrong)

/-- 'corsagelaw09.StemsWorth': WHATEVER THE INPUT: true; the input reads as it did. -/
def stemsWorthSpec : ChangeSpec := { name := "stemsWorth", fn := fun _ => fun
  | [d1, d2, d3] => { results := [.lit (.bool true)], args := [d1, d2, d3] }
  | _ => none }
def stemsWorthRow : OpenClaim := { program := "ytcmakddnjmeklaa", sum := "a30cbb01967c9cbda31c83260159711b305714213b9fdf75aabf63eba238c3e5", func := "corsage/corsagelaw09.StemsWorth", spec := "stemsWorth", unfollowed := true, recurses := true, apart := false }
def StemsWorthSaid : Prop := stemsWorthRow.holds Try.pinned (OpenSpec.ofChange stemsWorthSpec)

/-- ITS FALSE NEIGHBOUR: 'it returns false'. Refute it at one input. -/
def stemsWorthWrong : ChangeSpec := { name := "stemsWorth", fn := fun _ => fun
  | [d1, d2, d3] => { results := [.lit (.bool false)], args := [d1, d2, d3] }
  | _ => none }
def StemsWorthWrongFalsely : Prop := stemsWorthRow.holds Try.pinned (OpenSpec.ofChange stemsWorthWrong)

/-- 'corsagelaw09.StemsNear': WHATEVER THE INPUT: true; the input reads as it did. -/
def stemsNearSpec : ChangeSpec := { name := "stemsNear", fn := fun _ => fun
  | [d1, d2, d3] => { results := [.lit (.bool true)], args := [d1, d2, d3] }
  | _ => none }
def stemsNearRow : OpenClaim := { program := "ytcmakddnjmeklaa", sum := "a30cbb01967c9cbda31c83260159711b305714213b9fdf75aabf63eba238c3e5", func := "corsage/corsagelaw09.StemsNear", spec := "stemsNear", unfollowed := true, recurses := true, apart := false }
def StemsNearSaid : Prop := stemsNearRow.holds Try.pinned (OpenSpec.ofChange stemsNearSpec)

/-- ITS FALSE NEIGHBOUR: 'it returns false'. Refute it at one input. -/
def stemsNearWrong : ChangeSpec := { name := "stemsNear", fn := fun _ => fun
  | [d1, d2, d3] => { results := [.lit (.bool false)], args := [d1, d2, d3] }
  | _ => none }
def StemsNearWrongFalsely : Prop := stemsNearRow.holds Try.pinned (OpenSpec.ofChange stemsNearWrong)

/-- 'corsagelaw09.StemsRest': WHATEVER THE INPUT: true; the input reads as it did. -/
def stemsRestSpec : ChangeSpec := { name := "stemsRest", fn := fun _ => fun
  | [d1, d2, d3] => { results := [.lit (.bool true)], args := [d1, d2, d3] }
  | _ => none }
def stemsRestRow : OpenClaim := { program := "ytcmakddnjmeklaa", sum := "a30cbb01967c9cbda31c83260159711b305714213b9fdf75aabf63eba238c3e5", func := "corsage/corsagelaw09.StemsRest", spec := "stemsRest", unfollowed := true, recurses := true, apart := false }
def StemsRestSaid : Prop := stemsRestRow.holds Try.pinned (OpenSpec.ofChange stemsRestSpec)

/-- ITS FALSE NEIGHBOUR: 'it returns false'. Refute it at one input. -/
def stemsRestWrong : ChangeSpec := { name := "stemsRest", fn := fun _ => fun
  | [d1, d2, d3] => { results := [.lit (.bool false)], args := [d1, d2, d3] }
  | _ => none }
def StemsRestWrongFalsely : Prop := stemsRestRow.holds Try.pinned (OpenSpec.ofChange stemsRestWrong)

/-- 'corsagelaw09.StemsStill': WHATEVER THE INPUT: true; the input reads as it did. -/
def stemsStillSpec : ChangeSpec := { name := "stemsStill", fn := fun _ => fun
  | [d1, d2, d3] => { results := [.lit (.bool true)], args := [d1, d2, d3] }
  | _ => none }
def stemsStillRow : OpenClaim := { program := "ytcmakddnjmeklaa", sum := "a30cbb01967c9cbda31c83260159711b305714213b9fdf75aabf63eba238c3e5", func := "corsage/corsagelaw09.StemsStill", spec := "stemsStill", unfollowed := true, recurses := true, apart := false }
def StemsStillSaid : Prop := stemsStillRow.holds Try.pinned (OpenSpec.ofChange stemsStillSpec)

/-- ITS FALSE NEIGHBOUR: 'it returns false'. Refute it at one input. -/
def stemsStillWrong : ChangeSpec := { name := "stemsStill", fn := fun _ => fun
  | [d1, d2, d3] => { results := [.lit (.bool false)], args := [d1, d2, d3] }
  | _ => none }
def StemsStillWrongFalsely : Prop := stemsStillRow.holds Try.pinned (OpenSpec.ofChange stemsStillWrong)

/-- 'corsagelaw09.StemsShifted': WHATEVER THE INPUT: true; the input reads as it did. -/
def stemsShiftedSpec : ChangeSpec := { name := "stemsShifted", fn := fun _ => fun
  | [d1, d2, d3, d4] => { results := [.lit (.bool true)], args := [d1, d2, d3, d4] }
  | _ => none }
def stemsShiftedRow : OpenClaim := { program := "ytcmakddnjmeklaa", sum := "a30cbb01967c9cbda31c83260159711b305714213b9fdf75aabf63eba238c3e5", func := "corsage/corsagelaw09.StemsShifted", spec := "stemsShifted", unfollowed := true, recurses := true, apart := false }
def StemsShiftedSaid : Prop := stemsShiftedRow.holds Try.pinned (OpenSpec.ofChange stemsShiftedSpec)

/-- ITS FALSE NEIGHBOUR: 'it returns false'. Refute it at one input. -/
def stemsShiftedWrong : ChangeSpec := { name := "stemsShifted", fn := fun _ => fun
  | [d1, d2, d3, d4] => { results := [.lit (.bool false)], args := [d1, d2, d3, d4] }
  | _ => none }
def StemsShiftedWrongFalsely : Prop := stemsShiftedRow.holds Try.pinned (OpenSpec.ofChange stemsShiftedWrong)

/-- 'corsagelaw09.StemsScaled': WHATEVER THE INPUT: true; the input reads as it did. -/
def stemsScaledSpec : ChangeSpec := { name := "stemsScaled", fn := fun _ => fun
  | [d1, d2, d3, d4, d5, d6] => { results := [.lit (.bool true)], args := [d1, d2, d3, d4, d5, d6] }
  | _ => none }
def stemsScaledRow : OpenClaim := { program := "ytcmakddnjmeklaa", sum := "a30cbb01967c9cbda31c83260159711b305714213b9fdf75aabf63eba238c3e5", func := "corsage/corsagelaw09.StemsScaled", spec := "stemsScaled", unfollowed := true, recurses := true, apart := false }
def StemsScaledSaid : Prop := stemsScaledRow.holds Try.pinned (OpenSpec.ofChange stemsScaledSpec)

/-- ITS FALSE NEIGHBOUR: 'it returns false'. Refute it at one input. -/
def stemsScaledWrong : ChangeSpec := { name := "stemsScaled", fn := fun _ => fun
  | [d1, d2, d3, d4, d5, d6] => { results := [.lit (.bool false)], args := [d1, d2, d3, d4, d5, d6] }
  | _ => none }
def StemsScaledWrongFalsely : Prop := stemsScaledRow.holds Try.pinned (OpenSpec.ofChange stemsScaledWrong)

/- THE SECOND FORM. 'bulk': how many values and letters a reading holds, each counted each time it is reached (what is shared counts as often as it is met; a slice's spare places count too). A statement '..UptoSaid' is the law's where the arguments, and the package variables that the reading takes, are together of bulk at most 1048576: NARROWER than '..Said'. Prove '..Said' where nothing that the law and all that it calls make is longer than what came in: it says more and counts as full. Else prove '..UptoSaid'. A law counts once. -/
mutual
def uptoBulk {H : Type} : DataW H → Nat
  | .lit (.string bytes) => bytes.length + 1
  | .lit _ => 1
  | .nil => 1
  | .ptr d => uptoBulk d + 1
  | .slice elems spare => uptoBulkAll elems + uptoBulkAll spare + 1
  | .agg parts => uptoBulkAll parts + 1
  | .iface _ d => uptoBulk d + 1
  | .map entries => uptoBulkEntries entries + 1
  | .held _ => 1
def uptoBulkAll {H : Type} : List (DataW H) → Nat
  | [] => 0
  | d :: r => uptoBulk d + uptoBulkAll r
def uptoBulkEntries {H : Type} : List (Lit × DataW H) → Nat
  | [] => 0
  | x :: r => uptoBulkEntry x + uptoBulkEntries r
def uptoBulkEntry {H : Type} : Lit × DataW H → Nat
  | (.string bytes, d) => bytes.length + uptoBulk d + 1
  | (_, d) => uptoBulk d + 1
 end
def uptoSmall : (H : Type) → List (DataW H) → Bool := fun _ ds => decide (uptoBulkAll ds ≤ 1048576)
def OpenSpec.upto (s : _root_.Go.ChangeSpec) : _root_.Go.OpenSpec := { _root_.Go.OpenSpec.ofChange s with cond := some uptoSmall }

/-- 'corsagelaw09.StemsEquations', WHERE WHAT IT READS IS OF BULK AT MOST 1048576: true; the input reads as it did. -/
def stemsEquationsUptoRow : OpenClaim := { program := "ytcmakddnjmeklaa", sum := "a30cbb01967c9cbda31c83260159711b305714213b9fdf75aabf63eba238c3e5", func := "corsage/corsagelaw09.StemsEquations", spec := "stemsEquations", unfollowed := true, recurses := true, apart := false, narrowed := true }
def StemsEquationsUptoSaid : Prop := stemsEquationsUptoRow.holds Try.pinned (OpenSpec.upto stemsEquationsSpec)

/-- 'corsagelaw09.StemsMore', WHERE WHAT IT READS IS OF BULK AT MOST 1048576: true; the input reads as it did. -/
def stemsMoreUptoRow : OpenClaim := { program := "ytcmakddnjmeklaa", sum := "a30cbb01967c9cbda31c83260159711b305714213b9fdf75aabf63eba238c3e5", func := "corsage/corsagelaw09.StemsMore", spec := "stemsMore", unfollowed := true, recurses := true, apart := false, narrowed := true }
def StemsMoreUptoSaid : Prop := stemsMoreUptoRow.holds Try.pinned (OpenSpec.upto stemsMoreSpec)

/-- 'corsagelaw09.StemsBest', WHERE WHAT IT READS IS OF BULK AT MOST 1048576: true; the input reads as it did. -/
def stemsBestUptoRow : OpenClaim := { program := "ytcmakddnjmeklaa", sum := "a30cbb01967c9cbda31c83260159711b305714213b9fdf75aabf63eba238c3e5", func := "corsage/corsagelaw09.StemsBest", spec := "stemsBest", unfollowed := true, recurses := true, apart := false, narrowed := true }
def StemsBestUptoSaid : Prop := stemsBestUptoRow.holds Try.pinned (OpenSpec.upto stemsBestSpec)

/-- 'corsagelaw09.StemsBound', WHERE WHAT IT READS IS OF BULK AT MOST 1048576: true; the input reads as it did. -/
def stemsBoundUptoRow : OpenClaim := { program := "ytcmakddnjmeklaa", sum := "a30cbb01967c9cbda31c83260159711b305714213b9fdf75aabf63eba238c3e5", func := "corsage/corsagelaw09.StemsBound", spec := "stemsBound", unfollowed := true, recurses := true, apart := false, narrowed := true }
def StemsBoundUptoSaid : Prop := stemsBoundUptoRow.holds Try.pinned (OpenSpec.upto stemsBoundSpec)

/-- 'corsagelaw09.StemsPrices', WHERE WHAT IT READS IS OF BULK AT MOST 1048576: true; the input reads as it did. -/
def stemsPricesUptoRow : OpenClaim := { program := "ytcmakddnjmeklaa", sum := "a30cbb01967c9cbda31c83260159711b305714213b9fdf75aabf63eba238c3e5", func := "corsage/corsagelaw09.StemsPrices", spec := "stemsPrices", unfollowed := true, recurses := true, apart := false, narrowed := true }
def StemsPricesUptoSaid : Prop := stemsPricesUptoRow.holds Try.pinned (OpenSpec.upto stemsPricesSpec)

/-- 'corsagelaw09.StemsBetter', WHERE WHAT IT READS IS OF BULK AT MOST 1048576: true; the input reads as it did. -/
def stemsBetterUptoRow : OpenClaim := { program := "ytcmakddnjmeklaa", sum := "a30cbb01967c9cbda31c83260159711b305714213b9fdf75aabf63eba238c3e5", func := "corsage/corsagelaw09.StemsBetter", spec := "stemsBetter", unfollowed := true, recurses := true, apart := false, narrowed := true }
def StemsBetterUptoSaid : Prop := stemsBetterUptoRow.holds Try.pinned (OpenSpec.upto stemsBetterSpec)

/-- 'corsagelaw09.StemsWorth', WHERE WHAT IT READS IS OF BULK AT MOST 1048576: true; the input reads as it did. -/
def stemsWorthUptoRow : OpenClaim := { program := "ytcmakddnjmeklaa", sum := "a30cbb01967c9cbda31c83260159711b305714213b9fdf75aabf63eba238c3e5", func := "corsage/corsagelaw09.StemsWorth", spec := "stemsWorth", unfollowed := true, recurses := true, apart := false, narrowed := true }
def StemsWorthUptoSaid : Prop := stemsWorthUptoRow.holds Try.pinned (OpenSpec.upto stemsWorthSpec)

/-- 'corsagelaw09.StemsNear', WHERE WHAT IT READS IS OF BULK AT MOST 1048576: true; the input reads as it did. -/
def stemsNearUptoRow : OpenClaim := { program := "ytcmakddnjmeklaa", sum := "a30cbb01967c9cbda31c83260159711b305714213b9fdf75aabf63eba238c3e5", func := "corsage/corsagelaw09.StemsNear", spec := "stemsNear", unfollowed := true, recurses := true, apart := false, narrowed := true }
def StemsNearUptoSaid : Prop := stemsNearUptoRow.holds Try.pinned (OpenSpec.upto stemsNearSpec)

/-- 'corsagelaw09.StemsRest', WHERE WHAT IT READS IS OF BULK AT MOST 1048576: true; the input reads as it did. -/
def stemsRestUptoRow : OpenClaim := { program := "ytcmakddnjmeklaa", sum := "a30cbb01967c9cbda31c83260159711b305714213b9fdf75aabf63eba238c3e5", func := "corsage/corsagelaw09.StemsRest", spec := "stemsRest", unfollowed := true, recurses := true, apart := false, narrowed := true }
def StemsRestUptoSaid : Prop := stemsRestUptoRow.holds Try.pinned (OpenSpec.upto stemsRestSpec)

/-- 'corsagelaw09.StemsStill', WHERE WHAT IT READS IS OF BULK AT MOST 1048576: true; the input reads as it did. -/
def stemsStillUptoRow : OpenClaim := { program := "ytcmakddnjmeklaa", sum := "a30cbb01967c9cbda31c83260159711b305714213b9fdf75aabf63eba238c3e5", func := "corsage/corsagelaw09.StemsStill", spec := "stemsStill", unfollowed := true, recurses := true, apart := false, narrowed := true }
def StemsStillUptoSaid : Prop := stemsStillUptoRow.holds Try.pinned (OpenSpec.upto stemsStillSpec)

/-- 'corsagelaw09.StemsShifted', WHERE WHAT IT READS IS OF BULK AT MOST 1048576: true; the input reads as it did. -/
def stemsShiftedUptoRow : OpenClaim := { program := "ytcmakddnjmeklaa", sum := "a30cbb01967c9cbda31c83260159711b305714213b9fdf75aabf63eba238c3e5", func := "corsage/corsagelaw09.StemsShifted", spec := "stemsShifted", unfollowed := true, recurses := true, apart := false, narrowed := true }
def StemsShiftedUptoSaid : Prop := stemsShiftedUptoRow.holds Try.pinned (OpenSpec.upto stemsShiftedSpec)

/-- 'corsagelaw09.StemsScaled', WHERE WHAT IT READS IS OF BULK AT MOST 1048576: true; the input reads as it did. -/
def stemsScaledUptoRow : OpenClaim := { program := "ytcmakddnjmeklaa", sum := "a30cbb01967c9cbda31c83260159711b305714213b9fdf75aabf63eba238c3e5", func := "corsage/corsagelaw09.StemsScaled", spec := "stemsScaled", unfollowed := true, recurses := true, apart := false, narrowed := true }
def StemsScaledUptoSaid : Prop := stemsScaledUptoRow.holds Try.pinned (OpenSpec.upto stemsScaledSpec)

end Rows
end Go.Proofs.Ytcmakddnjmeklaa
