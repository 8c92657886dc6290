
/- Walks: Alone, of the program and of the reference. -/
import Derived.Test.YtiapngmallfelaaSame
namespace Go.Proofs.Ytiapngmallfelaa
open Go.RowKit

/-- x without its bit v, the higher ones moved down. -/
def dropBit (x v : Nat) : Nat := (x &&& (2 ^ v - 1)) ||| (x / 2 ^ (v + 1) * 2 ^ v)
def aloneTo (G : List Nat) (v k : Nat) : List Nat := ((List.range k).filter (fun i => i != v)).map fun i => dropBit (gn (swL G (gn G v)) i) v
def aloneL (G : List Nat) (v : Nat) : List Nat := aloneTo G v G.length
theorem alone_hit {G : List Nat} {v k : Nat} (h : k ≠ v) : aloneTo G v (k + 1) = aloneTo G v k ++ [dropBit (gn (swL G (gn G v)) k) v] := by simp [aloneTo, List.range_succ, h]
theorem alone_miss {G : List Nat} {v k : Nat} (h : k = v) : aloneTo G v (k + 1) = aloneTo G v k := by simp [aloneTo, List.range_succ, h]
theorem alone_len (G : List Nat) (v k : Nat) : (aloneTo G v k).length ≤ k := by
  unfold aloneTo; rw [List.length_map]; exact Nat.le_trans (List.length_filter_le _ _) (by simp)

/-- What the walk computes of one row. -/
theorem drop_facts {x v : Nat} (hx : x < 65536) (hv : v < 16) : ∃ M A C B : Nat, dropBit x v = A ||| B ∧ M < 65536 ∧ A < 65536 ∧ C < 65536 ∧ B < 65536 ∧
    (2 : Int) ^ v - 1 = (M : Int) ∧ IntKind.i64.wrap (2 ^ v) = 2 ^ v ∧ IntKind.i64.wrap (M : Int) = M ∧ bits .and .i64 (x : Int) (M : Int) = (A : Int) ∧ IntKind.i64.wrap ((v : Int) + 1) = (v : Int) + 1 ∧ ((v : Int) + 1).toNat = v + 1 ∧
    (x : Int) / 2 ^ (v + 1) = (C : Int) ∧ (C : Int) * 2 ^ v = (B : Int) ∧ IntKind.i64.wrap (B : Int) = B ∧ bits .or .i64 (A : Int) (B : Int) = ((A ||| B : Nat) : Int) := by
  have hp := pow16 hv
  have h1 := Nat.one_le_two_pow (n := v)
  have hC : x / 2 ^ (v + 1) * 2 ^ v ≤ x := by
    have : x / 2 ^ (v + 1) * 2 ^ (v + 1) ≤ x := Nat.div_mul_le_self _ _
    have h2 : x / 2 ^ (v + 1) * 2 ^ v ≤ x / 2 ^ (v + 1) * 2 ^ (v + 1) := Nat.mul_le_mul_left _ (Nat.pow_le_pow_right (by omega) (by omega))
    omega
  have hA : x &&& (2 ^ v - 1) ≤ x := Nat.and_le_left
  have hC2 : x / 2 ^ (v + 1) ≤ x := Nat.div_le_self _ _
  refine ⟨2 ^ v - 1, x &&& (2 ^ v - 1), x / 2 ^ (v + 1), x / 2 ^ (v + 1) * 2 ^ v, rfl, by omega, by omega, by omega, by omega, ?_, ?_, wrap_i64n _ (by omega), i64_and_nat _ _ (by omega) (by omega), ?_, by omega, ?_, ?_, wrap_i64n _ (by omega), i64_or_nat _ _ (by omega) (by omega)⟩
  · rw [Int.natCast_sub h1]; simp
  · rw [IntWalk.i64_left]; exact wrap_pow (by omega)
  · rw [IntWalk.i64_left]; exact IntWalk.wrap64_in _ (by omega)
  · rw [Int.natCast_ediv]; simp
  · rw [Int.natCast_mul]; simp

end Go.Proofs.Ytiapngmallfelaa
