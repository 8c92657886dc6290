/- Walk: the loops that lay the matrix of a graph of six nodes: plain part. -/
import Derived.Test.YtiapngmallfelaaBal
namespace Go.Proofs.Ytiapngmallfelaa
open Go.RowKit

theorem hK_len (g : List Nat) (i j : Nat) (h : List Nat) : ∀ k, (hK g i j k h).length = h.length := by
  intro k; induction k with
  | zero => rfl
  | succ k ih => unfold hK; split <;> simp [ih]
theorem hK_small {g : List Nat} {i j : Nat} {h : List Nat} (hh : ∀ x ∈ h, x < 4096) (hj : j < 6) : ∀ k, k ≤ 4 → ∀ x ∈ hK g i j k h, x < 4096 := by
  intro k; induction k with
  | zero => intro _; exact hh
  | succ k ih =>
    intro hk x hx
    unfold hK at hx
    split at hx
    · rcases List.mem_or_eq_of_mem_set hx with h1 | h1
      · exact ih (by omega) x h1
      · rw [h1]
        have hp : 2 ^ (j + 6 * (k % 2)) < 2 ^ 12 := Nat.pow_lt_pow_right (by omega) (by omega)
        exact Nat.or_lt_two_pow (n := 12) (gn_lt (ih (by omega)) (by omega) _) hp
    · exact ih (by omega) x hx
theorem hJ_small {g : List Nat} {i : Nat} {h : List Nat} (hh : ∀ x ∈ h, x < 4096) : ∀ j, j ≤ 6 → ∀ x ∈ hJ g i j h, x < 4096 := by
  intro j; induction j with
  | zero => intro _; exact hh
  | succ j ih => intro hj; exact hK_small (ih (by omega)) (by omega) 4 (by omega)
theorem hJ_len (g : List Nat) (i : Nat) (h : List Nat) : ∀ j, (hJ g i j h).length = h.length := by
  intro j; induction j with
  | zero => rfl
  | succ j ih => unfold hJ; rw [hK_len, ih]
theorem hI_len (g : List Nat) : ∀ i, (hI g i).length = 12 := by
  intro i; induction i with
  | zero => simp [hI]
  | succ i ih => unfold hI; rw [hJ_len, ih]
theorem hI_small (g : List Nat) : ∀ i, ∀ x ∈ hI g i, x < 4096 := by
  intro i; induction i with
  | zero => intro x hx; simp [hI] at hx; omega
  | succ i ih => unfold hI; exact hJ_small ih 6 (by omega)
end Go.Proofs.Ytiapngmallfelaa
