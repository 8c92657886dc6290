
/- Walks: how many sets of three are odd. -/
import Derived.Test.YtiapngmallfelaaAlone
namespace Go.Proofs.Ytiapngmallfelaa
open Go.RowKit

def oddT (G : List Nat) (i j k : Nat) : Bool := ((gn G i).testBit j != (gn G j).testBit k) != (gn G i).testBit k
def c1 (G : List Nat) (i j k : Nat) : Nat := sumTo k fun c => if oddT G i j c then 1 else 0
def c2 (G : List Nat) (i j : Nat) : Nat := sumTo j fun b => c1 G i b b
def c3 (G : List Nat) (i : Nat) : Nat := sumTo i fun a => c2 G a a
def oddN (G : List Nat) : Nat := c3 G G.length
theorem sumTo_bound {f : Nat → Nat} {c : Nat} : ∀ {n}, (∀ j, j < n → f j ≤ c) → sumTo n f ≤ n * c := by
  intro n; induction n with
  | zero => intro _; simp [sumTo]
  | succ n ih => intro h; have := ih (fun j hj => h j (by omega)); have := h n (by omega); simp only [sumTo, Nat.succ_mul]; omega
theorem c1_le (G : List Nat) (i j k : Nat) : c1 G i j k ≤ k := by
  have := sumTo_bound (n := k) (f := fun c => if oddT G i j c then 1 else 0) (c := 1) (fun c _ => by split <;> omega)
  unfold c1; omega
theorem c2_le (G : List Nat) (i : Nat) {j : Nat} (hj : j ≤ 16) : c2 G i j ≤ 256 := by
  have := sumTo_bound (n := j) (f := fun b => c1 G i b b) (c := 16) (fun b hb => by have := c1_le G i b b; omega)
  unfold c2; omega
theorem c3_le (G : List Nat) {i : Nat} (hi : i ≤ 16) : c3 G i ≤ 4096 := by
  have := sumTo_bound (n := i) (f := fun a => c2 G a a) (c := 256) (fun a ha => c2_le G a (by omega))
  unfold c3; omega
theorem c1_yes {G : List Nat} {i j k : Nat} (h : oddT G i j k = true) : c1 G i j (k + 1) = c1 G i j k + 1 := by simp [c1, sumTo, h]
theorem c1_no {G : List Nat} {i j k : Nat} (h : oddT G i j k = false) : c1 G i j (k + 1) = c1 G i j k := by simp [c1, sumTo, h]
theorem c2_step (G : List Nat) (i j : Nat) : c2 G i (j + 1) = c2 G i j + c1 G i j j := rfl
theorem c3_step (G : List Nat) (i : Nat) : c3 G (i + 1) = c3 G i + c2 G i i := rfl

theorem odd_sum (G : List Nat) (i j k : Nat) : oddT G i j k = decide ((bt (gn G i) j + bt (gn G i) k + bt (gn G j) k) % 2 = 1) := by
  rw [bt_test, bt_test, bt_test]; unfold oddT
  cases (gn G i).testBit j <;> cases (gn G j).testBit k <;> cases (gn G i).testBit k <;> rfl

end Go.Proofs.Ytiapngmallfelaa
