
/- Walks: Pairs. -/
import Derived.Test.YtiapngmallfelaaGrid
namespace Go.Proofs.Ytiapngmallfelaa
open Go.RowKit

def prRow (a b : Nat) : List Nat := ((List.range b).filter fun y => decide (a < y)).map fun y => 2 ^ a ||| 2 ^ y
def prTo (n a b : Nat) : List Nat := (List.range a).flatMap (fun x => prRow x n) ++ prRow a b
def prL (n : Nat) : List Nat := (List.range n).flatMap fun x => prRow x n
theorem prRow_step {a b : Nat} (h : a < b) : prRow a (b + 1) = prRow a b ++ [2 ^ a ||| 2 ^ b] := by simp [prRow, List.range_succ, h]
theorem prRow_start (a : Nat) : prRow a (a + 1) = [] := by
  simp only [prRow, List.map_eq_nil_iff, List.filter_eq_nil_iff, List.mem_range, decide_eq_true_eq]; omega
theorem prTo_step {n a b : Nat} (h : a < b) : prTo n a (b + 1) = prTo n a b ++ [2 ^ a ||| 2 ^ b] := by simp [prTo, prRow_step h]
theorem prTo_start (n : Nat) : prTo n 0 1 = [] := by simp [prTo, prRow_start]
theorem prTo_row (n a : Nat) : prTo n a n = prTo n (a + 1) (a + 1 + 1) := by
  simp [prTo, List.range_succ, prRow_start]
theorem prTo_end (n : Nat) : prTo n n (n + 1) = prL n := by simp [prTo, prL, prRow_start]
def nearPairs (L : List Nat) (i j : Nat) : Bool := decide (gn L i &&& gn L j ≠ 0)
def pairsL (n : Nat) : List Nat := madeL (prL n).length (nearPairs (prL n))

theorem prL_facts {n : Nat} (h4 : 4 ≤ n) (h6 : n ≤ 6) : (prL n).length ≤ 16 ∧ ∀ x ∈ prL n, x < 65536 := by
  have : n = 4 ∨ n = 5 ∨ n = 6 := by omega
  rcases this with rfl | rfl | rfl <;> decide

theorem pairs_kept {w wr wn : World} {v u : Value} {m : Nat} {xs : List Value} {E : TypeId} {o : Obj} (hv : wr.heap[w.heap.size]? = some (.cells #[u] E (0, 0))) (hown : wr.ownsRow (w.heap.size + 1) 3 1 v m xs)
    (hg : (wr.alloc o).drew.grownBy wn v.ownBlock) : wn.heap[w.heap.size]? = some (.cells #[u] E (0, 0)) := by
  have hlt := lt_of_block hv
  have h1 : (wr.alloc o).drew.heap[w.heap.size]? = some (.cells #[u] E (0, 0)) := (Below.heap_alloc wr o _ hlt).trans hv
  rw [hg.block _ (by show _ < (wr.alloc o).heap.size; simp; omega) ?_]
  · exact h1
  · intro e
    have := (hown.lt _ e.symm).1
    omega
theorem own_grown2 {w wr w1 : World} {e size k : Nat} {v : Value} {xs : List Value} (hown : wr.ownsRow (w.heap.size + 1) e size v k xs) (hb : Below w.heap.size w wr) (o : Obj) (hg : (wr.alloc o).grownBy w1 v.ownBlock) : Below w.heap.size w w1 :=
  (bal hb o).grown hg (bal hb o).size (fun j hj => by have := (hown.lt j hj).1; omega)

end Go.Proofs.Ytiapngmallfelaa
