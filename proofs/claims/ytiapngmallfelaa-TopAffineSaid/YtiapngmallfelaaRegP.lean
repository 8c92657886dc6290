
/- TopRegular: what the products of two matrices with one -1 in each row and column give. Plain. -/
import Derived.Test.YtiapngmallfelaaMade
import Derived.Test.YtiapngmallfelaaRead
namespace Go.Proofs.Ytiapngmallfelaa
open Go.RowKit

/-- Is G a graph with the numbers k, l, m? Reckoned. -/
def grB (G : List Nat) : Bool := decide (1 ≤ G.length) && decide (G.length ≤ 16) && (List.range G.length).all fun i => decide (gn G i < 2 ^ G.length) && !(gn G i).testBit i && (List.range G.length).all fun j => (gn G i).testBit j == (gn G j).testBit i
theorem grB_gr {G : List Nat} (h : grB G = true) : Gr G := by
  simp only [grB, Bool.and_eq_true, decide_eq_true_eq, List.all_eq_true, List.mem_range, Bool.not_eq_true', beq_iff_eq] at h
  exact ⟨h.1.1, h.1.2, fun i hi => ⟨(h.2 i hi).1.1, (h.2 i hi).1.2, fun j hj => (h.2 i hi).2 j hj⟩⟩
def numB (G : List Nat) (k l m : Nat) : Bool := decide (1 ≤ k) && decide (k + 2 ≤ G.length) && (List.range G.length).all fun i => decide (pop (gn G i) = k) && (List.range i).all fun j => decide (pop (gn G i &&& gn G j) = if (gn G i).testBit j then l else m)
theorem numB_num {G : List Nat} {k l m : Nat} (h : numB G k l m = true) : Num G k l m := by
  simp only [numB, Bool.and_eq_true, decide_eq_true_eq, List.all_eq_true, List.mem_range] at h
  obtain ⟨⟨h1, h2⟩, h3⟩ := h
  refine ⟨h1, h2, fun i hi => (h3 i hi).1, fun i j hi hj hb => ?_, fun i j hi hj hb => ?_⟩
  · have := (h3 i hi).2 j hj; rw [hb] at this; simpa using this
  · have := (h3 i hi).2 j hj; rw [hb] at this; simpa using this

/-- The rows of the product. -/
def timN (H K : List Nat) (i j : Nat) : Bool := (gn H (i / 4)).testBit (j / 4) != (gn K (i % 4)).testBit (j % 4)
def tim (H K : List Nat) : List Nat := (List.range 16).map fun i => setTo (timN H K i) 16
def tieP (g : List Nat) (i j : Nat) : List Nat :=
  let g1 := g.set i (gn g i ||| 2 ^ j)
  g1.set j (gn g1 j ||| 2 ^ i)
def gJ (X : List Nat) (i : Nat) : Nat → List Nat → List Nat
  | 0, g => g
  | j + 1, g => if (gn X i).testBit j && i != j then tieP (gJ X i j g) i j else gJ X i j g
def gI (X : List Nat) : Nat → List Nat
  | 0 => List.replicate 16 0
  | i + 1 => gJ X i 16 (gI X i)
def symE (X : List Nat) (i j : Nat) : Bool := ((gn X i).testBit j == (gn X j).testBit i) && ((gn X i).testBit i == (gn X 0).testBit 0)
def symB (X : List Nat) : Bool := (List.range 16).all fun i => (List.range 16).all fun j => symE X i j
def metL (q : List Nat) : Nat := q.foldl (fun s x => s ||| 2 ^ x) 0
def perm4 : List (List Nat) := ((List.range 4).flatMap fun a => (List.range 4).flatMap fun b => (List.range 4).flatMap fun c => (List.range 4).map fun d => [a, b, c, d]).filter fun q => pop (metL q) == 4
def okX (X : List Nat) : Bool := !symB X || (gn X 0).testBit 0 || (grB (gI X 16) && numB (gI X 16) 6 2 2 && ((gI X 16).length == 16))
theorem all_ok : (perm4.all fun p => perm4.all fun q => okX (tim (p.map fun x => 2 ^ x) (q.map fun x => 2 ^ x))) = true := by decide +kernel
theorem met_step : ((List.range 16).all fun m => (List.range 4).all fun x => m.testBit x || (pop (m ||| 2 ^ x) == pop m + 1 && decide (m ||| 2 ^ x < 16))) = true := by decide +kernel
theorem met_small : ((List.range 16).all fun m => decide (pop m ≤ 4)) = true := by decide +kernel
theorem metL_snoc (q : List Nat) (x : Nat) : metL (q ++ [x]) = metL q ||| 2 ^ x := by simp [metL]
theorem perm4_mem {q : List Nat} (hl : q.length = 4) (h4 : ∀ x ∈ q, x < 4) (hp : pop (metL q) = 4) : q ∈ perm4 := by
  match q, hl with
  | [a, b, c, d], _ =>
    unfold perm4
    rw [List.mem_filter]
    refine ⟨?_, by simpa using hp⟩
    simp only [List.mem_flatMap, List.mem_map, List.mem_range]
    exact ⟨a, h4 a (by simp), b, h4 b (by simp), c, h4 c (by simp), d, h4 d (by simp), rfl⟩
end Go.Proofs.Ytiapngmallfelaa
