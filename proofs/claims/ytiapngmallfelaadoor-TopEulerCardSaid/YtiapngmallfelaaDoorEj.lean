
/- Plain: the table of a group of kind A; Euler's numbers. -/
import Derived.Test.YtiapngmallfelaaDoorEi
import Derived.Test.YtiapngmallfelaaDoorEg
namespace Go.Proofs.YtiapngmallfelaaDoor
open Go.RowKit
set_option linter.unusedSimpArgs false
def posE (e : List Int) : List (List Int) → Nat
  | [] => 0
  | x :: l => if x = e then 0 else posE e l + 1
structure Bs where
  E : List (List Int)
  W : List (List Nat)
  N : List (List Nat)
def elE (E : List (List Int)) (k : Nat) : List Int := E.getD k []
def wdW (W : List (List Nat)) (k : Nat) : List Nat := W.getD k []
def inS (k : Nat) (E : List (List Int)) (W : List (List Nat)) : Nat → List (List Int) × List (List Nat) × List Nat
  | 0 => (E, W, [])
  | s + 1 =>
    let r := inS k E W s
    let e := thenL (elE r.1 k) (mirL s)
    let j := posE e r.1
    if j < r.1.length then (r.1, r.2.1, r.2.2 ++ [j]) else (r.1 ++ [e], r.2.1 ++ [wdW r.2.1 k ++ [s]], r.2.2 ++ [j])
def outS (n k : Nat) (b : Bs) : Bs := let r := inS k b.E b.W n; ⟨r.1, r.2.1, b.N ++ [r.2.2]⟩
def initB : Bs := ⟨[oneL], [[]], []⟩
def outB (n : Nat) : Nat → Bs
  | 0 => initB
  | k + 1 => outS n k (outB n k)
def runB (n : Nat) : Nat → Nat → Bs → Option Bs
  | 0, k, b => if b.E.length = k then some b else none
  | f + 1, k, b => if k < b.E.length then runB n f (k + 1) (outS n k b) else none
theorem runB_out {n : Nat} {b : Bs} : ∀ (f k : Nat), runB n f k (outB n k) = some b → b = outB n (k + f) ∧ b.E.length = k + f ∧ ∀ j, j < f → k + j < (outB n (k + j)).E.length
  | 0, k, h => by
    unfold runB at h
    split at h
    · injection h with h
      subst h
      exact ⟨rfl, by assumption, fun j hj => by omega⟩
    · cases h
  | f + 1, k, h => by
    unfold runB at h
    split at h
    · rename_i hk
      obtain ⟨h1, h2, h3⟩ := runB_out f (k + 1) h
      rw [show k + (f + 1) = k + 1 + f by omega]
      refine ⟨h1, h2, fun j hj => ?_⟩
      cases j with
      | zero => exact hk
      | succ j => have := h3 j (by omega); rwa [show k + 1 + j = k + (j + 1) by omega] at this
    · cases h
def W1 : List (List Nat) := [[], [0]]
def N1 : List (List Nat) := [[1], [0]]
def W2 : List (List Nat) := [[], [0], [1], [0, 1], [1, 0], [0, 1, 0]]
def N2 : List (List Nat) := [[1, 2], [0, 3], [4, 0], [5, 1], [2, 5], [3, 4]]
def W3 : List (List Nat) := [[], [0], [1], [2], [0, 1], [0, 2], [1, 0], [1, 2], [2, 1], [0, 1, 0], [0, 1, 2], [0, 2, 1], [1, 0, 2], [1, 2, 1], [2, 1, 0], [0, 1, 0, 2], [0, 1, 2, 1], [0, 2, 1, 0], [1, 0, 2, 1], [1, 2, 1, 0], [0, 1, 0, 2, 1], [0, 1, 2, 1, 0], [1, 0, 2, 1, 0], [0, 1, 0, 2, 1, 0]]
def N3 : List (List Nat) := [[1, 2, 3], [0, 4, 5], [6, 0, 7], [5, 8, 0], [9, 1, 10], [3, 11, 1], [2, 9, 12], [12, 13, 2], [14, 3, 13], [4, 6, 15], [15, 16, 4], [17, 5, 16], [7, 18, 6], [19, 7, 8], [8, 17, 19], [10, 20, 9], [21, 10, 11], [11, 14, 21], [22, 12, 20], [13, 22, 14], [23, 15, 18], [16, 23, 17], [18, 19, 23], [20, 21, 22]]
def W4 : List (List Nat) := [[], [0], [1], [2], [3], [0, 1], [0, 2], [0, 3], [1, 0], [1, 2], [1, 3], [2, 1], [2, 3], [3, 2], [0, 1, 0], [0, 1, 2], [0, 1, 3], [0, 2, 1], [0, 2, 3], [0, 3, 2], [1, 0, 2], [1, 0, 3], [1, 2, 1], [1, 2, 3], [1, 3, 2], [2, 1, 0], [2, 1, 3], [2, 3, 2], [3, 2, 1], [0, 1, 0, 2], [0, 1, 0, 3], [0, 1, 2, 1], [0, 1, 2, 3], [0, 1, 3, 2], [0, 2, 1, 0], [0, 2, 1, 3], [0, 2, 3, 2], [0, 3, 2, 1], [1, 0, 2, 1], [1, 0, 2, 3], [1, 0, 3, 2], [1, 2, 1, 0], [1, 2, 1, 3], [1, 2, 3, 2], [1, 3, 2, 1], [2, 1, 0, 3], [2, 1, 3, 2], [2, 3, 2, 1], [3, 2, 1, 0], [0, 1, 0, 2, 1], [0, 1, 0, 2, 3], [0, 1, 0, 3, 2], [0, 1, 2, 1, 0], [0, 1, 2, 1, 3], [0, 1, 2, 3, 2], [0, 1, 3, 2, 1], [0, 2, 1, 0, 3], [0, 2, 1, 3, 2], [0, 2, 3, 2, 1], [0, 3, 2, 1, 0], [1, 0, 2, 1, 0], [1, 0, 2, 1, 3], [1, 0, 2, 3, 2], [1, 0, 3, 2, 1], [1, 2, 1, 0, 3], [1, 2, 1, 3, 2], [1, 2, 3, 2, 1], [1, 3, 2, 1, 0], [2, 1, 0, 3, 2], [2, 1, 3, 2, 1], [2, 3, 2, 1, 0], [0, 1, 0, 2, 1, 0], [0, 1, 0, 2, 1, 3], [0, 1, 0, 2, 3, 2], [0, 1, 0, 3, 2, 1], [0, 1, 2, 1, 0, 3], [0, 1, 2, 1, 3, 2], [0, 1, 2, 3, 2, 1], [0, 1, 3, 2, 1, 0], [0, 2, 1, 0, 3, 2], [0, 2, 1, 3, 2, 1], [0, 2, 3, 2, 1, 0], [1, 0, 2, 1, 0, 3], [1, 0, 2, 1, 3, 2], [1, 0, 2, 3, 2, 1], [1, 0, 3, 2, 1, 0], [1, 2, 1, 0, 3, 2], [1, 2, 1, 3, 2, 1], [1, 2, 3, 2, 1, 0], [2, 1, 0, 3, 2, 1], [2, 1, 3, 2, 1, 0], [0, 1, 0, 2, 1, 0, 3], [0, 1, 0, 2, 1, 3, 2], [0, 1, 0, 2, 3, 2, 1], [0, 1, 0, 3, 2, 1, 0], [0, 1, 2, 1, 0, 3, 2], [0, 1, 2, 1, 3, 2, 1], [0, 1, 2, 3, 2, 1, 0], [0, 2, 1, 0, 3, 2, 1], [0, 2, 1, 3, 2, 1, 0], [1, 0, 2, 1, 0, 3, 2], [1, 0, 2, 1, 3, 2, 1], [1, 0, 2, 3, 2, 1, 0], [1, 2, 1, 0, 3, 2, 1], [1, 2, 1, 3, 2, 1, 0], [2, 1, 0, 3, 2, 1, 0], [0, 1, 0, 2, 1, 0, 3, 2], [0, 1, 0, 2, 1, 3, 2, 1], [0, 1, 0, 2, 3, 2, 1, 0], [0, 1, 2, 1, 0, 3, 2, 1], [0, 1, 2, 1, 3, 2, 1, 0], [0, 2, 1, 0, 3, 2, 1, 0], [1, 0, 2, 1, 0, 3, 2, 1], [1, 0, 2, 1, 3, 2, 1, 0], [1, 2, 1, 0, 3, 2, 1, 0], [0, 1, 0, 2, 1, 0, 3, 2, 1], [0, 1, 0, 2, 1, 3, 2, 1, 0], [0, 1, 2, 1, 0, 3, 2, 1, 0], [1, 0, 2, 1, 0, 3, 2, 1, 0], [0, 1, 0, 2, 1, 0, 3, 2, 1, 0]]
def N4 : List (List Nat) := [[1, 2, 3, 4], [0, 5, 6, 7], [8, 0, 9, 10], [6, 11, 0, 12], [7, 10, 13, 0], [14, 1, 15, 16], [3, 17, 1, 18], [4, 16, 19, 1], [2, 14, 20, 21], [20, 22, 2, 23], [21, 4, 24, 2], [25, 3, 22, 26], [18, 26, 27, 3], [19, 28, 4, 27], [5, 8, 29, 30], [29, 31, 5, 32], [30, 7, 33, 5], [34, 6, 31, 35], [12, 35, 36, 6], [13, 37, 7, 36], [9, 38, 8, 39], [10, 30, 40, 8], [41, 9, 11, 42], [39, 42, 43, 9], [40, 44, 10, 43], [11, 34, 41, 45], [45, 12, 46, 11], [36, 47, 12, 13], [48, 13, 44, 47], [15, 49, 14, 50], [16, 21, 51, 14], [52, 15, 17, 53], [50, 53, 54, 15], [51, 55, 16, 54], [17, 25, 52, 56], [56, 18, 57, 17], [27, 58, 18, 19], [59, 19, 55, 58], [60, 20, 49, 61], [23, 61, 62, 20], [24, 63, 21, 62], [22, 60, 25, 64], [64, 23, 65, 22], [62, 66, 23, 24], [67, 24, 28, 66], [26, 56, 68, 25], [68, 69, 26, 65], [70, 27, 69, 28], [28, 59, 67, 70], [71, 29, 38, 72], [32, 72, 73, 29], [33, 74, 30, 73], [31, 71, 34, 75], [75, 32, 76, 31], [73, 77, 32, 33], [78, 33, 37, 77], [35, 45, 79, 34], [79, 80, 35, 76], [81, 36, 80, 37], [37, 48, 78, 81], [38, 41, 71, 82], [82, 39, 83, 38], [43, 84, 39, 40], [85, 40, 74, 84], [42, 82, 86, 41], [86, 87, 42, 46], [88, 43, 87, 44], [44, 85, 48, 88], [46, 89, 45, 86], [90, 46, 47, 87], [47, 81, 90, 48], [49, 52, 60, 91], [91, 50, 92, 49], [54, 93, 50, 51], [94, 51, 63, 93], [53, 91, 95, 52], [95, 96, 53, 57], [97, 54, 96, 55], [55, 94, 59, 97], [57, 98, 56, 95], [99, 57, 58, 96], [58, 70, 99, 59], [61, 64, 100, 60], [100, 101, 61, 92], [102, 62, 101, 63], [63, 67, 94, 102], [65, 103, 64, 68], [104, 65, 66, 69], [66, 102, 104, 67], [105, 68, 98, 103], [69, 105, 70, 104], [72, 75, 106, 71], [106, 107, 72, 83], [108, 73, 107, 74], [74, 78, 85, 108], [76, 109, 75, 79], [110, 76, 77, 80], [77, 108, 110, 78], [111, 79, 89, 109], [80, 111, 81, 110], [83, 112, 82, 106], [113, 83, 84, 107], [84, 88, 113, 85], [114, 86, 112, 89], [87, 114, 88, 90], [89, 90, 111, 114], [92, 115, 91, 100], [116, 92, 93, 101], [93, 97, 116, 94], [117, 95, 115, 98], [96, 117, 97, 99], [98, 99, 105, 117], [118, 100, 103, 115], [101, 118, 102, 116], [103, 104, 118, 105], [119, 106, 109, 112], [107, 119, 108, 113], [109, 110, 119, 111], [112, 113, 114, 119], [115, 116, 117, 118]]
def sizeN (n : Nat) : Nat := if n = 1 then 2 else if n = 2 then 6 else if n = 3 then 24 else 120
def tabW (n : Nat) : List (List Nat) := if n = 1 then W1 else if n = 2 then W2 else if n = 3 then W3 else W4
def tabN (n : Nat) : List (List Nat) := if n = 1 then N1 else if n = 2 then N2 else if n = 3 then N3 else N4
theorem run1 : (runB 1 2 0 initB).map (fun b => (b.W, b.N)) = some (W1, N1) := by decide +kernel
theorem run2 : (runB 2 6 0 initB).map (fun b => (b.W, b.N)) = some (W2, N2) := by decide +kernel
theorem run3 : (runB 3 24 0 initB).map (fun b => (b.W, b.N)) = some (W3, N3) := by decide +kernel
theorem run4 : (runB 4 120 0 initB).map (fun b => (b.W, b.N)) = some (W4, N4) := by decide +kernel
theorem run_n {n : Nat} (h1 : 1 ≤ n) (h4 : n ≤ 4) : (runB n (sizeN n) 0 initB).map (fun b => (b.W, b.N)) = some (tabW n, tabN n) := by
  have : n = 1 ∨ n = 2 ∨ n = 3 ∨ n = 4 := by omega
  rcases this with rfl | rfl | rfl | rfl
  · exact run1
  · exact run2
  · exact run3
  · exact run4
theorem tab_out {n : Nat} (h1 : 1 ≤ n) (h4 : n ≤ 4) : (outB n (sizeN n)).W = tabW n ∧ (outB n (sizeN n)).N = tabN n ∧ (outB n (sizeN n)).E.length = sizeN n ∧ ∀ j, j < sizeN n → j < (outB n j).E.length := by
  have h := run_n h1 h4
  cases hr : runB n (sizeN n) 0 initB with
  | none => rw [hr] at h; cases h
  | some b =>
    rw [hr] at h
    injection h with h
    obtain ⟨h5, h6, h7⟩ := runB_out (sizeN n) 0 hr
    rw [Nat.zero_add] at h5 h6
    injection h with h8 h9
    subst h5
    exact ⟨h8, h9, h6, fun j hj => by have := h7 j hj; rwa [Nat.zero_add] at this⟩
/-! ### what the table is good for -/
def wdN (N : List (List Nat)) (u : Nat) : List Nat := N.getD u []
def walkN (N : List (List Nat)) : Nat → List Nat → Nat
  | u, [] => u
  | u, s :: l => walkN N (gn (wdN N u) s) l
def fallN (W N : List (List Nat)) (u : Nat) : Nat → Nat
  | 0 => 0
  | s + 1 => if (wdW W (gn (wdN N u) s)).length < (wdW W u).length then fallN W N u s + 2 ^ s else fallN W N u s
def popB (x : Nat) : Nat := x % 2 + x / 2 % 2 + x / 4 % 2 + x / 8 % 2 + x / 16 % 2
def cntL (W N : List (List Nat)) (n m : Nat) : Nat → List Nat
  | 0 => List.replicate (m + 1) 0
  | u + 1 => let c := cntL W N n m u; let h := popB (fallN W N u n); c.set h (gn c h + 1)
def lexN : List Nat → List Nat → Int
  | [], [] => 0
  | [], _ :: _ => -1
  | _ :: _, [] => 1
  | x :: l, y :: k => if x < y then -1 else if y < x then 1 else lexN l k
def cmpW (W : List (List Nat)) (u v : Nat) : Int :=
  let a := wdW W u; let b := wdW W v
  if a.length < b.length then -1 else if b.length < a.length then 1 else lexN a b
def okTab (n K : Nat) (W N : List (List Nat)) : Bool :=
  W.length == K && N.length == K && W.all (fun w => decide (w.length ≤ 30) && w.all fun s => decide (s < n)) && N.all (fun r => r.length == n && r.all fun u => decide (u < K)) &&
  (List.range K).all (fun u => walkN N 0 (wdW W u) == u) && (List.range K).all (fun u => decide (fallN W N u n < 2 ^ n))
def okOrd (K : Nat) (W : List (List Nat)) : Bool := (List.range K).all fun u => (List.range K).all fun v => cmpW W u v == (if u < v then -1 else if v < u then 1 else 0)
theorem okTab_n {n : Nat} (h1 : 1 ≤ n) (h4 : n ≤ 4) : okTab n (sizeN n) (tabW n) (tabN n) = true := by
  have : n = 1 ∨ n = 2 ∨ n = 3 ∨ n = 4 := by omega
  rcases this with rfl | rfl | rfl | rfl <;> decide +kernel
theorem okOrd_n {n : Nat} (h1 : 1 ≤ n) (h4 : n ≤ 4) : okOrd (sizeN n) (tabW n) = true := by
  have : n = 1 ∨ n = 2 ∨ n = 3 ∨ n = 4 := by omega
  rcases this with rfl | rfl | rfl | rfl <;> decide +kernel
/-- The board of the squares above the diagonal. -/
def eulB (m : Nat) : List Nat := (List.range m).map fun i => 2 ^ m - 2 ^ (i + 1)
theorem euler_n {n : Nat} (h1 : 1 ≤ n) (h4 : n ≤ 4) : hitsL (eulB (n + 1)) (n + 1) = cntL (tabW n) (tabN n) n (n + 1) (sizeN n) := by
  have : n = 1 ∨ n = 2 ∨ n = 3 ∨ n = 4 := by omega
  rcases this with rfl | rfl | rfl | rfl <;> decide +kernel
end Go.Proofs.YtiapngmallfelaaDoor
