/- TopPaley: the matrices, and their determinants by elimination. Plain. -/
import Derived.Test.YtiapngmallfelaaSquares
import Derived.Test.YtiapngmallfelaaLSwitch
import Derived.Test.YtiapngmallfelaaSgT
namespace Go.Proofs.Ytiapngmallfelaa
open Go.RowKit

/-! ### elimination in which all divisions are exact -/
def ent (M : List (List Int)) (i j : Nat) : Int := (M.getD i []).getD j 0
/-- Row k stands where row k + p stood, and the other way round. -/
def swapR (M : List (List Int)) (k p : Nat) : List (List Int) := (M.set k (M.getD (k + p) [])).set (k + p) (M.getD k [])
def stepE (M : List (List Int)) (last : Int) (k i j : Nat) : Int := (ent M i j * ent M k k - ent M i k * ent M k j).tdiv last
def stepM (n : Nat) (M : List (List Int)) (last : Int) (k : Nat) : List (List Int) := (List.range n).map fun i => (List.range n).map fun j => if k < i && k < j then stepE M last k i j else ent M i j
/-- The first row from k on whose entry k is not nothing, counted from k. -/
def piv (n : Nat) (M : List (List Int)) (k : Nat) : Option Nat := (List.range (n - k)).find? fun r => ent M (k + r) k != 0
def bigB (n : Nat) (M : List (List Int)) : Bool := (List.range n).all fun i => (List.range n).all fun j => decide (-100000000 ≤ ent M i j) && decide (ent M i j ≤ 100000000)
structure Elim where
  M : List (List Int)
  sign : Int
  last : Int
  ok : Bool
def el0 (n : Nat) (h : List Nat) : Elim := ⟨(List.range n).map fun i => (List.range n).map fun j => if (gn h i).testBit j then -1 else 1, 1, 1, true⟩
def elStep (n : Nat) (s : Elim) (k : Nat) : Elim :=
  match piv n s.M k with
  | none => ⟨s.M, s.sign, s.last, false⟩
  | some p =>
    let M1 := if p == 0 then s.M else swapR s.M k p
    let M2 := stepM n M1 s.last k
    ⟨M2, if p == 0 then s.sign else -s.sign, ent M2 k k, s.ok && bigB n M2 && (ent M2 k k != 0)⟩
def elTo (n : Nat) (h : List Nat) : Nat → Elim
  | 0 => el0 n h
  | k + 1 => elStep n (elTo n h k) k

/-! ### the matrix of a graph of six nodes -/
def neg (g : List Nat) (i j k : Nat) : Bool := if i = j then k != 0 else ((gn g i).testBit j != (k == 3))
def hK (g : List Nat) (i j : Nat) : Nat → List Nat → List Nat
  | 0, h => h
  | k + 1, h => if neg g i j k then (hK g i j k h).set (i + 6 * (k / 2)) (gn (hK g i j k h) (i + 6 * (k / 2)) ||| 2 ^ (j + 6 * (k % 2))) else hK g i j k h
def hJ (g : List Nat) (i : Nat) : Nat → List Nat → List Nat
  | 0, h => h
  | j + 1, h => hK g i j 4 (hJ g i j h)
def hI (g : List Nat) : Nat → List Nat
  | 0 => List.replicate 12 0
  | i + 1 => hJ g i 6 (hI g i)
def palG (s : Nat) : List Nat := swL (squaresL 5 ++ [0]) s
def balB (h : List Nat) : Bool := (List.range h.length).all fun i => (List.range i).all fun j => 2 * pop (gn h i ^^^ gn h j) == h.length
def palB (s : Nat) : Bool :=
  let h := hI (palG s) 6
  let e := elTo 12 h 11
  (h.length == 12) && (h.all fun x => decide (x < 2 ^ 12)) && balB h && e.ok && (ent e.M 11 11 * ent e.M 11 11 == 8916100448256) && (e.sign == 1 || e.sign == -1) && decide ((palG s).length = 6)
theorem pal_0 : ((List.range 4).all fun s => palB (0 + s)) = true := by decide +kernel
theorem pal_1 : ((List.range 4).all fun s => palB (4 + s)) = true := by decide +kernel
theorem pal_2 : ((List.range 4).all fun s => palB (8 + s)) = true := by decide +kernel
theorem pal_3 : ((List.range 4).all fun s => palB (12 + s)) = true := by decide +kernel
theorem pal_4 : ((List.range 4).all fun s => palB (16 + s)) = true := by decide +kernel
theorem pal_5 : ((List.range 4).all fun s => palB (20 + s)) = true := by decide +kernel
theorem pal_6 : ((List.range 4).all fun s => palB (24 + s)) = true := by decide +kernel
theorem pal_7 : ((List.range 4).all fun s => palB (28 + s)) = true := by decide +kernel
theorem pal_8 : ((List.range 4).all fun s => palB (32 + s)) = true := by decide +kernel
theorem pal_9 : ((List.range 4).all fun s => palB (36 + s)) = true := by decide +kernel
theorem pal_10 : ((List.range 4).all fun s => palB (40 + s)) = true := by decide +kernel
theorem pal_11 : ((List.range 4).all fun s => palB (44 + s)) = true := by decide +kernel
theorem pal_12 : ((List.range 4).all fun s => palB (48 + s)) = true := by decide +kernel
theorem pal_13 : ((List.range 4).all fun s => palB (52 + s)) = true := by decide +kernel
theorem pal_14 : ((List.range 4).all fun s => palB (56 + s)) = true := by decide +kernel
theorem pal_15 : ((List.range 4).all fun s => palB (60 + s)) = true := by decide +kernel
theorem pal_of {s : Nat} (h : s < 64) : palB s = true := by
  have key : ∀ (a : Nat), ((List.range 4).all fun s => palB (a + s)) = true → a ≤ s → s < a + 4 → palB s = true := fun a ha h1 h2 => by
    rw [List.all_eq_true] at ha
    have := ha (s - a) (List.mem_range.2 (by omega))
    rwa [show a + (s - a) = s by omega] at this
  by_cases h0 : s < 4
  · exact key 0 pal_0 (by omega) (by omega)
  by_cases h1 : s < 8
  · exact key 4 pal_1 (by omega) (by omega)
  by_cases h2 : s < 12
  · exact key 8 pal_2 (by omega) (by omega)
  by_cases h3 : s < 16
  · exact key 12 pal_3 (by omega) (by omega)
  by_cases h4 : s < 20
  · exact key 16 pal_4 (by omega) (by omega)
  by_cases h5 : s < 24
  · exact key 20 pal_5 (by omega) (by omega)
  by_cases h6 : s < 28
  · exact key 24 pal_6 (by omega) (by omega)
  by_cases h7 : s < 32
  · exact key 28 pal_7 (by omega) (by omega)
  by_cases h8 : s < 36
  · exact key 32 pal_8 (by omega) (by omega)
  by_cases h9 : s < 40
  · exact key 36 pal_9 (by omega) (by omega)
  by_cases h10 : s < 44
  · exact key 40 pal_10 (by omega) (by omega)
  by_cases h11 : s < 48
  · exact key 44 pal_11 (by omega) (by omega)
  by_cases h12 : s < 52
  · exact key 48 pal_12 (by omega) (by omega)
  by_cases h13 : s < 56
  · exact key 52 pal_13 (by omega) (by omega)
  by_cases h14 : s < 60
  · exact key 56 pal_14 (by omega) (by omega)
  by_cases h15 : s < 64
  · exact key 60 pal_15 (by omega) (by omega)
  · omega
end Go.Proofs.Ytiapngmallfelaa
