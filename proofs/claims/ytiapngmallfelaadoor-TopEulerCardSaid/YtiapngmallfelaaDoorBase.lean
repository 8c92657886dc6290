
/- Base of the walks: slices of integers, worlds below a block number, bits. -/
import Derived.Test.YtiapngmallfelaaDoorChecked
import Derived.WalkKit
import Derived.WalkLawsBesides
import Derived.WalkSpells
import Derived.Deep.QuietTactic
import Derived.BigQuiet
import Derived.Lib.Hide
import Derived.StillTailTactics
import Derived.Deep.RegionHeld3
namespace Go.Proofs.YtiapngmallfelaaDoor
open Go.RowKit

/-! ### worlds -/
theorem drewN_below {B n : Nat} {a w : World} (h : Below B a w) : Below B a (w.drewN n) := ⟨h.os, h.tape, h.output, h.size, h.block⟩

/-- A contract's ending: a value, and nothing that was there has changed. -/
def Gives (w : World) (v : Value) (e : Ending) (w' : World) : Prop := e = .returned v ∧ Below w.heap.size w w'

theorem ret_false {P : Prop} [Decidable P] (h : ¬P) : Ending.returned (.bool false) = .returned (.bool (decide P)) := by simp [h]
theorem ret_true {P : Prop} [Decidable P] (h : P) : Ending.returned (.bool true) = .returned (.bool (decide P)) := by simp [h]
theorem ret_bool {a b : Bool} (h : a = b) : Ending.returned (.bool a) = .returned (.bool b) := by rw [h]
theorem ret_int {k : IntKind} {a b : Int} (h : a = b) : Ending.returned (.int k a) = .returned (.int k b) := by rw [h]

/-! ### slices of integers -/
def nth (l : List Int) (i : Nat) : Int := l.getD i 0

/-- The slice value (a, n, cap) reads as the list l. -/
def Sl (w : World) (a : Option Addr) (n cap : Nat) (l : List Int) : Prop :=
  l.length = n ∧ n ≤ cap ∧ cap ≤ maxLen ∧ ((a = none ∧ n = 0 ∧ cap = 0) ∨ (n = 0 ∧ cap = 0 ∧ ∃ x, a = some x) ∨
   ∃ b off, a = some ⟨b, off, none⟩ ∧ b < w.heap.size ∧ ∀ i, i < n → w.cell? ⟨b, off + i, none⟩ = some (.int .i64 (nth l i)))

theorem Sl.len {w : World} {a : Option Addr} {n cap : Nat} {l : List Int} (h : Sl w a n cap l) : l.length = n := h.1

/-- A slice is nil; or it is empty, wherever it leads; or it leads to a block. -/
theorem Sl.parts3 {w : World} {a : Option Addr} {n cap : Nat} {l : List Int} (h : Sl w a n cap l) :
    (a = none ∧ n = 0 ∧ cap = 0 ∧ l = []) ∨ (∃ x, a = some x ∧ n = 0 ∧ cap = 0 ∧ l = []) ∨ ∃ b off, a = some ⟨b, off, none⟩ ∧ b < w.heap.size ∧ ∀ i, i < n → w.cell? ⟨b, off + i, none⟩ = some (.int .i64 (nth l i)) := by
  obtain ⟨h1, h2, h3, ⟨rfl, rfl, rfl⟩ | ⟨rfl, rfl, x, rfl⟩ | ⟨b, off, rfl, r⟩⟩ := h
  · exact .inl ⟨rfl, rfl, rfl, List.eq_nil_of_length_eq_zero h1⟩
  · exact .inr (.inl ⟨x, rfl, rfl, rfl, List.eq_nil_of_length_eq_zero h1⟩)
  · exact .inr (.inr ⟨b, off, rfl, r⟩)

theorem Sl.cells {w : World} {b off n cap : Nat} {l : List Int} (h : Sl w (some ⟨b, off, none⟩) n cap l) (hn : 1 ≤ n) :
   b < w.heap.size ∧ ∀ i, i < n → w.cell? ⟨b, off + i, none⟩ = some (.int .i64 (nth l i)) := by
  rcases h.parts3 with ⟨h, _⟩ | ⟨_, _, h, _⟩ | ⟨b', o', e, r⟩
  · simp at h
  · omega
  · simp at e; obtain ⟨rfl, rfl⟩ := e; exact r

/-- A slice is empty, or it leads to a block. -/
theorem Sl.parts {w : World} {a : Option Addr} {n cap : Nat} {l : List Int} (h : Sl w a n cap l) :
    (True ∧ n = 0 ∧ l = []) ∨ ∃ b off, a = some ⟨b, off, none⟩ ∧ Sl w (some ⟨b, off, none⟩) n cap l := by
  rcases h.parts3 with ⟨rfl, rfl, rfl, rfl⟩ | ⟨x, rfl, rfl, rfl, rfl⟩ | ⟨b, off, rfl, _⟩
  · exact .inl ⟨trivial, rfl, rfl⟩
  · exact .inl ⟨trivial, rfl, rfl⟩
  · exact .inr ⟨b, off, rfl, h⟩

theorem Sl.mono {w w' : World} {a : Option Addr} {n cap : Nat} {l : List Int} (h : Sl w a n cap l) (hb : Below w.heap.size w w') : Sl w' a n cap l := by
  obtain ⟨h1, h2, h3, h | h | ⟨b, off, rfl, hlt, hc⟩⟩ := h
  · exact ⟨h1, h2, h3, .inl h⟩
  · exact ⟨h1, h2, h3, .inr (.inl h)⟩
  · exact ⟨h1, h2, h3, .inr (.inr ⟨b, off, rfl, Nat.lt_of_lt_of_le hlt hb.size, fun i hi => (hb.cell (p := ⟨b, off + i, none⟩) hlt).trans (hc i hi)⟩)⟩

theorem nth_of_lt {l : List Int} {i : Nat} (h : i < l.length) : nth l i = l[i] := by simp [nth, h]

/-- What the call made and owns reads as its list. -/
theorem own_sl {w : World} {base : Nat} {a : Option Addr} {n cap : Nat} {L : List Int}
    (h : w.ownsRow base 3 1 (.slice a n cap) n (L.map (Value.int .i64))) : Sl w a n cap L := by
  have hn : L.length = n := by have := h.1; simpa using this
  obtain ⟨_, ⟨hv, h0⟩ | ⟨g, c, cur, hv, hb, hg, hnc, hcm, hsz, htake⟩⟩ := h
  · simp at hv; obtain ⟨rfl, rfl, rfl⟩ := hv
    exact ⟨hn, by omega, by simp, .inl ⟨rfl, rfl, rfl⟩⟩
  · simp at hv; obtain ⟨rfl, rfl⟩ := hv
    refine ⟨hn, hnc, hcm, .inr (.inr ⟨g, 0, rfl, (Array.getElem?_eq_some_iff.1 hg).1, fun i hi => ?_⟩)⟩
    rw [Nat.zero_add, cell_of_row w g i cur 3 (0, 0) hg]
    have hi' : (L.map (Value.int .i64))[i]? = some (.int .i64 (nth L i)) := by
      rw [List.getElem?_map, List.getElem?_eq_getElem (by omega), nth_of_lt (by omega)]; rfl
    rw [← htake, List.getElem?_take] at hi'
    split at hi'
    · simpa using hi'
    · cases hi'

/-- A result that is a new slice. -/
def GivesSl (w : World) (L : List Int) (e : Ending) (w' : World) : Prop :=
  ∃ a n cap, e = .returned (.slice a n cap) ∧ w'.ownsRow w.heap.size 3 1 (.slice a n cap) n (L.map (Value.int .i64)) ∧ Below w.heap.size w w'
def GivesSlE (w : World) (L : List Int) (err : Int) (e : Ending) (w' : World) : Prop :=
  ∃ a n cap, e = .returned (.tuple #[.slice a n cap, .int .i64 err]) ∧ w'.ownsRow w.heap.size 3 1 (.slice a n cap) n (L.map (Value.int .i64)) ∧ Below w.heap.size w w'

/-! ### bits -/
/-- bit j of x, as Go reckons x >> j & 1. -/
def bitv (x : Int) (j : Nat) : Int := bits .and .i64 (x / 2 ^ j) 1

theorem pow_small {n : Nat} (h : n ≤ 16) : (2:Int)^n ≤ 65536 ∧ (1:Int) ≤ 2^n := by
  have h1 : (2:Nat)^n ≤ 2^16 := Nat.pow_le_pow_right (by omega) h
  have h2 : 1 ≤ (2:Nat)^n := Nat.one_le_two_pow
  have e : ((2^n : Nat) : Int) = (2:Int)^n := by simp
  omega
theorem wrap_pow {n : Nat} (h : n ≤ 16) : wrap64 (2^n) = 2^n := by have := pow_small h; exact IntWalk.wrap64_in _ (by constructor <;> omega)

end Go.Proofs.YtiapngmallfelaaDoor
