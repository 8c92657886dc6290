
/- Walks: Switch of the reference; slices.Equal of graphs. -/
import Derived.Test.YtiapngmallfelaaSw
namespace Go.Proofs.Ytiapngmallfelaa
open Go.RowKit

/-- x with the bits below n flipped at which p holds. -/
def flipTo (x : Nat) (p : Nat → Bool) : Nat → Nat
  | 0 => x
  | n + 1 => if p n then flipTo x p n ^^^ 2 ^ n else flipTo x p n
theorem flipTo_bit (x : Nat) (p : Nat → Bool) : ∀ n j, (flipTo x p n).testBit j = (x.testBit j != (decide (j < n) && p j)) := by
  intro n; induction n with
  | zero => intro j; simp [flipTo]
  | succ n ih =>
    intro j
    by_cases e : j = n
    · subst e
      cases hp : p j with
      | true => simp [flipTo, hp, Nat.testBit_xor, ih]
      | false => simp [flipTo, hp, ih]
    · have h2 : decide (j < n + 1) = decide (j < n) := by simp; omega
      rw [h2]
      cases hp : p n with
      | true =>
        have h3 : decide (n = j) = false := by simp; omega
        simp [flipTo, hp, Nat.testBit_xor, ih, Nat.testBit_two_pow, h3]
      | false => simp [flipTo, hp, ih]
theorem flipTo_lt {x : Nat} (hx : x < 65536) (p : Nat → Bool) {n : Nat} (hn : n ≤ 16) : flipTo x p n < 65536 := by
  apply Nat.lt_pow_two_of_testBit (n := 16)
  intro i hi
  rw [flipTo_bit, Nat.testBit_lt_two_pow (Nat.lt_of_lt_of_le (m := 2 ^ 16) hx (Nat.pow_le_pow_right (by omega) hi))]
  have : ¬ i < n := by omega
  simp [this]
/-- A row switched bit by bit is the row of the switched graph. -/
theorem sw_gn {G : List Nat} (hG : Gr G) {s i : Nat} (hi : i < G.length) : gn (swL G s) i = flipTo (gn G i) (fun q => s.testBit i != s.testBit q) G.length := by
  have e : gn (swL G s) i = setTo (fun q => decide (i ≠ q) && nearSw G s i q) G.length := by simp [gn, swL, madeL, hi]
  rw [e]
  obtain ⟨h1, h2, _⟩ := hG.2.2 i hi
  apply Nat.eq_of_testBit_eq
  intro j
  rw [setTo_bit, flipTo_bit]
  by_cases hj : j < G.length
  · simp only [hj, decide_true, Bool.true_and, nearSw]
    by_cases e : i = j
    · subst e; rw [h2]; simp
    · simp [e]
  · rw [Nat.testBit_lt_two_pow (Nat.lt_of_lt_of_le h1 (Nat.pow_le_pow_right (by omega) (by omega)))]
    simp [hj]
theorem swL_length (G : List Nat) (s : Nat) : (swL G s).length = G.length := by simp [swL, madeL]

end Go.Proofs.Ytiapngmallfelaa
