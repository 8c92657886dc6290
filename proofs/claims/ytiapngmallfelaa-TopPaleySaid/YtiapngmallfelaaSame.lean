
/- Walks: Same, of the program and of the reference; plain: they answer alike. -/
import Derived.Test.YtiapngmallfelaaSwr
namespace Go.Proofs.Ytiapngmallfelaa
open Go.RowKit

/-! ### plain -/
theorem full_bit (n j : Nat) : (full n).testBit j = decide (j < n) := by unfold full; exact Nat.testBit_two_pow_sub_one n j
theorem full_lt_pow (n : Nat) : full n < 2 ^ n := by have := Nat.one_le_two_pow (n := n); unfold full; omega
theorem xor_bits {a b j : Nat} : (a ^^^ b).testBit j = (a.testBit j != b.testBit j) := by rw [Nat.testBit_xor]
theorem gn_ext {A B : List Nat} (h : A.length = B.length) (g : ∀ i, i < A.length → gn A i = gn B i) : A = B :=
  List.ext_getElem h fun i h1 h2 => by have := g i h1; rwa [gn_of_lt h1, gn_of_lt h2] at this
theorem sw_bit {G : List Nat} (hG : Gr G) {s i j : Nat} (hi : i < G.length) (hj : j < G.length) : (gn (swL G s) i).testBit j = ((gn G i).testBit j != (s.testBit i != s.testBit j)) := by
  rw [sw_gn hG hi, flipTo_bit]; simp [hj]
theorem sw_lt {G : List Nat} (_hG : Gr G) {s i : Nat} (hi : i < G.length) : gn (swL G s) i < 2 ^ G.length := by
  have e : gn (swL G s) i = setTo (fun q => decide (i ≠ q) && nearSw G s i q) G.length := by simp [gn, swL, madeL, hi]
  rw [e]; exact setTo_lt _ _
/-- A switched graph is a graph. -/
theorem sw_gr {G : List Nat} (hG : Gr G) (s : Nat) : Gr (swL G s) := by
  refine ⟨by rw [swL_length]; exact hG.1, by rw [swL_length]; exact hG.2.1, fun i hi => ?_⟩
  rw [swL_length] at hi ⊢
  obtain ⟨h1, h2, h3⟩ := hG.2.2 i hi
  refine ⟨sw_lt hG hi, by rw [sw_bit hG hi hi, h2]; simp, fun j hj => ?_⟩
  rw [sw_bit hG hi hj, sw_bit hG hj hi, h3 j hj]
  cases (gn G j).testBit i <;> cases s.testBit i <;> cases s.testBit j <;> rfl
/-- Two sets that part the nodes alike switch alike. -/
theorem sw_congr {G : List Nat} (hG : Gr G) {s t : Nat} (h : ∀ i j, i < G.length → j < G.length → (s.testBit i != s.testBit j) = (t.testBit i != t.testBit j)) : swL G s = swL G t := by
  refine gn_ext (by rw [swL_length, swL_length]) fun i hi => ?_
  rw [swL_length] at hi
  apply Nat.eq_of_testBit_eq
  intro j
  by_cases hj : j < G.length
  · rw [sw_bit hG hi hj, sw_bit hG hi hj, h i j hi hj]
  · have hp : 2 ^ G.length ≤ 2 ^ j := Nat.pow_le_pow_right (by omega) (by omega)
    rw [Nat.testBit_lt_two_pow (Nat.lt_of_lt_of_le (sw_lt hG hi) hp), Nat.testBit_lt_two_pow (Nat.lt_of_lt_of_le (sw_lt hG hi) hp)]
/-- The set that Same tries. -/
def trySet (G H : List Nat) : Nat := min (gn G 0 ^^^ gn H 0) (andn (full G.length) (gn G 0 ^^^ gn H 0))
theorem nat_bits_ext {a b n : Nat} (ha : a < 2 ^ n) (hb : b < 2 ^ n) (h : ∀ j, j < n → a.testBit j = b.testBit j) : a = b := by
  apply Nat.eq_of_testBit_eq
  intro j
  by_cases hj : j < n
  · exact h j hj
  · have hp : 2 ^ n ≤ 2 ^ j := Nat.pow_le_pow_right (by omega) (by omega)
    rw [Nat.testBit_lt_two_pow (Nat.lt_of_lt_of_le ha hp), Nat.testBit_lt_two_pow (Nat.lt_of_lt_of_le hb hp)]
theorem xor_lt {G H : List Nat} (hG : Gr G) (hH : Gr H) (hl : G.length = H.length) : gn G 0 ^^^ gn H 0 < 2 ^ G.length :=
  Nat.xor_lt_two_pow (hG.2.2 0 hG.1).1 (by rw [hl]; exact (hH.2.2 0 hH.1).1)
/-- A set by which switching makes H of G is the one that Same tries, or its complement. -/
theorem sw_cases {G H : List Nat} (hG : Gr G) (hH : Gr H) (hl : G.length = H.length) {s : Nat} (hs : s < 2 ^ G.length) (h : swL G s = H) :
    s = gn G 0 ^^^ gn H 0 ∨ s = andn (full G.length) (gn G 0 ^^^ gn H 0) := by
  have hb : ∀ j, j < G.length → (s.testBit 0 != s.testBit j) = ((gn G 0).testBit j != (gn H 0).testBit j) := fun j hj => by
    have := sw_bit hG (s := s) hG.1 hj
    rw [h] at this
    rw [this]; cases (gn G 0).testBit j <;> cases s.testBit 0 <;> cases s.testBit j <;> rfl
  have g0 := (hG.2.2 0 hG.1).2.1
  have h0 := (hH.2.2 0 hH.1).2.1
  cases e : s.testBit 0 with
  | false =>
    left
    refine nat_bits_ext hs (xor_lt hG hH hl) fun j hj => ?_
    have := hb j hj
    rw [e] at this
    rw [xor_bits, ← this]; simp
  | true =>
    right
    refine nat_bits_ext hs (andn_lt (full_lt_pow _)) fun j hj => ?_
    have := hb j hj
    rw [e] at this
    rw [andn_bit, full_bit, xor_bits, ← this]; simp [hj]
theorem sw_compl {G : List Nat} (hG : Gr G) (x : Nat) : swL G (andn (full G.length) x) = swL G x :=
  sw_congr hG fun i j hi hj => by
    rw [andn_bit, andn_bit, full_bit, full_bit]; simp only [hi, hj, decide_true, Bool.true_and]
    cases x.testBit i <;> cases x.testBit j <;> rfl
theorem try_sw {G H : List Nat} (hG : Gr G) : swL G (trySet G H) = swL G (gn G 0 ^^^ gn H 0) := by
  unfold trySet
  rcases Nat.le_total (gn G 0 ^^^ gn H 0) (andn (full G.length) (gn G 0 ^^^ gn H 0)) with h | h
  · rw [Nat.min_eq_left h]
  · rw [Nat.min_eq_right h, sw_compl hG]
theorem try_lt {G H : List Nat} (hG : Gr G) (hH : Gr H) (hl : G.length = H.length) : trySet G H < 2 ^ G.length :=
  Nat.lt_of_le_of_lt (Nat.min_le_left _ _) (xor_lt hG hH hl)
/-- Whatever set makes H of G, the one that is tried does, and it is no greater. -/
theorem try_least {G H : List Nat} (hG : Gr G) (hH : Gr H) (hl : G.length = H.length) {s : Nat} (hs : s < 2 ^ G.length) (h : swL G s = H) : swL G (trySet G H) = H ∧ trySet G H ≤ s := by
  rw [try_sw hG]
  rcases sw_cases hG hH hl hs h with rfl | rfl
  · exact ⟨h, Nat.min_le_left _ _⟩
  · rw [sw_compl hG] at h
    exact ⟨h, Nat.min_le_right _ _⟩

theorem ints_inj {A B : List Nat} (h : ints A = ints B) : A = B := by
  have hl : A.length = B.length := by rw [← ints_length A, ← ints_length B, h]
  refine gn_ext hl fun i hi => ?_
  have := congrArg (fun l => nth l i) h
  simp only [nth_ints] at this
  omega

/-! ### walks -/
def AgreeTo (A H : List Nat) (j : Nat) : Prop := ∀ i, i < j → gn A i = gn H i
instance (A H : List Nat) (j : Nat) : Decidable (AgreeTo A H j) := by unfold AgreeTo; infer_instance
theorem agree_step {A H : List Nat} {j : Nat} : AgreeTo A H (j + 1) ↔ AgreeTo A H j ∧ gn A j = gn H j := by
  constructor
  · intro h; exact ⟨fun i hi => h i (by omega), h j (by omega)⟩
  · rintro ⟨h, e⟩ i hi
    rcases Nat.lt_or_ge i j with h' | h'
    · exact h i h'
    · obtain rfl : i = j := by omega
      exact e

end Go.Proofs.Ytiapngmallfelaa
