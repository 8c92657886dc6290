/- Plain: odd sets of three, and switching. -/
import Derived.Test.YtijnpcehjnaaiaaLSwitch
namespace Go.Proofs.Ytijnpcehjnaaiaa
open Go.RowKit

/-- Switched twice a graph is what it was. -/
theorem sw_twice {G : List Nat} (hG : Gr G) (s : Nat) : swL (swL G s) s = G := by
  refine gn_ext (by rw [swL_length, swL_length]) fun i hi => ?_
  rw [swL_length, swL_length] at hi
  have hl : (swL G s).length = G.length := swL_length G s
  refine nat_bits_ext (n := G.length) (by have := sw_lt (sw_gr hG s) (s := s) (i := i) (by rw [hl]; exact hi); rwa [hl] at this) (hG.2.2 i hi).1 fun j hj => ?_
  rw [sw_bit (sw_gr hG s) (by rw [hl]; exact hi) (by rw [hl]; exact hj), sw_bit hG hi hj]
  cases (gn G i).testBit j <;> cases s.testBit i <;> cases s.testBit j <;> rfl
/-- Switching keeps the odd sets of three. -/
theorem sw_odd {G : List Nat} (hG : Gr G) (s : Nat) {i j k : Nat} (hi : i < G.length) (hj : j < G.length) (hk : k < G.length) : oddT (swL G s) i j k = oddT G i j k := by
  unfold oddT
  rw [sw_bit hG hi hj, sw_bit hG hj hk, sw_bit hG hi hk]
  cases (gn G i).testBit j <;> cases (gn G j).testBit k <;> cases (gn G i).testBit k <;> cases s.testBit i <;> cases s.testBit j <;> cases s.testBit k <;> rfl
theorem sw_oddN {G : List Nat} (hG : Gr G) (s : Nat) : oddN (swL G s) = oddN G := by
  unfold oddN c3
  rw [swL_length]
  refine sumTo_congr fun a ha => ?_
  unfold c2
  refine sumTo_congr fun b hb => ?_
  unfold c1
  refine sumTo_congr fun c hc => ?_
  rw [sw_odd hG s (by omega) (by omega) (by omega)]

/-- The sets of three are odd alike, up to where the loops have come. -/
def al1 (G H : List Nat) (i j k : Nat) : Bool := (List.range k).all fun c => oddT G i j c == oddT H i j c
def al2 (G H : List Nat) (i j : Nat) : Bool := (List.range j).all fun b => al1 G H i b b
def al3 (G H : List Nat) (i : Nat) : Bool := (List.range i).all fun a => al2 G H a a
theorem al1_step (G H : List Nat) (i j k : Nat) : al1 G H i j (k + 1) = (al1 G H i j k && (oddT G i j k == oddT H i j k)) := by simp [al1, List.range_succ]
theorem al2_step (G H : List Nat) (i j : Nat) : al2 G H i (j + 1) = (al2 G H i j && al1 G H i j j) := by simp [al2, List.range_succ]
theorem al3_step (G H : List Nat) (i : Nat) : al3 G H (i + 1) = (al3 G H i && al2 G H i i) := by simp [al3, List.range_succ]
theorem al3_all {G H : List Nat} {n : Nat} : al3 G H n = true ↔ ∀ i j k, i < n → j < i → k < j → oddT G i j k = oddT H i j k := by
  simp only [al3, al2, al1, List.all_eq_true, List.mem_range, beq_iff_eq]
  constructor
  · intro h i j k hi hj hk; exact h i hi j hj k hk
  · intro h i hi j hj k hk; exact h i j k hi hj hk

theorem oddT_first {G : List Nat} {i j : Nat} (b0 : (gn G j).testBit 0 = (gn G 0).testBit j) (b1 : (gn G i).testBit 0 = (gn G 0).testBit i) :
    oddT G i j 0 = (((gn G i).testBit j != (gn G 0).testBit j) != (gn G 0).testBit i) := by
  unfold oddT; rw [b0, b1]
/-- A graph is another one switched exactly if they have the same odd sets of three. -/
theorem same_iff {G H : List Nat} (hG : Gr G) (hH : Gr H) (hl : G.length = H.length) : al3 G H G.length = true ↔ swL G (trySet G H) = H := by
  rw [al3_all]
  constructor
  · intro h
    rw [try_sw hG]
    have key : ∀ i j, i < G.length → j < i → (gn (swL G (gn G 0 ^^^ gn H 0)) i).testBit j = (gn H i).testBit j := fun i j hi hj => by
      rw [sw_bit hG hi (by omega), xor_bits, xor_bits]
      have gi := (hG.2.2 0 hG.1).2.2 i hi
      have hi' := (hH.2.2 0 hH.1).2.2 i (by omega)
      have gj := (hG.2.2 0 hG.1).2.2 j (by omega)
      have hj' := (hH.2.2 0 hH.1).2.2 j (by omega)
      by_cases hj0 : j = 0
      · subst hj0
        have g0 := (hG.2.2 0 hG.1).2.1
        have h0 := (hH.2.2 0 hH.1).2.1
        rw [g0, h0, gi, hi']
        cases (gn G i).testBit 0 <;> cases (gn H i).testBit 0 <;> rfl
      · have t := h i j 0 hi hj (by omega)
        rw [oddT_first gj.symm gi.symm, oddT_first hj'.symm hi'.symm] at t
        revert t
        cases (gn G i).testBit j <;> cases (gn G 0).testBit j <;> cases (gn G 0).testBit i <;> cases (gn H i).testBit j <;> cases (gn H 0).testBit j <;> cases (gn H 0).testBit i <;> decide
    have hs := sw_gr hG (gn G 0 ^^^ gn H 0)
    refine gn_ext (by rw [swL_length, hl]) fun i hi => ?_
    rw [swL_length] at hi
    refine nat_bits_ext (n := G.length) (sw_lt hG hi) (by rw [hl]; exact (hH.2.2 i (by omega)).1) fun j hj => ?_
    rcases Nat.lt_trichotomy j i with h1 | h1 | h1
    · exact key i j hi h1
    · subst h1
      have e := (hs.2.2 j (by rw [swL_length]; exact hi)).2.1
      rw [e, (hH.2.2 j (by omega)).2.1]
    · have e := (hs.2.2 i (by rw [swL_length]; exact hi)).2.2 j (by rw [swL_length]; exact hj)
      rw [e, (hH.2.2 i (by omega)).2.2 j (by omega)]
      exact key j i hj h1
  · intro h i j k hi hj hk
    have := sw_odd hG (trySet G H) (i := i) (j := j) (k := k) hi (by omega) (by omega)
    rw [h] at this; exact this.symm
/-- The set that Same tells lacks the last node. -/
theorem try_top {G H : List Nat} (hG : Gr G) (hH : Gr H) (hl : G.length = H.length) : trySet G H < 2 ^ (G.length - 1) := by
  have h1 := xor_lt hG hH hl
  have h2 : andn (full G.length) (gn G 0 ^^^ gn H 0) < 2 ^ G.length := andn_lt (full_lt_pow _)
  have hn := hG.1
  have low : ∀ x, x < 2 ^ G.length → x.testBit (G.length - 1) = false → x < 2 ^ (G.length - 1) := fun x hx hb => by
    apply Nat.lt_pow_two_of_testBit
    intro i hi
    by_cases e : i = G.length - 1
    · rw [e]; exact hb
    · exact Nat.testBit_lt_two_pow (Nat.lt_of_lt_of_le hx (Nat.pow_le_pow_right (by omega) (by omega)))
  unfold trySet
  cases e : (gn G 0 ^^^ gn H 0).testBit (G.length - 1) with
  | false => exact Nat.lt_of_le_of_lt (Nat.min_le_left _ _) (low _ h1 e)
  | true =>
    refine Nat.lt_of_le_of_lt (Nat.min_le_right _ _) (low _ h2 ?_)
    rw [andn_bit, e]; simp
theorem and_top {x m : Nat} (h : x < 2 ^ m) : x &&& 2 ^ m = 0 := by
  rw [nat_bit, Nat.div_eq_of_lt h]; simp
end Go.Proofs.Ytijnpcehjnaaiaa
