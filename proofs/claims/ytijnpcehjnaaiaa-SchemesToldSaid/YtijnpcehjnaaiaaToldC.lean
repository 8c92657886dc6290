/- The numbers of a graph have no reason against them: the finite rest. -/
import Derived.Test.YtijnpcehjnaaiaaToldB
import Derived.Test.YtijnpcehjnaaiaaLDescend
namespace Go.Proofs.Ytijnpcehjnaaiaa
open Go.RowKit

def condB (n k l m : Nat) : Bool := (k * k + (1 + k) * m == k + k * l + n * m) && decide (1 ≤ k) && decide (k + 2 ≤ n) && ((n * k) % 2 == 0) && ((n * (k * l)) % 6 == 0) && (!decide (l + 2 ≤ k) || decide (2 * l + 3 ≤ k + m)) && (!(l == 0 && decide (m + 2 ≤ k)) || decide (2 * m + 1 ≤ k)) && (!(m == 0) || (n % (k + 1) == 0))
theorem num_cond {G : List Nat} (hG : Gr G) {k l m : Nat} (hn : Num G k l m) : condB G.length k l m = true := by
  unfold condB
  simp only [Bool.and_eq_true, Bool.or_eq_true, Bool.not_eq_true', beq_iff_eq, decide_eq_true_eq, decide_eq_false_iff_not]
  refine ⟨⟨⟨⟨⟨⟨⟨num_c1 hG hn, hn.1⟩, hn.2.1⟩, ?_⟩, ?_⟩, ?_⟩, ?_⟩, ?_⟩
  · obtain ⟨t, ht⟩ := num_c2 hG hn; omega
  · obtain ⟨t, ht⟩ := num_c4 hG hn; omega
  · by_cases h : l + 2 ≤ k
    · exact .inr (num_c5 hG hn h)
    · exact .inl h
  · by_cases h : l = 0 ∧ m + 2 ≤ k
    · obtain ⟨rfl, h⟩ := h
      exact .inr (num_c7 hG hn h)
    · refine .inl ?_
      cases q : (l == 0 && decide (m + 2 ≤ k)) with
      | false => rfl
      | true =>
        rw [Bool.and_eq_true, beq_iff_eq, decide_eq_true_eq] at q
        exact absurd q h
  · by_cases h : m = 0
    · subst h
      obtain ⟨t, ht⟩ := num_c6 hG hn
      refine .inr ?_
      rw [ht]; exact Nat.mul_mod_left t (k + 1)
    · exact .inl (by simpa using h)
def toldB (n k l m : Nat) : Bool := !(condB n k l m && decide (m ≤ k) && decide (2 * k + 2 ≤ n + m) && decide (2 * k ≤ n + l) && condB n (n - k - 1) (n + m - 2 - 2 * k) (n + l - 2 * k)) || (fit n k l m && decide (l < k) && decide (4 ≤ n))
theorem told_all : (List.range 17).all (fun n => (List.range 16).all fun k => (List.range 17).all fun l => (List.range 17).all fun m => toldB n k l m) = true := by decide +kernel
theorem num_m {G : List Nat} (hG : Gr G) {k l m : Nat} (hn : Num G k l m) : m ≤ k ∧ l ≤ 16 ∧ m ≤ 16 := by
  obtain ⟨h1, h2⟩ := num_le hG hn
  refine ⟨?_, h1, h2⟩
  obtain ⟨i, j, hi, hj, hb⟩ := hG.gap (hn.2.2.1 0 (by have := hG.1; omega)) hn.2.1
  rw [← hn.2.2.2.2 i j hi hj hb, ← hn.2.2.1 i hi, ← and_sum hG hi, ← row_sum hG hi]
  exact sumTo_le fun c _ => by cases (gn G i).testBit c <;> cases (gn G j).testBit c <;> simp [b1]
/-- There is no reason against the numbers of a graph. -/
theorem num_fit {G : List Nat} (hG : Gr G) {k l m : Nat} (hn : Num G k l m) : fit G.length k l m = true ∧ Ask G.length k l m := by
  obtain ⟨h1, h2, h3⟩ := oth_num hG hn
  have c1 := num_cond hG hn
  have c2 := num_cond (oth_gr hG) h3
  rw [othr_length] at c2
  obtain ⟨hmk, hl, hm⟩ := num_m hG hn
  have hk := hn.2.1
  have hn16 := hG.2.1
  have a := told_all
  rw [List.all_eq_true] at a
  have a := a G.length (List.mem_range.2 (by omega))
  rw [List.all_eq_true] at a
  have a := a k (List.mem_range.2 (by omega))
  rw [List.all_eq_true] at a
  have a := a l (List.mem_range.2 (by omega))
  rw [List.all_eq_true] at a
  have a := a m (List.mem_range.2 (by omega))
  unfold toldB at a
  rw [c1, c2] at a
  simp only [hmk, h1, h2, decide_true, Bool.and_true, Bool.not_true, Bool.false_or, Bool.and_eq_true, decide_eq_true_eq] at a
  obtain ⟨⟨a1, a2⟩, a3⟩ := a
  refine ⟨a1, ?_⟩
  unfold Ask
  have := hn.1
  omega
end Go.Proofs.Ytijnpcehjnaaiaa
