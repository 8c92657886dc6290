/- The spectrum of some numbers, and the reason against them: plain, no program in sight. -/
import Derived.RowKit
namespace Go.Proofs.Ytijnpcehjnaaiaa

/-- Numbers that may be asked about. -/
def Ask (N K L M : Int) : Prop := 4 ≤ N ∧ N ≤ 100 ∧ 1 ≤ K ∧ K ≤ N - 2 ∧ 0 ≤ L ∧ L < K ∧ 0 ≤ M ∧ M ≤ K
instance (N K L M : Int) : Decidable (Ask N K L M) := by unfold Ask; infer_instance

/-- The whole solutions of the equation. -/
def Roots (K L M R S : Int) : Prop := S < R ∧ R + S = L - M ∧ R * S = M - K

theorem roots_bounds {N K L M R S : Int} (ha : Ask N K L M) (h : Roots K L M R S) : 0 ≤ R ∧ R ≤ 98 ∧ -98 ≤ S ∧ S ≤ 0 := by
  obtain ⟨a1, a2, a3, a4, a5, a6, a7, a8⟩ := ha
  obtain ⟨h1, h2, h3⟩ := h
  have s0 : S ≤ 0 := by
    apply Int.not_lt.1; intro hs
    have := Int.mul_pos (show 0 < R by omega) hs
    omega
  have r0 : 0 ≤ R := by
    apply Int.not_lt.1; intro hr
    have := Int.mul_pos_of_neg_of_neg hr (show S < 0 by omega)
    omega
  have e : R * -S = K - M := by rw [Int.mul_neg, h3]; omega
  refine ⟨r0, ?_, ?_, s0⟩
  · by_cases hS : S = 0
    · omega
    · have := Int.mul_le_mul_of_nonneg_left (show 1 ≤ -S by omega) r0
      omega
  · by_cases hR : R = 0
    · omega
    · have := Int.mul_le_mul_of_nonneg_right (show 1 ≤ R by omega) (show 0 ≤ -S by omega)
      omega

/-- The discriminant. -/
def Dsc (K L M : Int) : Int := (L - M) * (L - M) + 4 * (K - M)

theorem roots_dsc {K L M R S : Int} (h : Roots K L M R S) : (R - S) * (R - S) = Dsc K L M := by
  obtain ⟨_, h2, h3⟩ := h
  have e : (R - S) * (R - S) = (R + S) * (R + S) - 4 * (R * S) := by
    simp only [Int.sub_mul, Int.mul_sub, Int.add_mul, Int.mul_add, Int.mul_comm S R]; omega
  rw [e, h2, h3]; unfold Dsc; omega

theorem dsc_roots {N K L M d : Int} (ha : Ask N K L M) (hd : 0 ≤ d) (h : d * d = Dsc K L M) : ∃ R S, Roots K L M R S ∧ L - M + d = 2 * R ∧ L - M - d = 2 * S := by
  obtain ⟨a1, a2, a3, a4, a5, a6, a7, a8⟩ := ha
  unfold Dsc at h
  generalize hu : L - M = u at *
  have hpar : (d - u) % 2 = 0 := by
    have e1 : (d * d) % 2 = (u * u) % 2 := by omega
    rw [Int.mul_emod, Int.mul_emod u] at e1
    have c1 : d % 2 = 0 ∨ d % 2 = 1 := by omega
    have c2 : u % 2 = 0 ∨ u % 2 = 1 := by omega
    rcases c1 with c1 | c1 <;> rcases c2 with c2 | c2 <;> rw [c1, c2] at e1 <;> first | omega | (exact absurd e1 (by decide))
  have hdp : 0 < d := by
    rcases Int.lt_or_eq_of_le hd with h0 | h0
    · exact h0
    · exfalso
      subst h0
      have hq : 0 ≤ u * u := by
        rcases Int.le_total 0 u with q | q
        · exact Int.mul_nonneg q q
        · exact Int.mul_nonneg_of_nonpos_of_nonpos q q
      simp at h
      have hu0 : u * u = 0 := by omega
      have : u = 0 := by rcases Int.mul_eq_zero.1 hu0 with q | q <;> exact q
      omega
  refine ⟨(u + d) / 2, (u - d) / 2, ⟨by omega, by omega, ?_⟩, by omega, by omega⟩
  obtain ⟨x, hx⟩ : ∃ x, x = (u + d) / 2 := ⟨_, rfl⟩
  obtain ⟨y, hy⟩ : ∃ y, y = (u - d) / 2 := ⟨_, rfl⟩
  rw [← hx, ← hy]
  have ex : u = x + y := by omega
  have ed : d = x - y := by omega
  rw [ex, ed] at h
  simp only [Int.sub_mul, Int.mul_sub, Int.add_mul, Int.mul_add, Int.mul_comm y x] at h
  omega

theorem roots_unique {K L M R S r s : Int} (h : Roots K L M R S) (hr : s = L - M - r) (hs : s ≤ r) (he : r * s = M - K) : r = R ∧ s = S := by
  obtain ⟨h1, h2, h3⟩ := h
  have e : (r - R) * (r - S) = 0 := by
    have hs' : s = R + S - r := by omega
    rw [hs', Int.mul_sub, Int.mul_add] at he
    simp only [Int.sub_mul, Int.mul_sub, Int.mul_comm R r]
    omega
  rcases Int.mul_eq_zero.1 e with q | q
  · constructor <;> omega
  · exfalso; omega

/-- The solutions, or that there are none. -/
def RO (K L M : Int) : Option (Int × Int) → Prop
  | none => ¬ ∃ R S, Roots K L M R S
  | some (R, S) => Roots K L M R S
theorem ro_ex (K L M : Int) : ∃ o, RO K L M o := by
  by_cases h : ∃ R S, Roots K L M R S
  · obtain ⟨R, S, h⟩ := h; exact ⟨some (R, S), h⟩
  · exact ⟨none, h⟩

/-! ### the spectrum -/
def topF (N K S : Int) : Int := -K - (N - 1) * S
def fF (N K R S : Int) : Int := (topF N K S).tdiv (R - S)
def wholeB (N K R S : Int) : Bool := (topF N K S).tmod (R - S) == 0
def okS (N K R S : Int) : Bool := wholeB N K R S && decide (0 ≤ fF N K R S) && decide (fF N K R S ≤ N - 1)

theorem top_eq (N K R S f : Int) : (K + f * R + (N - 1 - f) * S = 0) ↔ f * (R - S) = topF N K S := by
  unfold topF
  rw [Int.sub_mul, Int.mul_sub]
  omega

theorem okS_iff {N K R S : Int} (h : S < R) : okS N K R S = true ↔ ∃ f, 0 ≤ f ∧ f ≤ N - 1 ∧ f * (R - S) = topF N K S := by
  unfold okS wholeB fF
  simp only [Bool.and_eq_true, beq_iff_eq, decide_eq_true_eq]
  constructor
  · rintro ⟨⟨h1, h2⟩, h3⟩
    refine ⟨_, h2, h3, ?_⟩
    have := Int.mul_tdiv_add_tmod (topF N K S) (R - S)
    rw [Int.mul_comm]
    omega
  · rintro ⟨f, h1, h2, h3⟩
    rw [← h3]
    have hd : R - S ≠ 0 := by omega
    rw [Int.mul_tdiv_cancel _ hd, Int.mul_tmod_left]
    exact ⟨⟨rfl, h1⟩, h2⟩
theorem fF_of {N K R S f : Int} (h : S < R) (he : f * (R - S) = topF N K S) : fF N K R S = f := by
  unfold fF; rw [← he]; exact Int.mul_tdiv_cancel _ (by omega)
theorem f_unique {R S f g t : Int} (h : S < R) (h1 : f * (R - S) = t) (h2 : g * (R - S) = t) : f = g :=
  Int.eq_of_mul_eq_mul_right (show R - S ≠ 0 by omega) (h1.trans h2.symm)

/-! ### sums of two squares -/
def sq2 (n : Nat) : Bool := (List.range (n + 1)).any fun a => (List.range (n + 1)).any fun b => a * a + b * b == n

end Go.Proofs.Ytijnpcehjnaaiaa
