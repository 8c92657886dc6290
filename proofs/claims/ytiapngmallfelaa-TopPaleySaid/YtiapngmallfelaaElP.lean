/- Elimination: plain facts. -/
import Derived.Test.YtiapngmallfelaaPalP
import Derived.Test.YtiapngmallfelaaMat
namespace Go.Proofs.Ytiapngmallfelaa
open Go.RowKit

theorem ent_tab (n : Nat) (F : Nat → Nat → Int) {i j : Nat} (hi : i < n) (hj : j < n) : ent ((List.range n).map fun i => (List.range n).map fun j => F i j) i j = F i j := by
  simp [ent, hi, hj]
theorem ent_step {n : Nat} {M : List (List Int)} {last : Int} {k i j : Nat} (hi : i < n) (hj : j < n) : ent (stepM n M last k) i j = if k < i ∧ k < j then stepE M last k i j else ent M i j := by
  unfold stepM; rw [ent_tab n _ hi hj]
  by_cases h : k < i ∧ k < j
  · rw [if_pos h, if_pos (by simpa using h)]
  · rw [if_neg h, if_neg (by simpa using h)]
theorem ent_swap {n : Nat} {M : List (List Int)} (hl : M.length = n) {k p i j : Nat} (hk : k < n) (hp : k + p < n) (hi : i < n) : ent (swapR M k p) i j = ent M (sw2 k (k + p) i) j := by
  unfold ent swapR sw2
  simp only [List.getD_eq_getElem?_getD]
  by_cases e1 : i = k + p
  · subst e1
    rw [List.getElem?_set_self (by rw [List.length_set]; omega)]
    by_cases e2 : k + p = k
    · have : p = 0 := by omega
      subst this; simp
    · rw [if_neg e2, if_pos rfl]; rfl
  · rw [List.getElem?_set_ne (by omega)]
    by_cases e2 : i = k
    · subst e2; rw [List.getElem?_set_self (by omega), if_pos rfl]; rfl
    · rw [List.getElem?_set_ne (by omega), if_neg e2, if_neg e1]
theorem el_len (n : Nat) (h : List Nat) : ∀ k, (elTo n h k).M.length = n := by
  intro k; induction k with
  | zero => simp [elTo, el0]
  | succ k ih =>
    show (elStep n (elTo n h k) k).M.length = n
    unfold elStep
    split
    · exact ih
    · simp [stepM]
/-- What one step does, if it is all right. -/
theorem el_step {n : Nat} {h : List Nat} {k : Nat} (hok : (elTo n h (k + 1)).ok = true) : ∃ p, piv n (elTo n h k).M k = some p ∧ (elTo n h k).ok = true ∧
    (elTo n h (k + 1)).M = stepM n (if p == 0 then (elTo n h k).M else swapR (elTo n h k).M k p) (elTo n h k).last k ∧
    (elTo n h (k + 1)).sign = (if p == 0 then (elTo n h k).sign else -(elTo n h k).sign) ∧ (elTo n h (k + 1)).last = ent (elTo n h (k + 1)).M k k ∧
    bigB n (elTo n h (k + 1)).M = true ∧ (elTo n h (k + 1)).last ≠ 0 := by
  have e : elTo n h (k + 1) = elStep n (elTo n h k) k := rfl
  rw [e] at hok ⊢
  generalize elTo n h k = S at *
  unfold elStep at hok ⊢
  cases hp : piv n S.M k with
  | none => rw [hp] at hok; simp at hok
  | some p =>
    rw [hp] at hok
    simp only [Bool.and_eq_true, bne_iff_ne] at hok
    exact ⟨p, rfl, hok.1.1, rfl, rfl, rfl, hok.1.2, hok.2⟩
theorem el_ok {n : Nat} {h : List Nat} : ∀ d k, (elTo n h (k + d)).ok = true → (elTo n h k).ok = true := by
  intro d; induction d with
  | zero => intro k h; exact h
  | succ d ih => intro k hk; obtain ⟨_, _, h1, _⟩ := el_step (k := k + d) hk; exact ih k h1
theorem el_big {n : Nat} {h : List Nat} : ∀ k, (elTo n h k).ok = true → (∀ i j, i < n → j < n → -100000000 ≤ ent (elTo n h k).M i j ∧ ent (elTo n h k).M i j ≤ 100000000) ∧
    (elTo n h k).last ≠ 0 ∧ -100000000 ≤ (elTo n h k).last ∧ (elTo n h k).last ≤ 100000000 ∧ ((elTo n h k).sign = 1 ∨ (elTo n h k).sign = -1) ∨ n ≤ k := by
  intro k; induction k with
  | zero =>
    intro _
    left
    refine ⟨fun i j hi hj => ?_, by show (1 : Int) ≠ 0; decide, by show (-100000000 : Int) ≤ 1; decide, by show (1 : Int) ≤ 100000000; decide, .inl rfl⟩
    show -100000000 ≤ ent ((List.range n).map fun i => (List.range n).map fun j => if (gn h i).testBit j then -1 else 1) i j ∧ ent ((List.range n).map fun i => (List.range n).map fun j => if (gn h i).testBit j then -1 else 1) i j ≤ 100000000
    rw [ent_tab n _ hi hj]
    split <;> omega
  | succ k ih =>
    intro hok
    by_cases hk : n ≤ k + 1
    · exact .inr hk
    left
    obtain ⟨p, h1, h2, h3, h4, h5, h6, h7⟩ := el_step hok
    have hb : ∀ i j, i < n → j < n → -100000000 ≤ ent (elTo n h (k + 1)).M i j ∧ ent (elTo n h (k + 1)).M i j ≤ 100000000 := fun i j hi hj => by
      unfold bigB at h6
      rw [List.all_eq_true] at h6
      have := h6 i (List.mem_range.2 hi)
      rw [List.all_eq_true] at this
      have := this j (List.mem_range.2 hj)
      simpa using this
    rcases ih h2 with ⟨_, _, _, _, hs⟩ | hk2
    · refine ⟨hb, h7, ?_, ?_, ?_⟩
      · rw [h5]; exact (hb k k (by omega) (by omega)).1
      · rw [h5]; exact (hb k k (by omega) (by omega)).2
      · rw [h4]; split <;> rcases hs with hs | hs <;> rw [hs] <;> simp
    · omega
theorem piv_some {n : Nat} {M : List (List Int)} {k p : Nat} (h : piv n M k = some p) : p < n - k ∧ ent M (k + p) k ≠ 0 ∧ ∀ r, r < p → ent M (k + r) k = 0 := by
  unfold piv at h
  have h1 := List.find?_some h
  have h2 := List.mem_of_find?_eq_some h
  refine ⟨List.mem_range.1 h2, by simpa using h1, fun r hr => ?_⟩
  rw [List.find?_range_eq_some] at h
  have := h.2.2 r hr
  simpa using this
end Go.Proofs.Ytiapngmallfelaa
