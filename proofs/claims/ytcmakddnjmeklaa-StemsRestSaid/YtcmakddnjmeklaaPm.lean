/- Chapter 9, plain: minors of what flows. -/
import Derived.Test.YtcmakddnjmeklaaPk
namespace Go.Proofs.Ytcmakddnjmeklaa
open Go.RowKit

/-- Each state reaches all. -/
def Irr (K : Nat) (q : Nat → Nat → Int) : Prop := ∀ T : Nat → Prop, (∃ s, s < K ∧ T s) → (∀ u v, u < K → v < K → T u → 0 < q u v → T v) → ∀ i, i < K → T i
theorem irr_cut {K : Nat} {q : Nat → Nat → Int} (h : Irr K q) (T : Nat → Prop) (hs : ∃ s, s < K ∧ T s) {r : Nat} (hr : r < K) (hnr : ¬ T r) : ∃ u v, u < K ∧ v < K ∧ T u ∧ ¬ T v ∧ 0 < q u v := by
  refine Classical.byContradiction fun hn => hnr (h T hs (fun u v hu hv hT hp => ?_) r hr)
  exact Classical.byContradiction fun hv2 => hn ⟨u, v, hu, hv, hT, hv2, hp⟩
theorem mnr_null {K : Nat} {M : List (List Int)} {q : Nat → Nat → Int} {S : Nat → Int} (h : FlowM K M q S) (h1 : 1 ≤ K) (h4 : K ≤ 4) {j : Nat} (hj : j < K) : sumN (fun i => mnr K M i * q i j) K = mnr K M j * S j := by
  have hk : K = 1 ∨ K = 2 ∨ K = 3 ∨ K = 4 := by omega
  rcases hk with rfl | rfl | rfl | rfl
  · have s := h.sum j hj
    rw [s]
    clear s
    simp only [sumN]
    obtain rfl : j = 0 := by omega
    simp [mnr1]
  · have s := h.sum j hj
    rw [s]
    clear s
    simp only [sumN]
    simp only [mnr2_0 h, mnr2_1 h]
    have HF := h
    clear h
    have hk : j = 0 ∨ j = 1 := by omega
    rcases hk with rfl | rfl
    · rw [mnr2_0 HF]
      grind
    · rw [mnr2_1 HF]
      grind
  · have s := h.sum j hj
    rw [s]
    clear s
    simp only [sumN]
    simp only [mnr3_0 h, mnr3_1 h, mnr3_2 h]
    have HF := h
    clear h
    have hk : j = 0 ∨ j = 1 ∨ j = 2 := by omega
    rcases hk with rfl | rfl | rfl
    · rw [mnr3_0 HF]
      unfold tr2; grind
    · rw [mnr3_1 HF]
      unfold tr2; grind
    · rw [mnr3_2 HF]
      unfold tr2; grind
  · have s := h.sum j hj
    rw [s]
    clear s
    simp only [sumN]
    simp only [mnr4_0 h, mnr4_1 h, mnr4_2 h, mnr4_3 h]
    have HF := h
    clear h
    have hk : j = 0 ∨ j = 1 ∨ j = 2 ∨ j = 3 := by omega
    rcases hk with rfl | rfl | rfl | rfl
    · rw [mnr4_0 HF]
      unfold tr3; grind
    · rw [mnr4_1 HF]
      unfold tr3; grind
    · rw [mnr4_2 HF]
      unfold tr3; grind
    · rw [mnr4_3 HF]
      unfold tr3; grind
theorem mnr_pos {K : Nat} {M : List (List Int)} {q : Nat → Nat → Int} {S : Nat → Int} (h : FlowM K M q S) (hi : Irr K q) (h1 : 1 ≤ K) (h4 : K ≤ 4) {i : Nat} (hj : i < K) : 0 < mnr K M i := by
  have hk : K = 1 ∨ K = 2 ∨ K = 3 ∨ K = 4 := by omega
  rcases hk with rfl | rfl | rfl | rfl
  · obtain rfl : i = 0 := by omega
    rw [mnr1]; omega
  · have nn := fun a b ha hb => h.nn a b ha hb
    have hk : i = 0 ∨ i = 1 := by omega
    rcases hk with rfl | rfl
    · rw [mnr2_0 h]
      have c0 : 0 < (q 1 0) := by
        obtain ⟨u, v, hu, hv, hT, hnT, hp⟩ := irr_cut hi (fun x => x = 1) ⟨1, by omega, by simp⟩ (r := 0) (by omega) (by omega)
        rcases hT with rfl
        all_goals
          have hv2 : v = 0 := by omega
          rcases hv2 with rfl <;> simp [hp]
      exact c0
    · rw [mnr2_1 h]
      have c0 : 0 < (q 0 1) := by
        obtain ⟨u, v, hu, hv, hT, hnT, hp⟩ := irr_cut hi (fun x => x = 0) ⟨0, by omega, by simp⟩ (r := 1) (by omega) (by omega)
        rcases hT with rfl
        all_goals
          have hv2 : v = 1 := by omega
          rcases hv2 with rfl <;> simp [hp]
      exact c0
  · have nn := fun a b ha hb => h.nn a b ha hb
    have hk : i = 0 ∨ i = 1 ∨ i = 2 := by omega
    rcases hk with rfl | rfl | rfl
    · rw [mnr3_0 h]
      refine tr2_pos (nn 1 0 (by omega) (by omega)) (nn 2 0 (by omega) (by omega)) (nn 1 2 (by omega) (by omega)) (nn 2 1 (by omega) (by omega)) ?_ ?_ ?_
      · obtain ⟨u, v, hu, hv, hT, hnT, hp⟩ := irr_cut hi (fun x => x = 1) ⟨1, by omega, by simp⟩ (r := 0) (by omega) (by omega)
        rcases hT with rfl
        all_goals
          have hv2 : v = 0 ∨ v = 2 := by omega
          rcases hv2 with rfl | rfl <;> simp [hp]
      · obtain ⟨u, v, hu, hv, hT, hnT, hp⟩ := irr_cut hi (fun x => x = 2) ⟨2, by omega, by simp⟩ (r := 0) (by omega) (by omega)
        rcases hT with rfl
        all_goals
          have hv2 : v = 0 ∨ v = 1 := by omega
          rcases hv2 with rfl | rfl <;> simp [hp]
      · obtain ⟨u, v, hu, hv, hT, hnT, hp⟩ := irr_cut hi (fun x => x = 1 ∨ x = 2) ⟨1, by omega, by simp⟩ (r := 0) (by omega) (by omega)
        rcases hT with rfl | rfl
        all_goals
          have hv2 : v = 0 := by omega
          rcases hv2 with rfl <;> simp [hp]
    · rw [mnr3_1 h]
      refine tr2_pos (nn 0 1 (by omega) (by omega)) (nn 2 1 (by omega) (by omega)) (nn 0 2 (by omega) (by omega)) (nn 2 0 (by omega) (by omega)) ?_ ?_ ?_
      · obtain ⟨u, v, hu, hv, hT, hnT, hp⟩ := irr_cut hi (fun x => x = 0) ⟨0, by omega, by simp⟩ (r := 1) (by omega) (by omega)
        rcases hT with rfl
        all_goals
          have hv2 : v = 1 ∨ v = 2 := by omega
          rcases hv2 with rfl | rfl <;> simp [hp]
      · obtain ⟨u, v, hu, hv, hT, hnT, hp⟩ := irr_cut hi (fun x => x = 2) ⟨2, by omega, by simp⟩ (r := 1) (by omega) (by omega)
        rcases hT with rfl
        all_goals
          have hv2 : v = 0 ∨ v = 1 := by omega
          rcases hv2 with rfl | rfl <;> simp [hp]
      · obtain ⟨u, v, hu, hv, hT, hnT, hp⟩ := irr_cut hi (fun x => x = 0 ∨ x = 2) ⟨0, by omega, by simp⟩ (r := 1) (by omega) (by omega)
        rcases hT with rfl | rfl
        all_goals
          have hv2 : v = 1 := by omega
          rcases hv2 with rfl <;> simp [hp]
    · rw [mnr3_2 h]
      refine tr2_pos (nn 0 2 (by omega) (by omega)) (nn 1 2 (by omega) (by omega)) (nn 0 1 (by omega) (by omega)) (nn 1 0 (by omega) (by omega)) ?_ ?_ ?_
      · obtain ⟨u, v, hu, hv, hT, hnT, hp⟩ := irr_cut hi (fun x => x = 0) ⟨0, by omega, by simp⟩ (r := 2) (by omega) (by omega)
        rcases hT with rfl
        all_goals
          have hv2 : v = 1 ∨ v = 2 := by omega
          rcases hv2 with rfl | rfl <;> simp [hp]
      · obtain ⟨u, v, hu, hv, hT, hnT, hp⟩ := irr_cut hi (fun x => x = 1) ⟨1, by omega, by simp⟩ (r := 2) (by omega) (by omega)
        rcases hT with rfl
        all_goals
          have hv2 : v = 0 ∨ v = 2 := by omega
          rcases hv2 with rfl | rfl <;> simp [hp]
      · obtain ⟨u, v, hu, hv, hT, hnT, hp⟩ := irr_cut hi (fun x => x = 0 ∨ x = 1) ⟨0, by omega, by simp⟩ (r := 2) (by omega) (by omega)
        rcases hT with rfl | rfl
        all_goals
          have hv2 : v = 2 := by omega
          rcases hv2 with rfl <;> simp [hp]
  · have nn := fun a b ha hb => h.nn a b ha hb
    have hk : i = 0 ∨ i = 1 ∨ i = 2 ∨ i = 3 := by omega
    rcases hk with rfl | rfl | rfl | rfl
    · rw [mnr4_0 h]
      refine tr3_pos (nn 1 0 (by omega) (by omega)) (nn 2 0 (by omega) (by omega)) (nn 3 0 (by omega) (by omega)) (nn 1 2 (by omega) (by omega)) (nn 1 3 (by omega) (by omega)) (nn 2 1 (by omega) (by omega)) (nn 2 3 (by omega) (by omega)) (nn 3 1 (by omega) (by omega)) (nn 3 2 (by omega) (by omega)) ?_ ?_ ?_ ?_ ?_ ?_ ?_
      · obtain ⟨u, v, hu, hv, hT, hnT, hp⟩ := irr_cut hi (fun x => x = 1) ⟨1, by omega, by simp⟩ (r := 0) (by omega) (by omega)
        rcases hT with rfl
        all_goals
          have hv2 : v = 0 ∨ v = 2 ∨ v = 3 := by omega
          rcases hv2 with rfl | rfl | rfl <;> simp [hp]
      · obtain ⟨u, v, hu, hv, hT, hnT, hp⟩ := irr_cut hi (fun x => x = 2) ⟨2, by omega, by simp⟩ (r := 0) (by omega) (by omega)
        rcases hT with rfl
        all_goals
          have hv2 : v = 0 ∨ v = 1 ∨ v = 3 := by omega
          rcases hv2 with rfl | rfl | rfl <;> simp [hp]
      · obtain ⟨u, v, hu, hv, hT, hnT, hp⟩ := irr_cut hi (fun x => x = 3) ⟨3, by omega, by simp⟩ (r := 0) (by omega) (by omega)
        rcases hT with rfl
        all_goals
          have hv2 : v = 0 ∨ v = 1 ∨ v = 2 := by omega
          rcases hv2 with rfl | rfl | rfl <;> simp [hp]
      · obtain ⟨u, v, hu, hv, hT, hnT, hp⟩ := irr_cut hi (fun x => x = 1 ∨ x = 2) ⟨1, by omega, by simp⟩ (r := 0) (by omega) (by omega)
        rcases hT with rfl | rfl
        all_goals
          have hv2 : v = 0 ∨ v = 3 := by omega
          rcases hv2 with rfl | rfl <;> simp [hp]
      · obtain ⟨u, v, hu, hv, hT, hnT, hp⟩ := irr_cut hi (fun x => x = 1 ∨ x = 3) ⟨1, by omega, by simp⟩ (r := 0) (by omega) (by omega)
        rcases hT with rfl | rfl
        all_goals
          have hv2 : v = 0 ∨ v = 2 := by omega
          rcases hv2 with rfl | rfl <;> simp [hp]
      · obtain ⟨u, v, hu, hv, hT, hnT, hp⟩ := irr_cut hi (fun x => x = 2 ∨ x = 3) ⟨2, by omega, by simp⟩ (r := 0) (by omega) (by omega)
        rcases hT with rfl | rfl
        all_goals
          have hv2 : v = 0 ∨ v = 1 := by omega
          rcases hv2 with rfl | rfl <;> simp [hp]
      · obtain ⟨u, v, hu, hv, hT, hnT, hp⟩ := irr_cut hi (fun x => x = 1 ∨ x = 2 ∨ x = 3) ⟨1, by omega, by simp⟩ (r := 0) (by omega) (by omega)
        rcases hT with rfl | rfl | rfl
        all_goals
          have hv2 : v = 0 := by omega
          rcases hv2 with rfl <;> simp [hp]
    · rw [mnr4_1 h]
      refine tr3_pos (nn 0 1 (by omega) (by omega)) (nn 2 1 (by omega) (by omega)) (nn 3 1 (by omega) (by omega)) (nn 0 2 (by omega) (by omega)) (nn 0 3 (by omega) (by omega)) (nn 2 0 (by omega) (by omega)) (nn 2 3 (by omega) (by omega)) (nn 3 0 (by omega) (by omega)) (nn 3 2 (by omega) (by omega)) ?_ ?_ ?_ ?_ ?_ ?_ ?_
      · obtain ⟨u, v, hu, hv, hT, hnT, hp⟩ := irr_cut hi (fun x => x = 0) ⟨0, by omega, by simp⟩ (r := 1) (by omega) (by omega)
        rcases hT with rfl
        all_goals
          have hv2 : v = 1 ∨ v = 2 ∨ v = 3 := by omega
          rcases hv2 with rfl | rfl | rfl <;> simp [hp]
      · obtain ⟨u, v, hu, hv, hT, hnT, hp⟩ := irr_cut hi (fun x => x = 2) ⟨2, by omega, by simp⟩ (r := 1) (by omega) (by omega)
        rcases hT with rfl
        all_goals
          have hv2 : v = 0 ∨ v = 1 ∨ v = 3 := by omega
          rcases hv2 with rfl | rfl | rfl <;> simp [hp]
      · obtain ⟨u, v, hu, hv, hT, hnT, hp⟩ := irr_cut hi (fun x => x = 3) ⟨3, by omega, by simp⟩ (r := 1) (by omega) (by omega)
        rcases hT with rfl
        all_goals
          have hv2 : v = 0 ∨ v = 1 ∨ v = 2 := by omega
          rcases hv2 with rfl | rfl | rfl <;> simp [hp]
      · obtain ⟨u, v, hu, hv, hT, hnT, hp⟩ := irr_cut hi (fun x => x = 0 ∨ x = 2) ⟨0, by omega, by simp⟩ (r := 1) (by omega) (by omega)
        rcases hT with rfl | rfl
        all_goals
          have hv2 : v = 1 ∨ v = 3 := by omega
          rcases hv2 with rfl | rfl <;> simp [hp]
      · obtain ⟨u, v, hu, hv, hT, hnT, hp⟩ := irr_cut hi (fun x => x = 0 ∨ x = 3) ⟨0, by omega, by simp⟩ (r := 1) (by omega) (by omega)
        rcases hT with rfl | rfl
        all_goals
          have hv2 : v = 1 ∨ v = 2 := by omega
          rcases hv2 with rfl | rfl <;> simp [hp]
      · obtain ⟨u, v, hu, hv, hT, hnT, hp⟩ := irr_cut hi (fun x => x = 2 ∨ x = 3) ⟨2, by omega, by simp⟩ (r := 1) (by omega) (by omega)
        rcases hT with rfl | rfl
        all_goals
          have hv2 : v = 0 ∨ v = 1 := by omega
          rcases hv2 with rfl | rfl <;> simp [hp]
      · obtain ⟨u, v, hu, hv, hT, hnT, hp⟩ := irr_cut hi (fun x => x = 0 ∨ x = 2 ∨ x = 3) ⟨0, by omega, by simp⟩ (r := 1) (by omega) (by omega)
        rcases hT with rfl | rfl | rfl
        all_goals
          have hv2 : v = 1 := by omega
          rcases hv2 with rfl <;> simp [hp]
    · rw [mnr4_2 h]
      refine tr3_pos (nn 0 2 (by omega) (by omega)) (nn 1 2 (by omega) (by omega)) (nn 3 2 (by omega) (by omega)) (nn 0 1 (by omega) (by omega)) (nn 0 3 (by omega) (by omega)) (nn 1 0 (by omega) (by omega)) (nn 1 3 (by omega) (by omega)) (nn 3 0 (by omega) (by omega)) (nn 3 1 (by omega) (by omega)) ?_ ?_ ?_ ?_ ?_ ?_ ?_
      · obtain ⟨u, v, hu, hv, hT, hnT, hp⟩ := irr_cut hi (fun x => x = 0) ⟨0, by omega, by simp⟩ (r := 2) (by omega) (by omega)
        rcases hT with rfl
        all_goals
          have hv2 : v = 1 ∨ v = 2 ∨ v = 3 := by omega
          rcases hv2 with rfl | rfl | rfl <;> simp [hp]
      · obtain ⟨u, v, hu, hv, hT, hnT, hp⟩ := irr_cut hi (fun x => x = 1) ⟨1, by omega, by simp⟩ (r := 2) (by omega) (by omega)
        rcases hT with rfl
        all_goals
          have hv2 : v = 0 ∨ v = 2 ∨ v = 3 := by omega
          rcases hv2 with rfl | rfl | rfl <;> simp [hp]
      · obtain ⟨u, v, hu, hv, hT, hnT, hp⟩ := irr_cut hi (fun x => x = 3) ⟨3, by omega, by simp⟩ (r := 2) (by omega) (by omega)
        rcases hT with rfl
        all_goals
          have hv2 : v = 0 ∨ v = 1 ∨ v = 2 := by omega
          rcases hv2 with rfl | rfl | rfl <;> simp [hp]
      · obtain ⟨u, v, hu, hv, hT, hnT, hp⟩ := irr_cut hi (fun x => x = 0 ∨ x = 1) ⟨0, by omega, by simp⟩ (r := 2) (by omega) (by omega)
        rcases hT with rfl | rfl
        all_goals
          have hv2 : v = 2 ∨ v = 3 := by omega
          rcases hv2 with rfl | rfl <;> simp [hp]
      · obtain ⟨u, v, hu, hv, hT, hnT, hp⟩ := irr_cut hi (fun x => x = 0 ∨ x = 3) ⟨0, by omega, by simp⟩ (r := 2) (by omega) (by omega)
        rcases hT with rfl | rfl
        all_goals
          have hv2 : v = 1 ∨ v = 2 := by omega
          rcases hv2 with rfl | rfl <;> simp [hp]
      · obtain ⟨u, v, hu, hv, hT, hnT, hp⟩ := irr_cut hi (fun x => x = 1 ∨ x = 3) ⟨1, by omega, by simp⟩ (r := 2) (by omega) (by omega)
        rcases hT with rfl | rfl
        all_goals
          have hv2 : v = 0 ∨ v = 2 := by omega
          rcases hv2 with rfl | rfl <;> simp [hp]
      · obtain ⟨u, v, hu, hv, hT, hnT, hp⟩ := irr_cut hi (fun x => x = 0 ∨ x = 1 ∨ x = 3) ⟨0, by omega, by simp⟩ (r := 2) (by omega) (by omega)
        rcases hT with rfl | rfl | rfl
        all_goals
          have hv2 : v = 2 := by omega
          rcases hv2 with rfl <;> simp [hp]
    · rw [mnr4_3 h]
      refine tr3_pos (nn 0 3 (by omega) (by omega)) (nn 1 3 (by omega) (by omega)) (nn 2 3 (by omega) (by omega)) (nn 0 1 (by omega) (by omega)) (nn 0 2 (by omega) (by omega)) (nn 1 0 (by omega) (by omega)) (nn 1 2 (by omega) (by omega)) (nn 2 0 (by omega) (by omega)) (nn 2 1 (by omega) (by omega)) ?_ ?_ ?_ ?_ ?_ ?_ ?_
      · obtain ⟨u, v, hu, hv, hT, hnT, hp⟩ := irr_cut hi (fun x => x = 0) ⟨0, by omega, by simp⟩ (r := 3) (by omega) (by omega)
        rcases hT with rfl
        all_goals
          have hv2 : v = 1 ∨ v = 2 ∨ v = 3 := by omega
          rcases hv2 with rfl | rfl | rfl <;> simp [hp]
      · obtain ⟨u, v, hu, hv, hT, hnT, hp⟩ := irr_cut hi (fun x => x = 1) ⟨1, by omega, by simp⟩ (r := 3) (by omega) (by omega)
        rcases hT with rfl
        all_goals
          have hv2 : v = 0 ∨ v = 2 ∨ v = 3 := by omega
          rcases hv2 with rfl | rfl | rfl <;> simp [hp]
      · obtain ⟨u, v, hu, hv, hT, hnT, hp⟩ := irr_cut hi (fun x => x = 2) ⟨2, by omega, by simp⟩ (r := 3) (by omega) (by omega)
        rcases hT with rfl
        all_goals
          have hv2 : v = 0 ∨ v = 1 ∨ v = 3 := by omega
          rcases hv2 with rfl | rfl | rfl <;> simp [hp]
      · obtain ⟨u, v, hu, hv, hT, hnT, hp⟩ := irr_cut hi (fun x => x = 0 ∨ x = 1) ⟨0, by omega, by simp⟩ (r := 3) (by omega) (by omega)
        rcases hT with rfl | rfl
        all_goals
          have hv2 : v = 2 ∨ v = 3 := by omega
          rcases hv2 with rfl | rfl <;> simp [hp]
      · obtain ⟨u, v, hu, hv, hT, hnT, hp⟩ := irr_cut hi (fun x => x = 0 ∨ x = 2) ⟨0, by omega, by simp⟩ (r := 3) (by omega) (by omega)
        rcases hT with rfl | rfl
        all_goals
          have hv2 : v = 1 ∨ v = 3 := by omega
          rcases hv2 with rfl | rfl <;> simp [hp]
      · obtain ⟨u, v, hu, hv, hT, hnT, hp⟩ := irr_cut hi (fun x => x = 1 ∨ x = 2) ⟨1, by omega, by simp⟩ (r := 3) (by omega) (by omega)
        rcases hT with rfl | rfl
        all_goals
          have hv2 : v = 0 ∨ v = 3 := by omega
          rcases hv2 with rfl | rfl <;> simp [hp]
      · obtain ⟨u, v, hu, hv, hT, hnT, hp⟩ := irr_cut hi (fun x => x = 0 ∨ x = 1 ∨ x = 2) ⟨0, by omega, by simp⟩ (r := 3) (by omega) (by omega)
        rcases hT with rfl | rfl | rfl
        all_goals
          have hv2 : v = 3 := by omega
          rcases hv2 with rfl <;> simp [hp]
theorem mnr_le {K : Nat} {M : List (List Int)} {q : Nat → Nat → Int} {S : Nat → Int} (h : FlowM K M q S) (h1 : 1 ≤ K) (h4 : K ≤ 4) (hS : ∀ i, i < K → S i ≤ 12) {i : Nat} (hj : i < K) : mnr K M i ≤ 1728 := by
  have hk : K = 1 ∨ K = 2 ∨ K = 3 ∨ K = 4 := by omega
  rcases hk with rfl | rfl | rfl | rfl
  · obtain rfl : i = 0 := by omega
    rw [mnr1]; omega
  · have nn := fun a b ha hb => h.nn a b ha hb
    have s0 := h.sum 0 (by omega)
    have t0 := hS 0 (by omega)
    have s1 := h.sum 1 (by omega)
    have t1 := hS 1 (by omega)
    simp only [sumN] at s0 s1
    have n00 := nn 0 0 (by omega) (by omega)
    have n01 := nn 0 1 (by omega) (by omega)
    have n10 := nn 1 0 (by omega) (by omega)
    have n11 := nn 1 1 (by omega) (by omega)
    have hk : i = 0 ∨ i = 1 := by omega
    rcases hk with rfl | rfl
    · rw [mnr2_0 h]
      omega
    · rw [mnr2_1 h]
      omega
  · have nn := fun a b ha hb => h.nn a b ha hb
    have s0 := h.sum 0 (by omega)
    have t0 := hS 0 (by omega)
    have s1 := h.sum 1 (by omega)
    have t1 := hS 1 (by omega)
    have s2 := h.sum 2 (by omega)
    have t2 := hS 2 (by omega)
    simp only [sumN] at s0 s1 s2
    have n00 := nn 0 0 (by omega) (by omega)
    have n01 := nn 0 1 (by omega) (by omega)
    have n02 := nn 0 2 (by omega) (by omega)
    have n10 := nn 1 0 (by omega) (by omega)
    have n11 := nn 1 1 (by omega) (by omega)
    have n12 := nn 1 2 (by omega) (by omega)
    have n20 := nn 2 0 (by omega) (by omega)
    have n21 := nn 2 1 (by omega) (by omega)
    have n22 := nn 2 2 (by omega) (by omega)
    have hk : i = 0 ∨ i = 1 ∨ i = 2 := by omega
    rcases hk with rfl | rfl | rfl
    · rw [mnr3_0 h]
      refine Int.le_trans (tr2_le n10 n20 n12 n21) ?_
      have r1 : (q 1 0) + (q 1 2) ≤ 12 := by omega
      have z1 : 0 ≤ (q 1 0) + (q 1 2) := by omega
      have r2 : (q 2 0) + (q 2 1) ≤ 12 := by omega
      have z2 : 0 ≤ (q 2 0) + (q 2 1) := by omega
      exact Int.le_trans (Int.mul_le_mul r1 r2 z2 (by omega)) (by omega)
    · rw [mnr3_1 h]
      refine Int.le_trans (tr2_le n01 n21 n02 n20) ?_
      have r1 : (q 0 1) + (q 0 2) ≤ 12 := by omega
      have z1 : 0 ≤ (q 0 1) + (q 0 2) := by omega
      have r2 : (q 2 1) + (q 2 0) ≤ 12 := by omega
      have z2 : 0 ≤ (q 2 1) + (q 2 0) := by omega
      exact Int.le_trans (Int.mul_le_mul r1 r2 z2 (by omega)) (by omega)
    · rw [mnr3_2 h]
      refine Int.le_trans (tr2_le n02 n12 n01 n10) ?_
      have r1 : (q 0 2) + (q 0 1) ≤ 12 := by omega
      have z1 : 0 ≤ (q 0 2) + (q 0 1) := by omega
      have r2 : (q 1 2) + (q 1 0) ≤ 12 := by omega
      have z2 : 0 ≤ (q 1 2) + (q 1 0) := by omega
      exact Int.le_trans (Int.mul_le_mul r1 r2 z2 (by omega)) (by omega)
  · have nn := fun a b ha hb => h.nn a b ha hb
    have s0 := h.sum 0 (by omega)
    have t0 := hS 0 (by omega)
    have s1 := h.sum 1 (by omega)
    have t1 := hS 1 (by omega)
    have s2 := h.sum 2 (by omega)
    have t2 := hS 2 (by omega)
    have s3 := h.sum 3 (by omega)
    have t3 := hS 3 (by omega)
    simp only [sumN] at s0 s1 s2 s3
    have n00 := nn 0 0 (by omega) (by omega)
    have n01 := nn 0 1 (by omega) (by omega)
    have n02 := nn 0 2 (by omega) (by omega)
    have n03 := nn 0 3 (by omega) (by omega)
    have n10 := nn 1 0 (by omega) (by omega)
    have n11 := nn 1 1 (by omega) (by omega)
    have n12 := nn 1 2 (by omega) (by omega)
    have n13 := nn 1 3 (by omega) (by omega)
    have n20 := nn 2 0 (by omega) (by omega)
    have n21 := nn 2 1 (by omega) (by omega)
    have n22 := nn 2 2 (by omega) (by omega)
    have n23 := nn 2 3 (by omega) (by omega)
    have n30 := nn 3 0 (by omega) (by omega)
    have n31 := nn 3 1 (by omega) (by omega)
    have n32 := nn 3 2 (by omega) (by omega)
    have n33 := nn 3 3 (by omega) (by omega)
    have hk : i = 0 ∨ i = 1 ∨ i = 2 ∨ i = 3 := by omega
    rcases hk with rfl | rfl | rfl | rfl
    · rw [mnr4_0 h]
      refine Int.le_trans (tr3_le n10 n20 n30 n12 n13 n21 n23 n31 n32) ?_
      have r1 : (q 1 0) + (q 1 2) + (q 1 3) ≤ 12 := by omega
      have z1 : 0 ≤ (q 1 0) + (q 1 2) + (q 1 3) := by omega
      have r2 : (q 2 0) + (q 2 1) + (q 2 3) ≤ 12 := by omega
      have z2 : 0 ≤ (q 2 0) + (q 2 1) + (q 2 3) := by omega
      have r3 : (q 3 0) + (q 3 1) + (q 3 2) ≤ 12 := by omega
      have z3 : 0 ≤ (q 3 0) + (q 3 1) + (q 3 2) := by omega
      exact Int.le_trans (Int.mul_le_mul (Int.mul_le_mul r1 r2 z2 (by omega)) r3 z3 (by omega)) (by omega)
    · rw [mnr4_1 h]
      refine Int.le_trans (tr3_le n01 n21 n31 n02 n03 n20 n23 n30 n32) ?_
      have r1 : (q 0 1) + (q 0 2) + (q 0 3) ≤ 12 := by omega
      have z1 : 0 ≤ (q 0 1) + (q 0 2) + (q 0 3) := by omega
      have r2 : (q 2 1) + (q 2 0) + (q 2 3) ≤ 12 := by omega
      have z2 : 0 ≤ (q 2 1) + (q 2 0) + (q 2 3) := by omega
      have r3 : (q 3 1) + (q 3 0) + (q 3 2) ≤ 12 := by omega
      have z3 : 0 ≤ (q 3 1) + (q 3 0) + (q 3 2) := by omega
      exact Int.le_trans (Int.mul_le_mul (Int.mul_le_mul r1 r2 z2 (by omega)) r3 z3 (by omega)) (by omega)
    · rw [mnr4_2 h]
      refine Int.le_trans (tr3_le n02 n12 n32 n01 n03 n10 n13 n30 n31) ?_
      have r1 : (q 0 2) + (q 0 1) + (q 0 3) ≤ 12 := by omega
      have z1 : 0 ≤ (q 0 2) + (q 0 1) + (q 0 3) := by omega
      have r2 : (q 1 2) + (q 1 0) + (q 1 3) ≤ 12 := by omega
      have z2 : 0 ≤ (q 1 2) + (q 1 0) + (q 1 3) := by omega
      have r3 : (q 3 2) + (q 3 0) + (q 3 1) ≤ 12 := by omega
      have z3 : 0 ≤ (q 3 2) + (q 3 0) + (q 3 1) := by omega
      exact Int.le_trans (Int.mul_le_mul (Int.mul_le_mul r1 r2 z2 (by omega)) r3 z3 (by omega)) (by omega)
    · rw [mnr4_3 h]
      refine Int.le_trans (tr3_le n03 n13 n23 n01 n02 n10 n12 n20 n21) ?_
      have r1 : (q 0 3) + (q 0 1) + (q 0 2) ≤ 12 := by omega
      have z1 : 0 ≤ (q 0 3) + (q 0 1) + (q 0 2) := by omega
      have r2 : (q 1 3) + (q 1 0) + (q 1 2) ≤ 12 := by omega
      have z2 : 0 ≤ (q 1 3) + (q 1 0) + (q 1 2) := by omega
      have r3 : (q 2 3) + (q 2 0) + (q 2 1) ≤ 12 := by omega
      have z3 : 0 ≤ (q 2 3) + (q 2 0) + (q 2 1) := by omega
      exact Int.le_trans (Int.mul_le_mul (Int.mul_le_mul r1 r2 z2 (by omega)) r3 z3 (by omega)) (by omega)
/-- The reference's table: what comes to a state less what goes from it; in the last row the sums. -/
structure RefM (K : Nat) (R : List (List Int)) (q : Nat → Nat → Int) (S : Nat → Int) : Prop where
  shp : Shp K R
  ent : ∀ n k, n + 1 < K → k < K → en R n k = q k n - (if n = k then S n else 0)
  last : ∀ k, k < K → en R (K - 1) k = S k
theorem ref_det {K : Nat} {M R : List (List Int)} {q : Nat → Nat → Int} {S : Nat → Int} (h : FlowM K M q S) (hR : RefM K R q S) (h1 : 1 ≤ K) (h4 : K ≤ 4) : detL K R = sgn (K - 1) * sumN (fun i => mnr K M i * S i) K := by
  have hk : K = 1 ∨ K = 2 ∨ K = 3 ∨ K = 4 := by omega
  rcases hk with rfl | rfl | rfl | rfl
  · rw [detL1, hR.last 0 (by omega)]
    simp [sumN, mnr1, sgn]
  · have s0 := h.sum 0 (by omega)
    have s1 := h.sum 1 (by omega)
    simp only [sumN] at s0 s1
    have e00 := hR.ent 0 0 (by omega) (by omega)
    rw [if_pos rfl, s0] at e00
    have e01 := hR.ent 0 1 (by omega) (by omega)
    rw [if_neg (by omega), Int.sub_zero] at e01
    have e10 : en R 1 0 = S 0 := hR.last 0 (by omega)
    have e11 : en R 1 1 = S 1 := hR.last 1 (by omega)
    rw [detL2 hR.shp]
    simp only [e00, e01, e10, e11, sumN, mnr2_0 h, mnr2_1 h]
    clear s0 s1 e00 e01 e10 e11 h hR
    simp only [sgn, d2]
    grind
  · have s0 := h.sum 0 (by omega)
    have s1 := h.sum 1 (by omega)
    have s2 := h.sum 2 (by omega)
    simp only [sumN] at s0 s1 s2
    have e00 := hR.ent 0 0 (by omega) (by omega)
    rw [if_pos rfl, s0] at e00
    have e01 := hR.ent 0 1 (by omega) (by omega)
    rw [if_neg (by omega), Int.sub_zero] at e01
    have e02 := hR.ent 0 2 (by omega) (by omega)
    rw [if_neg (by omega), Int.sub_zero] at e02
    have e10 := hR.ent 1 0 (by omega) (by omega)
    rw [if_neg (by omega), Int.sub_zero] at e10
    have e11 := hR.ent 1 1 (by omega) (by omega)
    rw [if_pos rfl, s1] at e11
    have e12 := hR.ent 1 2 (by omega) (by omega)
    rw [if_neg (by omega), Int.sub_zero] at e12
    have e20 : en R 2 0 = S 0 := hR.last 0 (by omega)
    have e21 : en R 2 1 = S 1 := hR.last 1 (by omega)
    have e22 : en R 2 2 = S 2 := hR.last 2 (by omega)
    rw [detL3 hR.shp]
    simp only [e00, e01, e02, e10, e11, e12, e20, e21, e22, sumN, mnr3_0 h, mnr3_1 h, mnr3_2 h]
    clear s0 s1 s2 e00 e01 e02 e10 e11 e12 e20 e21 e22 h hR
    simp only [sgn, d3, d2, tr2]
    grind
  · have s0 := h.sum 0 (by omega)
    have s1 := h.sum 1 (by omega)
    have s2 := h.sum 2 (by omega)
    have s3 := h.sum 3 (by omega)
    simp only [sumN] at s0 s1 s2 s3
    have e00 := hR.ent 0 0 (by omega) (by omega)
    rw [if_pos rfl, s0] at e00
    have e01 := hR.ent 0 1 (by omega) (by omega)
    rw [if_neg (by omega), Int.sub_zero] at e01
    have e02 := hR.ent 0 2 (by omega) (by omega)
    rw [if_neg (by omega), Int.sub_zero] at e02
    have e03 := hR.ent 0 3 (by omega) (by omega)
    rw [if_neg (by omega), Int.sub_zero] at e03
    have e10 := hR.ent 1 0 (by omega) (by omega)
    rw [if_neg (by omega), Int.sub_zero] at e10
    have e11 := hR.ent 1 1 (by omega) (by omega)
    rw [if_pos rfl, s1] at e11
    have e12 := hR.ent 1 2 (by omega) (by omega)
    rw [if_neg (by omega), Int.sub_zero] at e12
    have e13 := hR.ent 1 3 (by omega) (by omega)
    rw [if_neg (by omega), Int.sub_zero] at e13
    have e20 := hR.ent 2 0 (by omega) (by omega)
    rw [if_neg (by omega), Int.sub_zero] at e20
    have e21 := hR.ent 2 1 (by omega) (by omega)
    rw [if_neg (by omega), Int.sub_zero] at e21
    have e22 := hR.ent 2 2 (by omega) (by omega)
    rw [if_pos rfl, s2] at e22
    have e23 := hR.ent 2 3 (by omega) (by omega)
    rw [if_neg (by omega), Int.sub_zero] at e23
    have e30 : en R 3 0 = S 0 := hR.last 0 (by omega)
    have e31 : en R 3 1 = S 1 := hR.last 1 (by omega)
    have e32 : en R 3 2 = S 2 := hR.last 2 (by omega)
    have e33 : en R 3 3 = S 3 := hR.last 3 (by omega)
    rw [detL4 hR.shp]
    simp only [e00, e01, e02, e03, e10, e11, e12, e13, e20, e21, e22, e23, e30, e31, e32, e33, sumN, mnr4_0 h, mnr4_1 h, mnr4_2 h, mnr4_3 h]
    clear s0 s1 s2 s3 e00 e01 e02 e03 e10 e11 e12 e13 e20 e21 e22 e23 e30 e31 e32 e33 h hR
    simp only [sgn, d4, d3, d2, tr3]
    grind
theorem ref_col {K : Nat} {M R : List (List Int)} {q : Nat → Nat → Int} {S : Nat → Int} (h : FlowM K M q S) (hR : RefM K R q S) (h1 : 1 ≤ K) (h4 : K ≤ 4) {r : List Int} (hr : ∀ i, i < K → nth r i = if i + 1 = K then 1 else 0) {j : Nat} (hj : j < K) : detL K (colSet R j r) = sgn (K - 1) * mnr K M j := by
  have hk : K = 1 ∨ K = 2 ∨ K = 3 ∨ K = 4 := by omega
  rcases hk with rfl | rfl | rfl | rfl
  · obtain rfl : j = 0 := by omega
    rw [detL1, en_col hR.shp (by omega) (by omega), if_pos rfl, hr 0 (by omega)]
    simp [mnr1, sgn]
  · have s0 := h.sum 0 (by omega)
    have s1 := h.sum 1 (by omega)
    simp only [sumN] at s0 s1
    have e00 := hR.ent 0 0 (by omega) (by omega)
    rw [if_pos rfl, s0] at e00
    have e01 := hR.ent 0 1 (by omega) (by omega)
    rw [if_neg (by omega), Int.sub_zero] at e01
    have e10 : en R 1 0 = S 0 := hR.last 0 (by omega)
    have e11 : en R 1 1 = S 1 := hR.last 1 (by omega)
    rw [detL2 (shp_col hR.shp)]
    have hc : ∀ a b, a < 2 → b < 2 → en (colSet R j r) a b = if j = b then nth r a else en R a b := fun a b ha hb => en_col hR.shp ha hb
    have r0 : nth r 0 = 0 := by rw [hr 0 (by omega)]; rfl
    have r1 : nth r 1 = 1 := by rw [hr 1 (by omega)]; rfl
    have hk : j = 0 ∨ j = 1 := by omega
    rcases hk with rfl | rfl
    · rw [hc 0 0 (by omega) (by omega), hc 0 1 (by omega) (by omega), hc 1 0 (by omega) (by omega), hc 1 1 (by omega) (by omega), mnr2_0 h]
      simp only [r0, r1, e00, e01, e10, e11]
      clear hc hr s0 s1 e00 e01 e10 e11 r0 r1 h hR
      simp [sgn, d2]
      try grind
    · rw [hc 0 0 (by omega) (by omega), hc 0 1 (by omega) (by omega), hc 1 0 (by omega) (by omega), hc 1 1 (by omega) (by omega), mnr2_1 h]
      simp only [r0, r1, e00, e01, e10, e11]
      clear hc hr s0 s1 e00 e01 e10 e11 r0 r1 h hR
      simp [sgn, d2]
      try grind
  · have s0 := h.sum 0 (by omega)
    have s1 := h.sum 1 (by omega)
    have s2 := h.sum 2 (by omega)
    simp only [sumN] at s0 s1 s2
    have e00 := hR.ent 0 0 (by omega) (by omega)
    rw [if_pos rfl, s0] at e00
    have e01 := hR.ent 0 1 (by omega) (by omega)
    rw [if_neg (by omega), Int.sub_zero] at e01
    have e02 := hR.ent 0 2 (by omega) (by omega)
    rw [if_neg (by omega), Int.sub_zero] at e02
    have e10 := hR.ent 1 0 (by omega) (by omega)
    rw [if_neg (by omega), Int.sub_zero] at e10
    have e11 := hR.ent 1 1 (by omega) (by omega)
    rw [if_pos rfl, s1] at e11
    have e12 := hR.ent 1 2 (by omega) (by omega)
    rw [if_neg (by omega), Int.sub_zero] at e12
    have e20 : en R 2 0 = S 0 := hR.last 0 (by omega)
    have e21 : en R 2 1 = S 1 := hR.last 1 (by omega)
    have e22 : en R 2 2 = S 2 := hR.last 2 (by omega)
    rw [detL3 (shp_col hR.shp)]
    have hc : ∀ a b, a < 3 → b < 3 → en (colSet R j r) a b = if j = b then nth r a else en R a b := fun a b ha hb => en_col hR.shp ha hb
    have r0 : nth r 0 = 0 := by rw [hr 0 (by omega)]; rfl
    have r1 : nth r 1 = 0 := by rw [hr 1 (by omega)]; rfl
    have r2 : nth r 2 = 1 := by rw [hr 2 (by omega)]; rfl
    have hk : j = 0 ∨ j = 1 ∨ j = 2 := by omega
    rcases hk with rfl | rfl | rfl
    · rw [hc 0 0 (by omega) (by omega), hc 0 1 (by omega) (by omega), hc 0 2 (by omega) (by omega), hc 1 0 (by omega) (by omega), hc 1 1 (by omega) (by omega), hc 1 2 (by omega) (by omega), hc 2 0 (by omega) (by omega), hc 2 1 (by omega) (by omega), hc 2 2 (by omega) (by omega), mnr3_0 h]
      simp only [r0, r1, r2, e00, e01, e02, e10, e11, e12, e20, e21, e22]
      clear hc hr s0 s1 s2 e00 e01 e02 e10 e11 e12 e20 e21 e22 r0 r1 r2 h hR
      simp [sgn, d3, d2, tr2]
      try grind
    · rw [hc 0 0 (by omega) (by omega), hc 0 1 (by omega) (by omega), hc 0 2 (by omega) (by omega), hc 1 0 (by omega) (by omega), hc 1 1 (by omega) (by omega), hc 1 2 (by omega) (by omega), hc 2 0 (by omega) (by omega), hc 2 1 (by omega) (by omega), hc 2 2 (by omega) (by omega), mnr3_1 h]
      simp only [r0, r1, r2, e00, e01, e02, e10, e11, e12, e20, e21, e22]
      clear hc hr s0 s1 s2 e00 e01 e02 e10 e11 e12 e20 e21 e22 r0 r1 r2 h hR
      simp [sgn, d3, d2, tr2]
      try grind
    · rw [hc 0 0 (by omega) (by omega), hc 0 1 (by omega) (by omega), hc 0 2 (by omega) (by omega), hc 1 0 (by omega) (by omega), hc 1 1 (by omega) (by omega), hc 1 2 (by omega) (by omega), hc 2 0 (by omega) (by omega), hc 2 1 (by omega) (by omega), hc 2 2 (by omega) (by omega), mnr3_2 h]
      simp only [r0, r1, r2, e00, e01, e02, e10, e11, e12, e20, e21, e22]
      clear hc hr s0 s1 s2 e00 e01 e02 e10 e11 e12 e20 e21 e22 r0 r1 r2 h hR
      simp [sgn, d3, d2, tr2]
      try grind
  · have s0 := h.sum 0 (by omega)
    have s1 := h.sum 1 (by omega)
    have s2 := h.sum 2 (by omega)
    have s3 := h.sum 3 (by omega)
    simp only [sumN] at s0 s1 s2 s3
    have e00 := hR.ent 0 0 (by omega) (by omega)
    rw [if_pos rfl, s0] at e00
    have e01 := hR.ent 0 1 (by omega) (by omega)
    rw [if_neg (by omega), Int.sub_zero] at e01
    have e02 := hR.ent 0 2 (by omega) (by omega)
    rw [if_neg (by omega), Int.sub_zero] at e02
    have e03 := hR.ent 0 3 (by omega) (by omega)
    rw [if_neg (by omega), Int.sub_zero] at e03
    have e10 := hR.ent 1 0 (by omega) (by omega)
    rw [if_neg (by omega), Int.sub_zero] at e10
    have e11 := hR.ent 1 1 (by omega) (by omega)
    rw [if_pos rfl, s1] at e11
    have e12 := hR.ent 1 2 (by omega) (by omega)
    rw [if_neg (by omega), Int.sub_zero] at e12
    have e13 := hR.ent 1 3 (by omega) (by omega)
    rw [if_neg (by omega), Int.sub_zero] at e13
    have e20 := hR.ent 2 0 (by omega) (by omega)
    rw [if_neg (by omega), Int.sub_zero] at e20
    have e21 := hR.ent 2 1 (by omega) (by omega)
    rw [if_neg (by omega), Int.sub_zero] at e21
    have e22 := hR.ent 2 2 (by omega) (by omega)
    rw [if_pos rfl, s2] at e22
    have e23 := hR.ent 2 3 (by omega) (by omega)
    rw [if_neg (by omega), Int.sub_zero] at e23
    have e30 : en R 3 0 = S 0 := hR.last 0 (by omega)
    have e31 : en R 3 1 = S 1 := hR.last 1 (by omega)
    have e32 : en R 3 2 = S 2 := hR.last 2 (by omega)
    have e33 : en R 3 3 = S 3 := hR.last 3 (by omega)
    rw [detL4 (shp_col hR.shp)]
    have hc : ∀ a b, a < 4 → b < 4 → en (colSet R j r) a b = if j = b then nth r a else en R a b := fun a b ha hb => en_col hR.shp ha hb
    have r0 : nth r 0 = 0 := by rw [hr 0 (by omega)]; rfl
    have r1 : nth r 1 = 0 := by rw [hr 1 (by omega)]; rfl
    have r2 : nth r 2 = 0 := by rw [hr 2 (by omega)]; rfl
    have r3 : nth r 3 = 1 := by rw [hr 3 (by omega)]; rfl
    have hk : j = 0 ∨ j = 1 ∨ j = 2 ∨ j = 3 := by omega
    rcases hk with rfl | rfl | rfl | rfl
    · rw [hc 0 0 (by omega) (by omega), hc 0 1 (by omega) (by omega), hc 0 2 (by omega) (by omega), hc 0 3 (by omega) (by omega), hc 1 0 (by omega) (by omega), hc 1 1 (by omega) (by omega), hc 1 2 (by omega) (by omega), hc 1 3 (by omega) (by omega), hc 2 0 (by omega) (by omega), hc 2 1 (by omega) (by omega), hc 2 2 (by omega) (by omega), hc 2 3 (by omega) (by omega), hc 3 0 (by omega) (by omega), hc 3 1 (by omega) (by omega), hc 3 2 (by omega) (by omega), hc 3 3 (by omega) (by omega), mnr4_0 h]
      simp only [r0, r1, r2, r3, e00, e01, e02, e03, e10, e11, e12, e13, e20, e21, e22, e23, e30, e31, e32, e33]
      clear hc hr s0 s1 s2 s3 e00 e01 e02 e03 e10 e11 e12 e13 e20 e21 e22 e23 e30 e31 e32 e33 r0 r1 r2 r3 h hR
      simp [sgn, d4, d3, d2, tr3]
      try grind
    · rw [hc 0 0 (by omega) (by omega), hc 0 1 (by omega) (by omega), hc 0 2 (by omega) (by omega), hc 0 3 (by omega) (by omega), hc 1 0 (by omega) (by omega), hc 1 1 (by omega) (by omega), hc 1 2 (by omega) (by omega), hc 1 3 (by omega) (by omega), hc 2 0 (by omega) (by omega), hc 2 1 (by omega) (by omega), hc 2 2 (by omega) (by omega), hc 2 3 (by omega) (by omega), hc 3 0 (by omega) (by omega), hc 3 1 (by omega) (by omega), hc 3 2 (by omega) (by omega), hc 3 3 (by omega) (by omega), mnr4_1 h]
      simp only [r0, r1, r2, r3, e00, e01, e02, e03, e10, e11, e12, e13, e20, e21, e22, e23, e30, e31, e32, e33]
      clear hc hr s0 s1 s2 s3 e00 e01 e02 e03 e10 e11 e12 e13 e20 e21 e22 e23 e30 e31 e32 e33 r0 r1 r2 r3 h hR
      simp [sgn, d4, d3, d2, tr3]
      try grind
    · rw [hc 0 0 (by omega) (by omega), hc 0 1 (by omega) (by omega), hc 0 2 (by omega) (by omega), hc 0 3 (by omega) (by omega), hc 1 0 (by omega) (by omega), hc 1 1 (by omega) (by omega), hc 1 2 (by omega) (by omega), hc 1 3 (by omega) (by omega), hc 2 0 (by omega) (by omega), hc 2 1 (by omega) (by omega), hc 2 2 (by omega) (by omega), hc 2 3 (by omega) (by omega), hc 3 0 (by omega) (by omega), hc 3 1 (by omega) (by omega), hc 3 2 (by omega) (by omega), hc 3 3 (by omega) (by omega), mnr4_2 h]
      simp only [r0, r1, r2, r3, e00, e01, e02, e03, e10, e11, e12, e13, e20, e21, e22, e23, e30, e31, e32, e33]
      clear hc hr s0 s1 s2 s3 e00 e01 e02 e03 e10 e11 e12 e13 e20 e21 e22 e23 e30 e31 e32 e33 r0 r1 r2 r3 h hR
      simp [sgn, d4, d3, d2, tr3]
      try grind
    · rw [hc 0 0 (by omega) (by omega), hc 0 1 (by omega) (by omega), hc 0 2 (by omega) (by omega), hc 0 3 (by omega) (by omega), hc 1 0 (by omega) (by omega), hc 1 1 (by omega) (by omega), hc 1 2 (by omega) (by omega), hc 1 3 (by omega) (by omega), hc 2 0 (by omega) (by omega), hc 2 1 (by omega) (by omega), hc 2 2 (by omega) (by omega), hc 2 3 (by omega) (by omega), hc 3 0 (by omega) (by omega), hc 3 1 (by omega) (by omega), hc 3 2 (by omega) (by omega), hc 3 3 (by omega) (by omega), mnr4_3 h]
      simp only [r0, r1, r2, r3, e00, e01, e02, e03, e10, e11, e12, e13, e20, e21, e22, e23, e30, e31, e32, e33]
      clear hc hr s0 s1 s2 s3 e00 e01 e02 e03 e10 e11 e12 e13 e20 e21 e22 e23 e30 e31 e32 e33 r0 r1 r2 r3 h hR
      simp [sgn, d4, d3, d2, tr3]
      try grind
end Go.Proofs.Ytcmakddnjmeklaa
