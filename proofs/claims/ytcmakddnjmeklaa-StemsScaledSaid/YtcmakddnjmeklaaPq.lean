/- Chapter 9, plain: the rest over one divisor. -/
import Derived.Test.YtcmakddnjmeklaaVh
namespace Go.Proofs.Ytcmakddnjmeklaa
open Go.RowKit

def allN (W : Wd) (p : List Int) : Nat → Int
  | 0 => 1
  | k + 1 => allN W p k * isum (podds W p k)
section
variable {W : Wd} {p : List Int} {f : Nat}
theorem allN_bd (h : isPlanB W p = true) : ∀ k, k ≤ W.acts.length → 1 ≤ allN W p k ∧ allN W p k ≤ 12 ^ k
  | 0, _ => by simp [allN]
  | k + 1, hk => by
    have ih := allN_bd h k (by omega)
    have hs := pa_of0 h (s := k) (by omega)
    have h3 : 0 < allN W p k * isum (podds W p k) := Int.mul_pos (by omega) (by omega)
    have hp : (0 : Int) < 12 ^ k := Int.pow_pos (by omega)
    have h4 : allN W p k * isum (podds W p k) ≤ 12 ^ k * 12 := Int.mul_le_mul ih.2 hs.2 (by omega) (by omega)
    refine ⟨by show 1 ≤ allN W p k * _; omega, ?_⟩
    rw [Int.pow_succ]; exact h4
theorem allN_dvd (h : isPlanB W p = true) : ∀ k, k ≤ W.acts.length → ∀ s, s < k → isum (podds W p s) ∣ allN W p k
  | 0, _, s, hs => by omega
  | k + 1, hk, s, hs => by
    by_cases e : s = k
    · subst e; exact Int.dvd_mul_left ..
    · exact Int.dvd_trans (allN_dvd h k (by omega) s (by omega)) (Int.dvd_mul_right ..)
theorem all_max (h : isPlanB W p = true) : 1 ≤ allN W p W.acts.length ∧ allN W p W.acts.length ≤ 20736 := by
  obtain ⟨_, _, _, ⟨_, hn4, _⟩, _⟩ := plan_parts h
  have h1 := allN_bd h W.acts.length (Nat.le_refl _)
  have h2 : W.acts.length = 0 ∨ W.acts.length = 1 ∨ W.acts.length = 2 ∨ W.acts.length = 3 ∨ W.acts.length = 4 := by omega
  refine ⟨h1.1, Int.le_trans h1.2 ?_⟩
  rcases h2 with e | e | e | e | e <;> rw [e] <;> decide
/-- All sums' product over one of them. -/
def eN (W : Wd) (p : List Int) (s : Nat) : Int := (allN W p W.acts.length).tdiv (isum (podds W p s))
theorem eN_mul (h : isPlanB W p = true) {s : Nat} (hs : s < W.acts.length) : eN W p s * isum (podds W p s) = allN W p W.acts.length ∧ 0 < eN W p s ∧ eN W p s ≤ 20736 := by
  have h1 := Int.tdiv_mul_cancel (allN_dvd h W.acts.length (Nat.le_refl _) s hs)
  have h2 := all_max h
  have h3 := pa_of0 h hs
  have h4 : 0 < eN W p s := Int.pos_of_mul_pos_left (b := isum (podds W p s)) (by unfold eN; omega) (by omega)
  have h5 := Int.mul_le_mul_of_nonneg_left h3.1 (Int.le_of_lt h4)
  unfold eN at *
  exact ⟨h1, h4, by omega⟩
def nxN (W : Wd) (p : List Int) (l : List Int) (s k : Nat) : Int := sumN (fun u => nth l u * nth (podds W p u) k * eN W p u) s
theorem gainP_bd (h : isPlanB W p = true) {s : Nat} (hs : s < W.acts.length) : -9 ≤ gainP W p s ∧ gainP W p s ≤ 9 := by
  have := vAc_at (vAc_pact h hs)
  exact ⟨this.1, this.2.1⟩
theorem yN_le (h : isPlanB W p = true) (ho : agOk W p f = true) (hf : f < W.acts.length) {v : Int} (hv : ∀ s, s < W.acts.length → gainP W p s ≤ v) : yN W p f ≤ v * restD W p f := by
  rw [restD_sum h, ← sumN_mul]
  refine sumN_le fun s hs => ?_
  rw [Int.mul_comm v]
  exact Int.mul_le_mul_of_nonneg_left (hv s hs) (rest_bd h ho hf hs).1
theorem yN_ge (h : isPlanB W p = true) (ho : agOk W p f = true) (hf : f < W.acts.length) {v : Int} (hv : ∀ s, s < W.acts.length → v ≤ gainP W p s) : v * restD W p f ≤ yN W p f := by
  rw [restD_sum h, ← sumN_mul]
  refine sumN_le fun s hs => ?_
  rw [Int.mul_comm v]
  exact Int.mul_le_mul_of_nonneg_left (hv s hs) (rest_bd h ho hf hs).1
theorem yF_low (h : isPlanB W p = true) (ho : agOk W p f = true) (hf : f < W.acts.length) : FrLow (yF W p f) := by
  have hd := restD_bd h ho hf
  have h1 := yN_le h ho hf (v := 9) fun s hs => (gainP_bd h hs).2
  have h2 := yN_ge h ho hf (v := -9) fun s hs => (gainP_bd h hs).1
  exact frq_low (C := 9) hd.1 (by omega) (by omega) (by omega) (by omega)
theorem yF_mul (h : isPlanB W p = true) (ho : agOk W p f = true) (hf : f < W.acts.length) : (yF W p f).n * restD W p f = yN W p f * (yF W p f).d ∧ 1 ≤ (yF W p f).d := ⟨frq_mul (restD_bd h ho hf).1, frq_pos _⟩
theorem yF_ge (h : isPlanB W p = true) (ho : agOk W p f = true) (hf : f < W.acts.length) {v : Int} (hv : ∀ s, s < W.acts.length → v ≤ gainP W p s) : v * (yF W p f).d ≤ (yF W p f).n := by
  have h1 := yF_mul h ho hf
  have h2 := Int.mul_le_mul_of_nonneg_right (yN_ge h ho hf hv) (show 0 ≤ (yF W p f).d by omega)
  refine Int.le_of_mul_le_mul_right (a := restD W p f) ?_ (restD_bd h ho hf).1
  rw [h1.1]
  have e : v * (yF W p f).d * restD W p f = v * restD W p f * (yF W p f).d := by grind
  rw [e]; exact h2
theorem yF_le (h : isPlanB W p = true) (ho : agOk W p f = true) (hf : f < W.acts.length) {v : Int} (hv : ∀ s, s < W.acts.length → gainP W p s ≤ v) : (yF W p f).n ≤ v * (yF W p f).d := by
  have h1 := yF_mul h ho hf
  have h2 := Int.mul_le_mul_of_nonneg_right (yN_le h ho hf hv) (show 0 ≤ (yF W p f).d by omega)
  refine Int.le_of_mul_le_mul_right (a := restD W p f) ?_ (restD_bd h ho hf).1
  rw [h1.1]
  have e : v * (yF W p f).d * restD W p f = v * restD W p f * (yF W p f).d := by grind
  rw [e]; exact h2
theorem restF_at {s : Nat} (hs : s < W.acts.length) : fr (restF W p f) s = toFr ((nth (restN W p f) s : Rat) / (restD W p f : Rat)) := by
  unfold restF
  rw [fracsL_at (by unfold restN; rw [nTo_len]; exact hs)]
theorem restF_low (h : isPlanB W p = true) (ho : agOk W p f = true) (hf : f < W.acts.length) {s : Nat} (hs : s < W.acts.length) : FrLow (fr (restF W p f) s) := by
  have hd := restD_bd h ho hf
  have hr := rest_bd h ho hf hs
  rw [restF_at hs]
  have : 20736 * 1 ≤ 20736 * restD W p f := Int.mul_le_mul_of_nonneg_left (by omega) (by omega)
  exact frq_low (C := 20736) hd.1 (by omega) (by omega) (by omega) (by omega)
theorem restF_dvd (h : isPlanB W p = true) (ho : agOk W p f = true) (hf : f < W.acts.length) {s : Nat} (hs : s < W.acts.length) : (fr (restF W p f) s).d ∣ restD W p f := by
  rw [restF_at hs]; exact frq_dvd (restD_bd h ho hf).1
variable {l : List Int} {d : Int}
theorem whole_rest (h : isPlanB W p = true) (ho : agOk W p f = true) (hf : f < W.acts.length) (hw : WholeOf (restF W p f) (restD W p f) l d) {s : Nat} (hs : s < W.acts.length) : nth l s * restD W p f = nth (restN W p f) s * d := by
  obtain ⟨_, _, _, h3⟩ := hw
  have h4 := h3 s (by rw [restF_len]; exact hs)
  rw [restF_at hs] at h4
  have h5 := frq_mul (a := nth (restN W p f) s) (restD_bd h ho hf).1
  have h6 := frq_pos (((nth (restN W p f) s : Int) : Rat) / ((restD W p f : Int) : Rat))
  generalize toFr (((nth (restN W p f) s : Int) : Rat) / ((restD W p f : Int) : Rat)) = x at *
  refine Int.eq_of_mul_eq_mul_right (show x.d ≠ 0 by omega) ?_
  grind
theorem whole_bd (h : isPlanB W p = true) (ho : agOk W p f = true) (hf : f < W.acts.length) (hw : WholeOf (restF W p f) (restD W p f) l d) : 0 < d ∧ d ≤ 82944 ∧ l.length = W.acts.length ∧ ∀ s, s < W.acts.length → 0 ≤ nth l s ∧ nth l s ≤ 20736 ∧ (0 < nth l s → (rch W p f).testBit s = true) := by
  have hd := restD_bd h ho hf
  have h0 := hw.1
  have hdD := Int.le_of_dvd hd.1 hw.2.1
  refine ⟨h0, by omega, by rw [hw.2.2.1, restF_len], fun s hs => ?_⟩
  have h1 := whole_rest h ho hf hw hs
  have hr := rest_bd h ho hf hs
  have h2 : 0 ≤ nth l s := by
    refine Int.not_lt.1 fun hn => ?_
    have := Int.mul_pos (show 0 < -nth l s by omega) hd.1
    have := Int.mul_nonneg hr.1 (Int.le_of_lt h0)
    rw [Int.neg_mul] at *
    omega
  refine ⟨h2, ?_, fun hp => ?_⟩
  · refine Int.le_of_mul_le_mul_right (a := restD W p f) ?_ hd.1
    rw [h1]
    exact Int.le_trans (Int.mul_le_mul_of_nonneg_left hdD hr.1) (Int.mul_le_mul_of_nonneg_right hr.2.1 (Int.le_of_lt hd.1))
  · cases hb : (agSet W p f).testBit s with
    | true => exact (ag_in hb).2
    | false =>
      rw [hr.2.2.2 hb, Int.zero_mul] at h1
      have := Int.mul_pos hp hd.1
      omega
theorem whole_sum (h : isPlanB W p = true) (ho : agOk W p f = true) (hf : f < W.acts.length) (hw : WholeOf (restF W p f) (restD W p f) l d) : sumN (nth l) W.acts.length = d := by
  have hd := restD_bd h ho hf
  refine Int.eq_of_mul_eq_mul_left (a := restD W p f) (by omega) ?_
  rw [← sumN_mul, sumN_congr (g := fun s => d * nth (restN W p f) s) fun s hs => by rw [Int.mul_comm, whole_rest h ho hf hw hs, Int.mul_comm], sumN_mul, ← restD_sum h, Int.mul_comm]
theorem whole_next (h : isPlanB W p = true) (ho : agOk W p f = true) (hf : f < W.acts.length) (hw : WholeOf (restF W p f) (restD W p f) l d) {k : Nat} (hk : k < W.acts.length) : nxN W p l W.acts.length k = nth l k * allN W p W.acts.length := by
  have hd := restD_bd h ho hf
  refine Int.eq_of_mul_eq_mul_left (a := restD W p f) (by omega) ?_
  unfold nxN
  rw [← sumN_mul]
  rw [sumN_congr (g := fun s => (d * allN W p W.acts.length) * (muR W p f s * nth (podds W p s) k)) fun s hs => by
    have h1 := whole_rest h ho hf hw hs
    rw [restN_at h hs] at h1
    have h2 := (eN_mul h hs).1
    rw [← h2]
    have e : restD W p f * (nth l s * nth (podds W p s) k * eN W p s) = (nth l s * restD W p f) * (nth (podds W p s) k * eN W p s) := by grind
    rw [e, h1]
    grind]
  rw [sumN_mul, rest_step h ho hf hk]
  have h3 := whole_rest h ho hf hw hk
  have e : restD W p f * (nth l k * allN W p W.acts.length) = (nth l k * restD W p f) * allN W p W.acts.length := by grind
  rw [e, h3]
  grind
theorem whole_gain (h : isPlanB W p = true) (ho : agOk W p f = true) (hf : f < W.acts.length) (hw : WholeOf (restF W p f) (restD W p f) l d) : (yF W p f).n * d = sumN (fun s => nth l s * gainP W p s) W.acts.length * (yF W p f).d := by
  have hd := restD_bd h ho hf
  have h1 := yF_mul h ho hf
  have h2 : restD W p f * sumN (fun s => nth l s * gainP W p s) W.acts.length = d * yN W p f := by
    unfold yN
    rw [← sumN_mul, ← sumN_mul]
    refine sumN_congr fun s hs => ?_
    have := whole_rest h ho hf hw hs
    have e : restD W p f * (nth l s * gainP W p s) = (nth l s * restD W p f) * gainP W p s := by grind
    rw [e, this]; grind
  refine Int.eq_of_mul_eq_mul_left (a := restD W p f) (by omega) ?_
  have e : restD W p f * (sumN (fun s => nth l s * gainP W p s) W.acts.length * (yF W p f).d) = (restD W p f * sumN (fun s => nth l s * gainP W p s) W.acts.length) * (yF W p f).d := by grind
  rw [e, h2]
  have e2 : restD W p f * ((yF W p f).n * d) = ((yF W p f).n * restD W p f) * d := by grind
  rw [e2, h1.1]
  grind
theorem nx_bd (h : isPlanB W p = true) (hl : ∀ s, s < W.acts.length → 0 ≤ nth l s ∧ nth l s ≤ 20736) {k : Nat} (hk : k < W.acts.length) : ∀ s, s ≤ W.acts.length → 0 ≤ nxN W p l s k ∧ nxN W p l s k ≤ 1289945088 * (s : Int)
  | 0, _ => by simp [nxN, sumN]
  | s + 1, hs => by
    have ih := nx_bd h hl hk s (by omega)
    have h1 := hl s (by omega)
    have h2 := podds_nn h (s := s) (k := k) (by omega) hk
    have h3 := (vAc_at (vAc_pact h (s := s) (by omega))).2.2.2.1 _ (nth_mem (l := podds W p s) (k := k) (by rw [podds_len h (by omega)]; exact hk))
    have h4 := eN_mul h (s := s) (by omega)
    have m1 : nth l s * nth (podds W p s) k ≤ 20736 * 3 := Int.mul_le_mul h1.2 h3.2 h2 (by omega)
    have m0 : 0 ≤ nth l s * nth (podds W p s) k := Int.mul_nonneg h1.1 h2
    have m2 : nth l s * nth (podds W p s) k * eN W p s ≤ 20736 * 3 * 20736 := Int.mul_le_mul m1 h4.2.2 (by omega) (by omega)
    have m3 := Int.mul_nonneg m0 (Int.le_of_lt h4.2.1)
    show 0 ≤ nxN W p l s k + nth l s * nth (podds W p s) k * eN W p s ∧ nxN W p l s k + nth l s * nth (podds W p s) k * eN W p s ≤ _
    omega
end
/-! ### the row of what comes -/
def nxL (W : Wd) (p : List Int) (l : List Int) (s j : Nat) : List Int := (List.range W.acts.length).map fun k => if k < j then nxN W p l (s + 1) k else nxN W p l s k
theorem nxL_len {W : Wd} {p l : List Int} {s j : Nat} : (nxL W p l s j).length = W.acts.length := by simp [nxL]
theorem nxL_at {W : Wd} {p l : List Int} {s j k : Nat} (hk : k < W.acts.length) : nth (nxL W p l s j) k = if k < j then nxN W p l (s + 1) k else nxN W p l s k := by simp [nth, nxL, hk]
theorem nxL_next {W : Wd} {p l : List Int} {s : Nat} : nxL W p l s W.acts.length = nxL W p l (s + 1) 0 := by
  refine nth_ext (by rw [nxL_len, nxL_len]) fun k hk => ?_
  rw [nxL_len] at hk
  rw [nxL_at hk, nxL_at hk, if_pos hk, if_neg (by omega)]
theorem nxL_zero {W : Wd} {p l : List Int} : nxL W p l 0 0 = List.replicate W.acts.length 0 := by
  refine nth_ext (by rw [nxL_len]; simp) fun k hk => ?_
  rw [nxL_len] at hk
  rw [nxL_at hk, if_neg (by omega), nth_of_lt (by simpa using hk)]
  simp [nxN, sumN]
theorem nxL_set {W : Wd} {p l : List Int} {s j : Nat} (_hj : j < W.acts.length) : nxL W p l s (j + 1) = (nxL W p l s j).set j (nxN W p l s j + nth l s * nth (podds W p s) j * eN W p s) := by
  refine nth_ext (by rw [List.length_set, nxL_len, nxL_len]) fun k hk => ?_
  rw [nxL_len] at hk
  rw [nth_setI (by rw [nxL_len]; exact hk), nxL_at hk, nxL_at hk]
  by_cases e : j = k
  · subst e; rw [if_pos (by omega), if_pos rfl]; rfl
  · rw [if_neg e]
    by_cases q : k < j
    · rw [if_pos (by omega), if_pos q]
    · rw [if_neg (by omega), if_neg q]
end Go.Proofs.Ytcmakddnjmeklaa
