/- Chapter 9, plain: the equations of a plan's worth. -/
import Derived.Test.YtcmakddnjmeklaaZr
namespace Go.Proofs.Ytcmakddnjmeklaa
open Go.RowKit

/-- What a plan does, in all states. -/
def planActs (A : List (List Ac)) (p : List Int) : List Ac := (List.range A.length).map (pact A p)
def mBare (a : Int) (x : Ac) : List Int := x.o.map fun o => -a * o
def mRow (a b : Int) (x : Ac) (s : Nat) : List Int := (mBare a x).set s (nth (mBare a x) s + b * isum x.o)
def mMat (a b : Int) (X : List Ac) : List (List Int) := (List.range X.length).map fun s => mRow a b (ac X s) s
def mRight (b : Int) (X : List Ac) : List Int := X.map fun x => b * isum x.o * x.g
def colSet (M : List (List Int)) (s : Nat) (r : List Int) : List (List Int) := (List.range M.length).map fun i => (rw_ M i).set s (nth r i)
def wD (a b : Int) (X : List Ac) : Int := detL X.length (mMat a b X)
def wN (a b : Int) (X : List Ac) (s : Nat) : Int := detL X.length (colSet (mMat a b X) s (mRight b X))
def wNs (a b : Int) (X : List Ac) : List Int := (List.range X.length).map (wN a b X)
/-- Acts, one for each state, of a world that is all right. -/
def OkX (a b : Int) (X : List Ac) : Prop := 1 ≤ X.length ∧ X.length ≤ 4 ∧ 1 ≤ a ∧ a < b ∧ b ≤ 4 ∧ ∀ s, s < X.length → vAc X.length (ac X s) = true

theorem vAc_at {n : Nat} {x : Ac} (h : vAc n x = true) : -9 ≤ x.g ∧ x.g ≤ 9 ∧ x.o.length = n ∧ (∀ o ∈ x.o, 0 ≤ o ∧ o ≤ 3) ∧ 1 ≤ isum x.o ∧ isum x.o ≤ 3 * n := by
  unfold vAc at h
  simp only [Bool.and_eq_true, decide_eq_true_eq] at h
  obtain ⟨⟨⟨⟨h1, h2⟩, h3⟩, h4⟩, h5⟩ := h
  have h6 := vOdds_iff.1 h4
  have h7 := isum_bound h6 (by omega)
  rw [h3] at h7
  exact ⟨h1, h2, h3, h6, by omega, h7.2⟩
theorem vWd_parts {W : Wd} (h : vWd W = true) : vHead W ∧ ∀ s, s < W.acts.length → 1 ≤ (acl W.acts s).length ∧ (acl W.acts s).length ≤ 3 ∧ ∀ i, i < (acl W.acts s).length → vAc W.acts.length (ac (acl W.acts s) i) = true := by
  have hh : vHead W := by
    rcases Classical.em (vHead W) with q | q
    · exact q
    · rw [vWd_no q] at h; cases h
  refine ⟨hh, fun s hs => ?_⟩
  rw [vWd_all hh, List.all_eq_true] at h
  have h2 := h s (List.mem_range.2 hs)
  have h3 : 1 ≤ (acl W.acts s).length ∧ (acl W.acts s).length ≤ 3 := by
    rcases Classical.em (1 ≤ (acl W.acts s).length ∧ (acl W.acts s).length ≤ 3) with q | q
    · exact q
    · rw [vAcs_len q] at h2; cases h2
  refine ⟨h3.1, h3.2, fun i hi => ?_⟩
  rw [vAcs_all h3.1 h3.2, List.all_eq_true] at h2
  exact h2 i (List.mem_range.2 hi)
theorem planActs_len (A : List (List Ac)) (p : List Int) : (planActs A p).length = A.length := by simp [planActs]
theorem planActs_at {A : List (List Ac)} {p : List Int} {s : Nat} (hs : s < A.length) : ac (planActs A p) s = pact A p s := by simp [ac, planActs, hs]
theorem okX_plan {W : Wd} {p : List Int} (h : isPlanB W p = true) : OkX W.a W.b (planActs W.acts p) := by
  unfold isPlanB at h
  rw [Bool.and_eq_true] at h
  obtain ⟨⟨h1, h2, h3, h4, h5⟩, hv⟩ := vWd_parts h.1
  obtain ⟨hl, hp⟩ := planOk_at h.2
  refine ⟨by rw [planActs_len]; exact h1, by rw [planActs_len]; exact h2, h3, h4, h5, fun s hs => ?_⟩
  rw [planActs_len] at hs ⊢
  rw [planActs_at hs]
  have := hp s hs
  exact (hv s hs).2.2 _ (by omega)

theorem mRow_len {a b : Int} {x : Ac} {s : Nat} : (mRow a b x s).length = x.o.length := by simp [mRow, mBare]
theorem nth_set (l : List Int) (s i : Nat) (v : Int) : nth (l.set s v) i = if s = i ∧ i < l.length then v else nth l i := by
  unfold nth
  rw [List.getD_eq_getElem?_getD, List.getD_eq_getElem?_getD, List.getElem?_set]
  by_cases h : s = i
  · subst h
    by_cases h2 : s < l.length
    · simp [h2]
    · simp [h2]
  · simp [h]
theorem nth_map {f : Int → Int} {l : List Int} {i : Nat} (h : i < l.length) : nth (l.map f) i = f (nth l i) := by
  rw [nth_of_lt h, nth_of_lt (by simpa using h)]; simp
theorem mBare_bound {a b : Int} {x : Ac} {n : Nat} (h : vAc n x = true) (ha : 1 ≤ a) (hab : a < b) (hb : b ≤ 4) {j : Nat} (hj : j < n) : -9 ≤ nth (mBare a x) j ∧ nth (mBare a x) j ≤ 0 := by
  obtain ⟨_, _, h3, h4, _⟩ := vAc_at h
  unfold mBare
  rw [nth_map (by omega)]
  have h5 := h4 _ (nth_mem (l := x.o) (k := j) (by omega))
  have h6 := Int.mul_le_mul (show a ≤ 3 by omega) h5.2 h5.1 (by omega)
  have h7 := Int.mul_nonneg (show 0 ≤ a by omega) h5.1
  rw [Int.neg_mul]
  omega
theorem bsum_bound {b : Int} {x : Ac} {n : Nat} (h : vAc n x = true) (hn : n ≤ 4) (h1 : 1 ≤ b) (hb : b ≤ 4) : 1 ≤ b * isum x.o ∧ b * isum x.o ≤ 48 := by
  obtain ⟨_, _, _, _, h5, h6⟩ := vAc_at h
  have := Int.mul_le_mul hb (show isum x.o ≤ 12 by omega) (by omega) (by omega)
  have := Int.mul_le_mul h1 h5 (by omega) (by omega)
  omega
theorem mMat_at {a b : Int} {X : List Ac} {s : Nat} (hs : s < X.length) : rw_ (mMat a b X) s = mRow a b (ac X s) s := by simp [rw_, mMat, hs]
theorem mMat_len {a b : Int} {X : List Ac} : (mMat a b X).length = X.length := by simp [mMat]
theorem mMat_sq {a b : Int} {X : List Ac} (h : OkX a b X) : Sq X.length (mMat a b X) := by
  obtain ⟨h1, h2, h3, h4, h5, h6⟩ := h
  refine ⟨mMat_len, fun k hk => ?_⟩
  have hv := h6 k hk
  obtain ⟨_, _, hl, _⟩ := vAc_at hv
  rw [mMat_at hk]
  refine ⟨by rw [mRow_len]; exact hl, fun j hj => ?_⟩
  unfold mRow
  rw [nth_set]
  have e1 := mBare_bound hv h3 h4 h5 hj
  have e2 := mBare_bound hv h3 h4 h5 hk
  have e3 := bsum_bound hv h2 (by omega) h5
  split <;> omega
theorem mRight_len {b : Int} {X : List Ac} : (mRight b X).length = X.length := by simp [mRight]
theorem mRight_at {b : Int} {X : List Ac} {s : Nat} (hs : s < X.length) : nth (mRight b X) s = b * isum (ac X s).o * (ac X s).g := by
  rw [nth_of_lt (by rw [mRight_len]; exact hs)]; simp [mRight, ac, hs]
theorem mRight_bound {a b : Int} {X : List Ac} (h : OkX a b X) {s : Nat} (hs : s < X.length) : -432 ≤ nth (mRight b X) s ∧ nth (mRight b X) s ≤ 432 := by
  obtain ⟨h1, h2, h3, h4, h5, h6⟩ := h
  obtain ⟨g1, g2, _⟩ := vAc_at (h6 s hs)
  have e3 := bsum_bound (h6 s hs) h2 (by omega) h5
  rw [mRight_at hs]
  have := mul_le3 (A := 48) (B := 9) (show -48 ≤ b * isum (ac X s).o by omega) e3.2 (show -9 ≤ (ac X s).g by omega) g2 (by omega)
  omega
theorem colSet_len {M : List (List Int)} {s : Nat} {r : List Int} : (colSet M s r).length = M.length := by simp [colSet]
theorem colSet_at {M : List (List Int)} {s : Nat} {r : List Int} {i : Nat} (hi : i < M.length) : rw_ (colSet M s r) i = (rw_ M i).set s (nth r i) := by simp [rw_, colSet, hi]
theorem colSet_sq {n s : Nat} {M : List (List Int)} {r : List Int} (h : Sq n M) (hr : ∀ i, i < n → -500 ≤ nth r i ∧ nth r i ≤ 500) : Sq n (colSet M s r) := by
  obtain ⟨h1, h2⟩ := h
  refine ⟨by rw [colSet_len]; exact h1, fun k hk => ?_⟩
  obtain ⟨h3, h4⟩ := h2 k hk
  rw [colSet_at (by omega)]
  refine ⟨by simp [h3], fun j hj => ?_⟩
  rw [nth_set]
  split
  · exact hr k hk
  · exact h4 j hj
theorem wN_bound {a b : Int} {X : List Ac} (h : OkX a b X) (s : Nat) : -1500000000000 ≤ wN a b X s ∧ wN a b X s ≤ 1500000000000 := by
  have h1 := detL_bound _ _ (colSet_sq (s := s) (r := mRight b X) (mMat_sq h) (fun i hi => by have := mRight_bound h hi; omega))
  have h2 : dB X.length ≤ 1500000000000 := by
    have : X.length = 1 ∨ X.length = 2 ∨ X.length = 3 ∨ X.length = 4 := by have := h.1; have := h.2.1; omega
    rcases this with e | e | e | e <;> rw [e] <;> decide
  unfold wN
  omega
theorem wD_bound {a b : Int} {X : List Ac} (h : OkX a b X) : -1500000000000 ≤ wD a b X ∧ wD a b X ≤ 1500000000000 := by
  have h1 := detL_bound _ _ (mMat_sq h)
  have h2 : dB X.length ≤ 1500000000000 := by
    have : X.length = 1 ∨ X.length = 2 ∨ X.length = 3 ∨ X.length = 4 := by have := h.1; have := h.2.1; omega
    rcases this with e | e | e | e <;> rw [e] <;> decide
  unfold wD
  omega
end Go.Proofs.Ytcmakddnjmeklaa
