/- Chapter 9, plain: the trees that lead to a state. -/
import Derived.Test.YtcmakddnjmeklaaVe
namespace Go.Proofs.Ytcmakddnjmeklaa
open Go.RowKit

def tr2 (a1 a2 b12 b21 : Int) : Int := a1*a2 + a1*b21 + a2*b12
def tr3 (a1 a2 a3 b12 b13 b21 b23 b31 b32 : Int) : Int := a1*a2*a3 + a1*a2*b31 + a1*a2*b32 + a1*b21*a3 + a1*b21*b31 + a1*b21*b32 + a1*b23*a3 + a1*b23*b31 + b12*a2*a3 + b12*a2*b31 + b12*a2*b32 + b12*b23*a3 + b13*a2*a3 + b13*a2*b32 + b13*b21*a3 + b13*b23*a3
theorem d2_tr (a1 a2 b12 b21 : Int) : d2 (a1 + b12) (-b12) (-b21) (a2 + b21) = tr2 a1 a2 b12 b21 := by unfold d2 tr2; grind
theorem d3_tr (a1 a2 a3 b12 b13 b21 b23 b31 b32 : Int) : d3 (a1 + b12 + b13) (-b12) (-b13) (-b21) (a2 + b21 + b23) (-b23) (-b31) (-b32) (a3 + b31 + b32) = tr3 a1 a2 a3 b12 b13 b21 b23 b31 b32 := by unfold d3 d2 tr3; grind
theorem tr2_pos {a1 a2 b12 b21 : Int} (h1 : 0 ≤ a1) (h2 : 0 ≤ a2) (h3 : 0 ≤ b12) (h4 : 0 ≤ b21) (c1 : 0 < a1 ∨ 0 < b12) (c2 : 0 < a2 ∨ 0 < b21) (c3 : 0 < a1 ∨ 0 < a2) : 0 < tr2 a1 a2 b12 b21 := by
  have p1 := pp h1 h2
  have p2 := pp h1 h4
  have p3 := pp h2 h3
  unfold tr2
  by_cases q : 0 < a1
  · rcases c2 with c2 | c2
    · have := Int.mul_pos q c2; omega
    · have := Int.mul_pos q c2; omega
  · have q2 : 0 < b12 := by omega
    have q3 : 0 < a2 := by omega
    have := Int.mul_pos q3 q2; omega
theorem tr2_le {a1 a2 b12 b21 : Int} (_h1 : 0 ≤ a1) (_h2 : 0 ≤ a2) (h3 : 0 ≤ b12) (h4 : 0 ≤ b21) : tr2 a1 a2 b12 b21 ≤ (a1 + b12) * (a2 + b21) := by
  have p1 := pp h3 h4
  have e : (a1 + b12) * (a2 + b21) = tr2 a1 a2 b12 b21 + b12 * b21 := by unfold tr2; grind
  omega
theorem treeB : ∀ a1 a2 a3 b12 b13 b21 b23 b31 b32 : Bool, (a1 || b12 || b13) = true → (a2 || b21 || b23) = true → (a3 || b31 || b32) = true → (a1 || b13 || a2 || b23) = true → (a1 || b12 || a3 || b32) = true → (a2 || b21 || a3 || b31) = true → (a1 || a2 || a3) = true → ((a1 && a2 && a3) || (a1 && a2 && b31) || (a1 && a2 && b32) || (a1 && b21 && a3) || (a1 && b21 && b31) || (a1 && b21 && b32) || (a1 && b23 && a3) || (a1 && b23 && b31) || (b12 && a2 && a3) || (b12 && a2 && b31) || (b12 && a2 && b32) || (b12 && b23 && a3) || (b13 && a2 && a3) || (b13 && a2 && b32) || (b13 && b21 && a3) || (b13 && b23 && a3)) = true := by decide
theorem tr3_pos {a1 a2 a3 b12 b13 b21 b23 b31 b32 : Int} (ha1 : 0 ≤ a1) (ha2 : 0 ≤ a2) (ha3 : 0 ≤ a3) (hb12 : 0 ≤ b12) (hb13 : 0 ≤ b13) (hb21 : 0 ≤ b21) (hb23 : 0 ≤ b23) (hb31 : 0 ≤ b31) (hb32 : 0 ≤ b32) (c0 : 0 < a1 ∨ 0 < b12 ∨ 0 < b13) (c1 : 0 < a2 ∨ 0 < b21 ∨ 0 < b23) (c2 : 0 < a3 ∨ 0 < b31 ∨ 0 < b32) (c3 : 0 < a1 ∨ 0 < b13 ∨ 0 < a2 ∨ 0 < b23) (c4 : 0 < a1 ∨ 0 < b12 ∨ 0 < a3 ∨ 0 < b32) (c5 : 0 < a2 ∨ 0 < b21 ∨ 0 < a3 ∨ 0 < b31) (c6 : 0 < a1 ∨ 0 < a2 ∨ 0 < a3) : 0 < tr3 a1 a2 a3 b12 b13 b21 b23 b31 b32 := by
  have hb := treeB (decide (0 < a1)) (decide (0 < a2)) (decide (0 < a3)) (decide (0 < b12)) (decide (0 < b13)) (decide (0 < b21)) (decide (0 < b23)) (decide (0 < b31)) (decide (0 < b32)) (by simpa [or_assoc] using c0) (by simpa [or_assoc] using c1) (by simpa [or_assoc] using c2) (by simpa [or_assoc] using c3) (by simpa [or_assoc] using c4) (by simpa [or_assoc] using c5) (by simpa [or_assoc] using c6)
  simp only [Bool.or_eq_true, Bool.and_eq_true, decide_eq_true_eq] at hb
  have p0 := pp (pp ha1 ha2) ha3
  have p1 := pp (pp ha1 ha2) hb31
  have p2 := pp (pp ha1 ha2) hb32
  have p3 := pp (pp ha1 hb21) ha3
  have p4 := pp (pp ha1 hb21) hb31
  have p5 := pp (pp ha1 hb21) hb32
  have p6 := pp (pp ha1 hb23) ha3
  have p7 := pp (pp ha1 hb23) hb31
  have p8 := pp (pp hb12 ha2) ha3
  have p9 := pp (pp hb12 ha2) hb31
  have p10 := pp (pp hb12 ha2) hb32
  have p11 := pp (pp hb12 hb23) ha3
  have p12 := pp (pp hb13 ha2) ha3
  have p13 := pp (pp hb13 ha2) hb32
  have p14 := pp (pp hb13 hb21) ha3
  have p15 := pp (pp hb13 hb23) ha3
  unfold tr3
  rcases hb with ((((((((((((((⟨⟨x, y⟩, z⟩ | ⟨⟨x, y⟩, z⟩) | ⟨⟨x, y⟩, z⟩) | ⟨⟨x, y⟩, z⟩) | ⟨⟨x, y⟩, z⟩) | ⟨⟨x, y⟩, z⟩) | ⟨⟨x, y⟩, z⟩) | ⟨⟨x, y⟩, z⟩) | ⟨⟨x, y⟩, z⟩) | ⟨⟨x, y⟩, z⟩) | ⟨⟨x, y⟩, z⟩) | ⟨⟨x, y⟩, z⟩) | ⟨⟨x, y⟩, z⟩) | ⟨⟨x, y⟩, z⟩) | ⟨⟨x, y⟩, z⟩) | ⟨⟨x, y⟩, z⟩ <;> (have w := Int.mul_pos (Int.mul_pos x y) z; omega)
theorem tr3_le {a1 a2 a3 b12 b13 b21 b23 b31 b32 : Int} (ha1 : 0 ≤ a1) (ha2 : 0 ≤ a2) (ha3 : 0 ≤ a3) (hb12 : 0 ≤ b12) (hb13 : 0 ≤ b13) (hb21 : 0 ≤ b21) (hb23 : 0 ≤ b23) (hb31 : 0 ≤ b31) (hb32 : 0 ≤ b32) : tr3 a1 a2 a3 b12 b13 b21 b23 b31 b32 ≤ (a1 + b12 + b13) * (a2 + b21 + b23) * (a3 + b31 + b32) := by
  have p0 := pp (pp ha1 hb23) hb32
  have p1 := pp (pp hb12 hb21) ha3
  have p2 := pp (pp hb12 hb21) hb31
  have p3 := pp (pp hb12 hb21) hb32
  have p4 := pp (pp hb12 hb23) hb31
  have p5 := pp (pp hb12 hb23) hb32
  have p6 := pp (pp hb13 ha2) hb31
  have p7 := pp (pp hb13 hb21) hb31
  have p8 := pp (pp hb13 hb21) hb32
  have p9 := pp (pp hb13 hb23) hb31
  have p10 := pp (pp hb13 hb23) hb32
  have e : (a1 + b12 + b13) * (a2 + b21 + b23) * (a3 + b31 + b32) = tr3 a1 a2 a3 b12 b13 b21 b23 b31 b32 + (a1*b23*b32 + b12*b21*a3 + b12*b21*b31 + b12*b21*b32 + b12*b23*b31 + b12*b23*b32 + b13*a2*b31 + b13*b21*b31 + b13*b21*b32 + b13*b23*b31 + b13*b23*b32) := by unfold tr3; grind
  omega
/-! ### minors -/
theorem shp_dropi {n : Nat} {M : List (List Int)} (h : Shp (n + 1) M) {i j : Nat} (hi : i < n + 1) (hj : j < n + 1) : Shp n (dropRow M i j) := by
  refine ⟨by rw [dropi_len (by have := h.1; omega)]; have := h.1; omega, fun k hk => ?_⟩
  have := h.2 (if k < i then k else k + 1) (by split <;> omega)
  rw [rw_dropi M i j k (by have := h.1; omega)]
  simp; omega
theorem en_dropi {n : Nat} {M : List (List Int)} (h : Shp (n + 1) M) {i j k u : Nat} (_hi : i < n + 1) (hj : j < n + 1) (hk : k < n) : en (dropRow M i j) k u = en M (if k < i then k else k + 1) (if u < j then u else u + 1) := by
  unfold en
  have := h.2 (if k < i then k else k + 1) (by split <;> omega)
  rw [rw_dropi M i j k (by have := h.1; omega), nth_app]
  have hl : ((rw_ M (if k < i then k else k + 1)).take j).length = j := by simp; omega
  rw [hl]
  by_cases q : u < j
  · rw [if_pos q, if_pos q, nth_take q]
  · rw [if_neg q, if_neg q, nth_drop]; congr 1; omega
/-- What flows between K states that go nowhere else. -/
structure FlowM (K : Nat) (M : List (List Int)) (q : Nat → Nat → Int) (S : Nat → Int) : Prop where
  shp : Shp K M
  en : ∀ i j, i < K → j < K → en M i j = (if i = j then S i else 0) - q i j
  nn : ∀ i j, i < K → j < K → 0 ≤ q i j
  sum : ∀ i, i < K → S i = sumN (q i) K
def mnr (K : Nat) (M : List (List Int)) (i : Nat) : Int := detL (K - 1) (dropRow M i i)
theorem mnr1 {M : List (List Int)} : mnr 1 M 0 = 1 := rfl
theorem mnr2_0 {M : List (List Int)} {q : Nat → Nat → Int} {S : Nat → Int} (h : FlowM 2 M q S) : mnr 2 M 0 = (q 1 0) := by
  have s1 := h.sum 1 (by omega)
  simp only [sumN] at s1
  show detL 1 (dropRow M 0 0) = _
  rw [detL1]
  have e00 : en (dropRow M 0 0) 0 0 = en M 1 1 := en_dropi h.shp (by omega) (by omega) (by omega)
  rw [h.en 1 1 (by omega) (by omega), if_pos rfl] at e00
  rw [e00]
  omega
theorem mnr2_1 {M : List (List Int)} {q : Nat → Nat → Int} {S : Nat → Int} (h : FlowM 2 M q S) : mnr 2 M 1 = (q 0 1) := by
  have s0 := h.sum 0 (by omega)
  simp only [sumN] at s0
  show detL 1 (dropRow M 1 1) = _
  rw [detL1]
  have e00 : en (dropRow M 1 1) 0 0 = en M 0 0 := en_dropi h.shp (by omega) (by omega) (by omega)
  rw [h.en 0 0 (by omega) (by omega), if_pos rfl] at e00
  rw [e00]
  omega
theorem mnr3_0 {M : List (List Int)} {q : Nat → Nat → Int} {S : Nat → Int} (h : FlowM 3 M q S) : mnr 3 M 0 = tr2 (q 1 0) (q 2 0) (q 1 2) (q 2 1) := by
  have s1 := h.sum 1 (by omega)
  have s2 := h.sum 2 (by omega)
  simp only [sumN] at s1 s2
  show detL 2 (dropRow M 0 0) = _
  rw [detL2 (shp_dropi h.shp (by omega) (by omega))]
  have e00 : en (dropRow M 0 0) 0 0 = en M 1 1 := en_dropi h.shp (by omega) (by omega) (by omega)
  rw [h.en 1 1 (by omega) (by omega), if_pos rfl] at e00
  have e01 : en (dropRow M 0 0) 0 1 = en M 1 2 := en_dropi h.shp (by omega) (by omega) (by omega)
  rw [h.en 1 2 (by omega) (by omega), if_neg (by omega)] at e01
  have e10 : en (dropRow M 0 0) 1 0 = en M 2 1 := en_dropi h.shp (by omega) (by omega) (by omega)
  rw [h.en 2 1 (by omega) (by omega), if_neg (by omega)] at e10
  have e11 : en (dropRow M 0 0) 1 1 = en M 2 2 := en_dropi h.shp (by omega) (by omega) (by omega)
  rw [h.en 2 2 (by omega) (by omega), if_pos rfl] at e11
  rw [e00, e01, e10, e11]
  rw [← d2_tr]
  congr 1 <;> omega
theorem mnr3_1 {M : List (List Int)} {q : Nat → Nat → Int} {S : Nat → Int} (h : FlowM 3 M q S) : mnr 3 M 1 = tr2 (q 0 1) (q 2 1) (q 0 2) (q 2 0) := by
  have s0 := h.sum 0 (by omega)
  have s2 := h.sum 2 (by omega)
  simp only [sumN] at s0 s2
  show detL 2 (dropRow M 1 1) = _
  rw [detL2 (shp_dropi h.shp (by omega) (by omega))]
  have e00 : en (dropRow M 1 1) 0 0 = en M 0 0 := en_dropi h.shp (by omega) (by omega) (by omega)
  rw [h.en 0 0 (by omega) (by omega), if_pos rfl] at e00
  have e01 : en (dropRow M 1 1) 0 1 = en M 0 2 := en_dropi h.shp (by omega) (by omega) (by omega)
  rw [h.en 0 2 (by omega) (by omega), if_neg (by omega)] at e01
  have e10 : en (dropRow M 1 1) 1 0 = en M 2 0 := en_dropi h.shp (by omega) (by omega) (by omega)
  rw [h.en 2 0 (by omega) (by omega), if_neg (by omega)] at e10
  have e11 : en (dropRow M 1 1) 1 1 = en M 2 2 := en_dropi h.shp (by omega) (by omega) (by omega)
  rw [h.en 2 2 (by omega) (by omega), if_pos rfl] at e11
  rw [e00, e01, e10, e11]
  rw [← d2_tr]
  congr 1 <;> omega
theorem mnr3_2 {M : List (List Int)} {q : Nat → Nat → Int} {S : Nat → Int} (h : FlowM 3 M q S) : mnr 3 M 2 = tr2 (q 0 2) (q 1 2) (q 0 1) (q 1 0) := by
  have s0 := h.sum 0 (by omega)
  have s1 := h.sum 1 (by omega)
  simp only [sumN] at s0 s1
  show detL 2 (dropRow M 2 2) = _
  rw [detL2 (shp_dropi h.shp (by omega) (by omega))]
  have e00 : en (dropRow M 2 2) 0 0 = en M 0 0 := en_dropi h.shp (by omega) (by omega) (by omega)
  rw [h.en 0 0 (by omega) (by omega), if_pos rfl] at e00
  have e01 : en (dropRow M 2 2) 0 1 = en M 0 1 := en_dropi h.shp (by omega) (by omega) (by omega)
  rw [h.en 0 1 (by omega) (by omega), if_neg (by omega)] at e01
  have e10 : en (dropRow M 2 2) 1 0 = en M 1 0 := en_dropi h.shp (by omega) (by omega) (by omega)
  rw [h.en 1 0 (by omega) (by omega), if_neg (by omega)] at e10
  have e11 : en (dropRow M 2 2) 1 1 = en M 1 1 := en_dropi h.shp (by omega) (by omega) (by omega)
  rw [h.en 1 1 (by omega) (by omega), if_pos rfl] at e11
  rw [e00, e01, e10, e11]
  rw [← d2_tr]
  congr 1 <;> omega
theorem mnr4_0 {M : List (List Int)} {q : Nat → Nat → Int} {S : Nat → Int} (h : FlowM 4 M q S) : mnr 4 M 0 = tr3 (q 1 0) (q 2 0) (q 3 0) (q 1 2) (q 1 3) (q 2 1) (q 2 3) (q 3 1) (q 3 2) := by
  have s1 := h.sum 1 (by omega)
  have s2 := h.sum 2 (by omega)
  have s3 := h.sum 3 (by omega)
  simp only [sumN] at s1 s2 s3
  show detL 3 (dropRow M 0 0) = _
  rw [detL3 (shp_dropi h.shp (by omega) (by omega))]
  have e00 : en (dropRow M 0 0) 0 0 = en M 1 1 := en_dropi h.shp (by omega) (by omega) (by omega)
  rw [h.en 1 1 (by omega) (by omega), if_pos rfl] at e00
  have e01 : en (dropRow M 0 0) 0 1 = en M 1 2 := en_dropi h.shp (by omega) (by omega) (by omega)
  rw [h.en 1 2 (by omega) (by omega), if_neg (by omega)] at e01
  have e02 : en (dropRow M 0 0) 0 2 = en M 1 3 := en_dropi h.shp (by omega) (by omega) (by omega)
  rw [h.en 1 3 (by omega) (by omega), if_neg (by omega)] at e02
  have e10 : en (dropRow M 0 0) 1 0 = en M 2 1 := en_dropi h.shp (by omega) (by omega) (by omega)
  rw [h.en 2 1 (by omega) (by omega), if_neg (by omega)] at e10
  have e11 : en (dropRow M 0 0) 1 1 = en M 2 2 := en_dropi h.shp (by omega) (by omega) (by omega)
  rw [h.en 2 2 (by omega) (by omega), if_pos rfl] at e11
  have e12 : en (dropRow M 0 0) 1 2 = en M 2 3 := en_dropi h.shp (by omega) (by omega) (by omega)
  rw [h.en 2 3 (by omega) (by omega), if_neg (by omega)] at e12
  have e20 : en (dropRow M 0 0) 2 0 = en M 3 1 := en_dropi h.shp (by omega) (by omega) (by omega)
  rw [h.en 3 1 (by omega) (by omega), if_neg (by omega)] at e20
  have e21 : en (dropRow M 0 0) 2 1 = en M 3 2 := en_dropi h.shp (by omega) (by omega) (by omega)
  rw [h.en 3 2 (by omega) (by omega), if_neg (by omega)] at e21
  have e22 : en (dropRow M 0 0) 2 2 = en M 3 3 := en_dropi h.shp (by omega) (by omega) (by omega)
  rw [h.en 3 3 (by omega) (by omega), if_pos rfl] at e22
  rw [e00, e01, e02, e10, e11, e12, e20, e21, e22]
  rw [← d3_tr]
  congr 1 <;> omega
theorem mnr4_1 {M : List (List Int)} {q : Nat → Nat → Int} {S : Nat → Int} (h : FlowM 4 M q S) : mnr 4 M 1 = tr3 (q 0 1) (q 2 1) (q 3 1) (q 0 2) (q 0 3) (q 2 0) (q 2 3) (q 3 0) (q 3 2) := by
  have s0 := h.sum 0 (by omega)
  have s2 := h.sum 2 (by omega)
  have s3 := h.sum 3 (by omega)
  simp only [sumN] at s0 s2 s3
  show detL 3 (dropRow M 1 1) = _
  rw [detL3 (shp_dropi h.shp (by omega) (by omega))]
  have e00 : en (dropRow M 1 1) 0 0 = en M 0 0 := en_dropi h.shp (by omega) (by omega) (by omega)
  rw [h.en 0 0 (by omega) (by omega), if_pos rfl] at e00
  have e01 : en (dropRow M 1 1) 0 1 = en M 0 2 := en_dropi h.shp (by omega) (by omega) (by omega)
  rw [h.en 0 2 (by omega) (by omega), if_neg (by omega)] at e01
  have e02 : en (dropRow M 1 1) 0 2 = en M 0 3 := en_dropi h.shp (by omega) (by omega) (by omega)
  rw [h.en 0 3 (by omega) (by omega), if_neg (by omega)] at e02
  have e10 : en (dropRow M 1 1) 1 0 = en M 2 0 := en_dropi h.shp (by omega) (by omega) (by omega)
  rw [h.en 2 0 (by omega) (by omega), if_neg (by omega)] at e10
  have e11 : en (dropRow M 1 1) 1 1 = en M 2 2 := en_dropi h.shp (by omega) (by omega) (by omega)
  rw [h.en 2 2 (by omega) (by omega), if_pos rfl] at e11
  have e12 : en (dropRow M 1 1) 1 2 = en M 2 3 := en_dropi h.shp (by omega) (by omega) (by omega)
  rw [h.en 2 3 (by omega) (by omega), if_neg (by omega)] at e12
  have e20 : en (dropRow M 1 1) 2 0 = en M 3 0 := en_dropi h.shp (by omega) (by omega) (by omega)
  rw [h.en 3 0 (by omega) (by omega), if_neg (by omega)] at e20
  have e21 : en (dropRow M 1 1) 2 1 = en M 3 2 := en_dropi h.shp (by omega) (by omega) (by omega)
  rw [h.en 3 2 (by omega) (by omega), if_neg (by omega)] at e21
  have e22 : en (dropRow M 1 1) 2 2 = en M 3 3 := en_dropi h.shp (by omega) (by omega) (by omega)
  rw [h.en 3 3 (by omega) (by omega), if_pos rfl] at e22
  rw [e00, e01, e02, e10, e11, e12, e20, e21, e22]
  rw [← d3_tr]
  congr 1 <;> omega
theorem mnr4_2 {M : List (List Int)} {q : Nat → Nat → Int} {S : Nat → Int} (h : FlowM 4 M q S) : mnr 4 M 2 = tr3 (q 0 2) (q 1 2) (q 3 2) (q 0 1) (q 0 3) (q 1 0) (q 1 3) (q 3 0) (q 3 1) := by
  have s0 := h.sum 0 (by omega)
  have s1 := h.sum 1 (by omega)
  have s3 := h.sum 3 (by omega)
  simp only [sumN] at s0 s1 s3
  show detL 3 (dropRow M 2 2) = _
  rw [detL3 (shp_dropi h.shp (by omega) (by omega))]
  have e00 : en (dropRow M 2 2) 0 0 = en M 0 0 := en_dropi h.shp (by omega) (by omega) (by omega)
  rw [h.en 0 0 (by omega) (by omega), if_pos rfl] at e00
  have e01 : en (dropRow M 2 2) 0 1 = en M 0 1 := en_dropi h.shp (by omega) (by omega) (by omega)
  rw [h.en 0 1 (by omega) (by omega), if_neg (by omega)] at e01
  have e02 : en (dropRow M 2 2) 0 2 = en M 0 3 := en_dropi h.shp (by omega) (by omega) (by omega)
  rw [h.en 0 3 (by omega) (by omega), if_neg (by omega)] at e02
  have e10 : en (dropRow M 2 2) 1 0 = en M 1 0 := en_dropi h.shp (by omega) (by omega) (by omega)
  rw [h.en 1 0 (by omega) (by omega), if_neg (by omega)] at e10
  have e11 : en (dropRow M 2 2) 1 1 = en M 1 1 := en_dropi h.shp (by omega) (by omega) (by omega)
  rw [h.en 1 1 (by omega) (by omega), if_pos rfl] at e11
  have e12 : en (dropRow M 2 2) 1 2 = en M 1 3 := en_dropi h.shp (by omega) (by omega) (by omega)
  rw [h.en 1 3 (by omega) (by omega), if_neg (by omega)] at e12
  have e20 : en (dropRow M 2 2) 2 0 = en M 3 0 := en_dropi h.shp (by omega) (by omega) (by omega)
  rw [h.en 3 0 (by omega) (by omega), if_neg (by omega)] at e20
  have e21 : en (dropRow M 2 2) 2 1 = en M 3 1 := en_dropi h.shp (by omega) (by omega) (by omega)
  rw [h.en 3 1 (by omega) (by omega), if_neg (by omega)] at e21
  have e22 : en (dropRow M 2 2) 2 2 = en M 3 3 := en_dropi h.shp (by omega) (by omega) (by omega)
  rw [h.en 3 3 (by omega) (by omega), if_pos rfl] at e22
  rw [e00, e01, e02, e10, e11, e12, e20, e21, e22]
  rw [← d3_tr]
  congr 1 <;> omega
theorem mnr4_3 {M : List (List Int)} {q : Nat → Nat → Int} {S : Nat → Int} (h : FlowM 4 M q S) : mnr 4 M 3 = tr3 (q 0 3) (q 1 3) (q 2 3) (q 0 1) (q 0 2) (q 1 0) (q 1 2) (q 2 0) (q 2 1) := by
  have s0 := h.sum 0 (by omega)
  have s1 := h.sum 1 (by omega)
  have s2 := h.sum 2 (by omega)
  simp only [sumN] at s0 s1 s2
  show detL 3 (dropRow M 3 3) = _
  rw [detL3 (shp_dropi h.shp (by omega) (by omega))]
  have e00 : en (dropRow M 3 3) 0 0 = en M 0 0 := en_dropi h.shp (by omega) (by omega) (by omega)
  rw [h.en 0 0 (by omega) (by omega), if_pos rfl] at e00
  have e01 : en (dropRow M 3 3) 0 1 = en M 0 1 := en_dropi h.shp (by omega) (by omega) (by omega)
  rw [h.en 0 1 (by omega) (by omega), if_neg (by omega)] at e01
  have e02 : en (dropRow M 3 3) 0 2 = en M 0 2 := en_dropi h.shp (by omega) (by omega) (by omega)
  rw [h.en 0 2 (by omega) (by omega), if_neg (by omega)] at e02
  have e10 : en (dropRow M 3 3) 1 0 = en M 1 0 := en_dropi h.shp (by omega) (by omega) (by omega)
  rw [h.en 1 0 (by omega) (by omega), if_neg (by omega)] at e10
  have e11 : en (dropRow M 3 3) 1 1 = en M 1 1 := en_dropi h.shp (by omega) (by omega) (by omega)
  rw [h.en 1 1 (by omega) (by omega), if_pos rfl] at e11
  have e12 : en (dropRow M 3 3) 1 2 = en M 1 2 := en_dropi h.shp (by omega) (by omega) (by omega)
  rw [h.en 1 2 (by omega) (by omega), if_neg (by omega)] at e12
  have e20 : en (dropRow M 3 3) 2 0 = en M 2 0 := en_dropi h.shp (by omega) (by omega) (by omega)
  rw [h.en 2 0 (by omega) (by omega), if_neg (by omega)] at e20
  have e21 : en (dropRow M 3 3) 2 1 = en M 2 1 := en_dropi h.shp (by omega) (by omega) (by omega)
  rw [h.en 2 1 (by omega) (by omega), if_neg (by omega)] at e21
  have e22 : en (dropRow M 3 3) 2 2 = en M 2 2 := en_dropi h.shp (by omega) (by omega) (by omega)
  rw [h.en 2 2 (by omega) (by omega), if_pos rfl] at e22
  rw [e00, e01, e02, e10, e11, e12, e20, e21, e22]
  rw [← d3_tr]
  congr 1 <;> omega
end Go.Proofs.Ytcmakddnjmeklaa
