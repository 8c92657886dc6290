/- Chapter 9, plain: determinants, Cramer, the worth compared with prices. -/
import Derived.Test.YtcmakddnjmeklaaZt
namespace Go.Proofs.Ytcmakddnjmeklaa
open Go.RowKit

def d2 (a b c d : Int) : Int := a*d - b*c
def d3 (a b c d e f g h i : Int) : Int := a*d2 e f h i - b*d2 d f g i + c*d2 d e g h
def d4 (a b c d e f g h i j k l m n o p : Int) : Int := a*d3 f g h j k l n o p - b*d3 e g h i k l m o p + c*d3 e f h i j l m n p - d * d3 e f g i j k m n o
theorem chio3 (a b c d e f g h i : Int) : d2 (a*e-b*d) (a*f-c*d) (a*h-b*g) (a*i-c*g) = a * d3 a b c d e f g h i := by unfold d3 d2; grind
theorem chio4 (a b c d e f g h i j k l m n o p : Int) :
    d3 (a*f-b*e) (a*g-c*e) (a*h-d*e) (a*j-b*i) (a*k-c*i) (a*l-d*i) (a*n-b*m) (a*o-c*m) (a*p-d*m) = a*(a*d4 a b c d e f g h i j k l m n o p) := by
  unfold d4 d3 d2; grind
theorem of_mul_pos {a b : Int} (ha : 0 < a) (h : 0 < a * b) : 0 < b := Int.pos_of_mul_pos_right (by simpa using h) ha
theorem of_mul_le {a b c : Int} (ha : 0 < a) (h : a * b ≤ a * c) : b ≤ c := Int.le_of_mul_le_mul_left h ha
theorem np {a b : Int} (ha : a ≤ 0) (hb : b ≤ 0) : 0 ≤ a * b := Int.mul_nonneg_of_nonpos_of_nonpos ha hb
theorem pn {a b : Int} (ha : 0 ≤ a) (hb : b ≤ 0) : a * b ≤ 0 := Int.mul_nonpos_of_nonneg_of_nonpos ha hb
theorem pp {a b : Int} (ha : 0 ≤ a) (hb : 0 ≤ b) : 0 ≤ a * b := Int.mul_nonneg ha hb
theorem det2_pos {a b c d : Int} (hb : b ≤ 0) (hc : c ≤ 0) (h1 : 0 < a + b) (h2 : 0 < c + d) : 0 < d2 a b c d ∧ d2 a b c d ≤ a * d := by
  have e1 : d2 a b c d = (a + b) * d + (-b) * (c + d) := by unfold d2; grind
  have q1 : 0 < (a + b) * d := Int.mul_pos h1 (by omega)
  have q2 : 0 ≤ (-b) * (c + d) := pp (by omega) (by omega)
  have q3 := np hb hc
  exact ⟨by omega, by unfold d2; omega⟩
theorem det3_pos {a b c d e f g h i : Int} (hb : b ≤ 0) (hc : c ≤ 0) (hd : d ≤ 0) (hf : f ≤ 0) (hg : g ≤ 0) (hh : h ≤ 0) (h1 : 0 < a + b + c) (h2 : 0 < d + e + f) (h3 : 0 < g + h + i) :
    0 < d3 a b c d e f g h i ∧ d3 a b c d e f g h i ≤ a * (e * i) := by
  have ha : 0 < a := by omega
  have t1 := pn (show 0 ≤ a by omega) hf
  have t2 := pn (show 0 ≤ a by omega) hh
  have t3 := np hc hd
  have t4 := np hb hg
  have s1 : a * (d + e + f) - d * (a + b + c) = (a*e-b*d) + (a*f-c*d) := by grind
  have s2 : a * (g + h + i) - g * (a + b + c) = (a*h-b*g) + (a*i-c*g) := by grind
  have p1 := Int.mul_pos ha h2
  have p2 := Int.mul_pos ha h3
  have p3 := pn (show 0 ≤ a + b + c by omega) hd
  have p4 := pn (show 0 ≤ a + b + c by omega) hg
  rw [Int.mul_comm] at p3 p4
  have q := det2_pos (a := a*e-b*d) (b := a*f-c*d) (c := a*h-b*g) (d := a*i-c*g) (by omega) (by omega) (by omega) (by omega)
  rw [chio3] at q
  have u1 := np hb hd
  have u2 := np hc hg
  have m1 : (a*e-b*d) * (a*i-c*g) ≤ (a * e) * (a * i) := Int.mul_le_mul (by omega) (by omega) (by omega) (Int.le_of_lt (Int.mul_pos ha (by omega)))
  refine ⟨of_mul_pos ha q.1, of_mul_le ha (Int.le_trans q.2 (Int.le_trans m1 (Int.le_of_eq (by grind))))⟩
theorem det4_pos {a b c d e f g h i j k l m n o p : Int} (hb : b ≤ 0) (hc : c ≤ 0) (hd : d ≤ 0) (he : e ≤ 0) (hg : g ≤ 0) (hh : h ≤ 0) (hi : i ≤ 0) (hj : j ≤ 0) (hl : l ≤ 0) (hm : m ≤ 0) (hn : n ≤ 0) (ho : o ≤ 0)
    (h1 : 0 < a + b + c + d) (h2 : 0 < e + f + g + h) (h3 : 0 < i + j + k + l) (h4 : 0 < m + n + o + p) :
    0 < d4 a b c d e f g h i j k l m n o p ∧ d4 a b c d e f g h i j k l m n o p ≤ a * (f * (k * p)) := by
  have ha : 0 < a := by omega
  have ha0 : 0 ≤ a := by omega
  have x1 := pn ha0 hg
  have x2 := pn ha0 hh
  have x3 := pn ha0 hj
  have x4 := pn ha0 hl
  have x5 := pn ha0 hn
  have x6 := pn ha0 ho
  have y1 := np hc he
  have y2 := np hd he
  have y3 := np hb hi
  have y4 := np hd hi
  have y5 := np hb hm
  have y6 := np hc hm
  have z1 := np hb he
  have z2 := np hc hi
  have z3 := np hd hm
  have s1 : a * (e + f + g + h) - e * (a + b + c + d) = (a*f-b*e) + (a*g-c*e) + (a*h-d*e) := by grind
  have s2 : a * (i + j + k + l) - i * (a + b + c + d) = (a*j-b*i) + (a*k-c*i) + (a*l-d*i) := by grind
  have s3 : a * (m + n + o + p) - m * (a + b + c + d) = (a*n-b*m) + (a*o-c*m) + (a*p-d*m) := by grind
  have p1 := Int.mul_pos ha h2
  have p2 := Int.mul_pos ha h3
  have p3 := Int.mul_pos ha h4
  have r1 := pn (show 0 ≤ a + b + c + d by omega) he
  have r2 := pn (show 0 ≤ a + b + c + d by omega) hi
  have r3 := pn (show 0 ≤ a + b + c + d by omega) hm
  rw [Int.mul_comm] at r1 r2 r3
  have q := det3_pos (a := a*f-b*e) (b := a*g-c*e) (c := a*h-d*e) (d := a*j-b*i) (e := a*k-c*i) (f := a*l-d*i) (g := a*n-b*m) (h := a*o-c*m) (i := a*p-d*m) (by omega) (by omega) (by omega) (by omega) (by omega) (by omega) (by omega) (by omega) (by omega)
  rw [chio4] at q
  have w1 : (a*k-c*i) * (a*p-d*m) ≤ (a * k) * (a * p) := Int.mul_le_mul (by omega) (by omega) (by omega) (Int.le_of_lt (Int.mul_pos ha (by omega)))
  have w0 : 0 ≤ (a*k-c*i) * (a*p-d*m) := pp (by omega) (by omega)
  have w2 : (a*f-b*e) * ((a*k-c*i) * (a*p-d*m)) ≤ (a * f) * ((a * k) * (a * p)) := Int.mul_le_mul (by omega) w1 w0 (Int.le_of_lt (Int.mul_pos ha (by omega)))
  exact ⟨of_mul_pos ha (of_mul_pos ha q.1), of_mul_le ha (of_mul_le ha (Int.le_trans q.2 (Int.le_trans w2 (Int.le_of_eq (by grind)))))⟩

def sumN (f : Nat → Int) : Nat → Int
  | 0 => 0
  | k + 1 => sumN f k + f k
theorem sumN_le {f g : Nat → Int} : ∀ {n : Nat}, (∀ k, k < n → f k ≤ g k) → sumN f n ≤ sumN g n
  | 0, _ => Int.le_refl _
  | n + 1, h => Int.add_le_add (sumN_le fun k hk => h k (by omega)) (h n (by omega))
theorem sumN_congr {f g : Nat → Int} : ∀ {n : Nat}, (∀ k, k < n → f k = g k) → sumN f n = sumN g n
  | 0, _ => rfl
  | n + 1, h => by show sumN f n + f n = sumN g n + g n; rw [sumN_congr fun k hk => h k (by omega), h n (by omega)]
theorem sumN_mul (c : Int) (f : Nat → Int) : ∀ n, sumN (fun k => c * f k) n = c * sumN f n
  | 0 => by simp [sumN]
  | n + 1 => by show sumN _ n + c * f n = c * (sumN f n + f n); rw [sumN_mul c f n, Int.mul_add]
theorem sumN_add (f g : Nat → Int) : ∀ n, sumN (fun k => f k + g k) n = sumN f n + sumN g n
  | 0 => rfl
  | n + 1 => by show sumN _ n + (f n + g n) = (sumN f n + f n) + (sumN g n + g n); rw [sumN_add f g n]; omega
theorem sumN_sub (f g : Nat → Int) : ∀ n, sumN (fun k => f k - g k) n = sumN f n - sumN g n
  | 0 => rfl
  | n + 1 => by show sumN _ n + (f n - g n) = (sumN f n + f n) - (sumN g n + g n); rw [sumN_sub f g n]; omega
theorem sumN_nonneg {f : Nat → Int} {n : Nat} (h : ∀ k, k < n → 0 ≤ f k) : 0 ≤ sumN f n := by
  induction n with
  | zero => exact Int.le_refl _
  | succ n ih => have := ih fun k hk => h k (by omega); have := h n (by omega); show 0 ≤ sumN f n + f n; omega
theorem max_at (u : Nat → Int) : ∀ n, 1 ≤ n → ∃ s, s < n ∧ ∀ k, k < n → u k ≤ u s
  | 0, h => by omega
  | 1, _ => ⟨0, by omega, fun k hk => by obtain rfl : k = 0 := by omega
                                         exact Int.le_refl _⟩
  | n + 2, _ => by
    obtain ⟨s, hs, h⟩ := max_at u (n + 1) (by omega)
    by_cases q : u (n + 1) ≤ u s
    · exact ⟨s, by omega, fun k hk => by by_cases e : k = n + 1
                                         · subst e; exact q
                                         · exact h k (by omega)⟩
    · exact ⟨n + 1, by omega, fun k hk => by by_cases e : k = n + 1
                                             · subst e; exact Int.le_refl _
                                             · have := h k (by omega); omega⟩
/-- Numbers that are at most what a step that fades makes of them are at most 0. -/
theorem maxp {n : Nat} {a b : Int} {o : Nat → Nat → Int} {u : Nat → Int} (ha : 0 ≤ a) (hab : a < b) (ho : ∀ s k, s < n → k < n → 0 ≤ o s k) (hS : ∀ s, s < n → 0 < sumN (o s) n)
    (h : ∀ s, s < n → b * sumN (o s) n * u s ≤ a * sumN (fun k => o s k * u k) n) : ∀ s, s < n → u s ≤ 0 := by
  intro s0 hs0
  obtain ⟨s, hs, hm⟩ := max_at u n (by omega)
  have h1 := h s hs
  have h2 : sumN (fun k => o s k * u k) n ≤ sumN (fun k => u s * o s k) n := sumN_le fun k hk => by
    rw [Int.mul_comm (u s)]; exact Int.mul_le_mul_of_nonneg_left (hm k hk) (ho s k hs hk)
  rw [sumN_mul] at h2
  have h3 := Int.mul_le_mul_of_nonneg_left h2 ha
  have h4 : u s ≤ 0 := by
    refine Int.not_lt.1 fun hp => ?_
    have h5 := Int.mul_pos (Int.mul_pos (show 0 < b - a by omega) (hS s hs)) hp
    have e : (b - a) * sumN (o s) n * u s = b * sumN (o s) n * u s - a * (u s * sumN (o s) n) := by grind
    omega
  have := hm s0 hs0
  omega
/-! ### the determinants of lists -/
def Shp (n : Nat) (M : List (List Int)) : Prop := M.length = n ∧ ∀ k, k < n → (rw_ M k).length = n
def en (M : List (List Int)) (i j : Nat) : Int := nth (rw_ M i) j
theorem shp_drop {n : Nat} {M : List (List Int)} (h : Shp (n + 1) M) {j : Nat} (hj : j < n + 1) : Shp n (dropRow M 0 j) := by
  refine ⟨by unfold dropRow; simp [h.1], fun k hk => ?_⟩
  have := h.2 (k + 1) (by omega)
  rw [rw_drop0 M j k (by have := h.1; omega)]
  simp; omega
theorem en_drop {n : Nat} {M : List (List Int)} (h : Shp (n + 1) M) {j k i : Nat} (hj : j < n + 1) (hk : k < n) : en (dropRow M 0 j) k i = en M (k + 1) (if i < j then i else i + 1) := by
  unfold en
  have := h.2 (k + 1) (by omega)
  rw [rw_drop0 M j k (by have := h.1; omega), nth_app]
  have hl : ((rw_ M (k + 1)).take j).length = j := by simp; omega
  rw [hl]
  split
  · rw [nth_take (by omega)]
  · rw [nth_drop]; congr 1; omega
theorem detL1 {M : List (List Int)} : detL 1 M = en M 0 0 := by simp [detL, lapl, sgn, en]
theorem detL2 {M : List (List Int)} (h : Shp 2 M) : detL 2 M = d2 (en M 0 0) (en M 0 1) (en M 1 0) (en M 1 1) := by
  show 0 + sgn 0 * nth (rw_ M 0) 0 * detL 1 (dropRow M 0 0) + sgn 1 * nth (rw_ M 0) 1 * detL 1 (dropRow M 0 1) = _
  rw [detL1, detL1, en_drop h (by omega) (by omega), en_drop h (by omega) (by omega)]
  simp [sgn, en, d2]
  grind
theorem detL3 {M : List (List Int)} (h : Shp 3 M) : detL 3 M = d3 (en M 0 0) (en M 0 1) (en M 0 2) (en M 1 0) (en M 1 1) (en M 1 2) (en M 2 0) (en M 2 1) (en M 2 2) := by
  show 0 + sgn 0 * nth (rw_ M 0) 0 * detL 2 (dropRow M 0 0) + sgn 1 * nth (rw_ M 0) 1 * detL 2 (dropRow M 0 1) + sgn 2 * nth (rw_ M 0) 2 * detL 2 (dropRow M 0 2) = _
  rw [detL2 (shp_drop h (by omega)), detL2 (shp_drop h (by omega)), detL2 (shp_drop h (by omega))]
  rw [en_drop h (by omega) (by omega), en_drop h (by omega) (by omega), en_drop h (by omega) (by omega), en_drop h (by omega) (by omega)]
  rw [en_drop h (by omega) (by omega), en_drop h (by omega) (by omega), en_drop h (by omega) (by omega), en_drop h (by omega) (by omega)]
  rw [en_drop h (by omega) (by omega), en_drop h (by omega) (by omega), en_drop h (by omega) (by omega), en_drop h (by omega) (by omega)]
  simp [sgn, en, d3]
  grind
theorem detL4 {M : List (List Int)} (h : Shp 4 M) : detL 4 M = d4 (en M 0 0) (en M 0 1) (en M 0 2) (en M 0 3) (en M 1 0) (en M 1 1) (en M 1 2) (en M 1 3) (en M 2 0) (en M 2 1) (en M 2 2) (en M 2 3) (en M 3 0) (en M 3 1) (en M 3 2) (en M 3 3) := by
  show 0 + sgn 0 * nth (rw_ M 0) 0 * detL 3 (dropRow M 0 0) + sgn 1 * nth (rw_ M 0) 1 * detL 3 (dropRow M 0 1) + sgn 2 * nth (rw_ M 0) 2 * detL 3 (dropRow M 0 2) + sgn 3 * nth (rw_ M 0) 3 * detL 3 (dropRow M 0 3) = _
  rw [detL3 (shp_drop h (by omega)), detL3 (shp_drop h (by omega)), detL3 (shp_drop h (by omega)), detL3 (shp_drop h (by omega))]
  have e : ∀ j k i : Nat, j < 4 → k < 3 → en (dropRow M 0 j) k i = en M (k + 1) (if i < j then i else i + 1) := fun j k i hj hk => en_drop h hj hk
  rw [e 0 0 0 (by omega) (by omega), e 0 0 1 (by omega) (by omega), e 0 0 2 (by omega) (by omega), e 0 1 0 (by omega) (by omega), e 0 1 1 (by omega) (by omega), e 0 1 2 (by omega) (by omega), e 0 2 0 (by omega) (by omega), e 0 2 1 (by omega) (by omega), e 0 2 2 (by omega) (by omega)]
  rw [e 1 0 0 (by omega) (by omega), e 1 0 1 (by omega) (by omega), e 1 0 2 (by omega) (by omega), e 1 1 0 (by omega) (by omega), e 1 1 1 (by omega) (by omega), e 1 1 2 (by omega) (by omega), e 1 2 0 (by omega) (by omega), e 1 2 1 (by omega) (by omega), e 1 2 2 (by omega) (by omega)]
  rw [e 2 0 0 (by omega) (by omega), e 2 0 1 (by omega) (by omega), e 2 0 2 (by omega) (by omega), e 2 1 0 (by omega) (by omega), e 2 1 1 (by omega) (by omega), e 2 1 2 (by omega) (by omega), e 2 2 0 (by omega) (by omega), e 2 2 1 (by omega) (by omega), e 2 2 2 (by omega) (by omega)]
  rw [e 3 0 0 (by omega) (by omega), e 3 0 1 (by omega) (by omega), e 3 0 2 (by omega) (by omega), e 3 1 0 (by omega) (by omega), e 3 1 1 (by omega) (by omega), e 3 1 2 (by omega) (by omega), e 3 2 0 (by omega) (by omega), e 3 2 1 (by omega) (by omega), e 3 2 2 (by omega) (by omega)]
  simp [sgn, en, d4]
  grind
theorem shp_col {n s : Nat} {M : List (List Int)} {r : List Int} (h : Shp n M) : Shp n (colSet M s r) :=
  ⟨by rw [colSet_len]; exact h.1, fun k hk => by rw [colSet_at (by have := h.1; omega)]; simpa using h.2 k hk⟩
theorem en_col {n s : Nat} {M : List (List Int)} {r : List Int} (h : Shp n M) {i j : Nat} (hi : i < n) (hj : j < n) : en (colSet M s r) i j = if s = j then nth r i else en M i j := by
  unfold en
  rw [colSet_at (by have := h.1; omega), nth_set, h.2 i hi]
  by_cases q : s = j
  · rw [if_pos ⟨q, hj⟩, if_pos q]
  · rw [if_neg (fun c => q c.1), if_neg q]
theorem cramer {n : Nat} {M : List (List Int)} {r : List Int} (h : Shp n M) (h1 : 1 ≤ n) (h4 : n ≤ 4) {i : Nat} (hi : i < n) : sumN (fun k => en M i k * detL n (colSet M k r)) n = detL n M * nth r i := by
  have hc : ∀ s i j, i < n → j < n → en (colSet M s r) i j = if s = j then nth r i else en M i j := fun s i j hi hj => en_col h hi hj
  have hn : n = 1 ∨ n = 2 ∨ n = 3 ∨ n = 4 := by omega
  rcases hn with rfl | rfl | rfl | rfl
  · obtain rfl : i = 0 := by omega
    simp [sumN, detL1, hc]
  · simp only [sumN, detL2 h, detL2 (shp_col h)]
    simp [hc]
    unfold d2
    have : i = 0 ∨ i = 1 := by omega
    rcases this with rfl | rfl <;> grind
  · simp only [sumN, detL3 h, detL3 (shp_col h)]
    simp [hc]
    unfold d3 d2
    have : i = 0 ∨ i = 1 ∨ i = 2 := by omega
    clear hc h
    rcases this with rfl | rfl | rfl <;> grind
  · simp only [sumN, detL4 h, detL4 (shp_col h)]
    simp [hc]
    unfold d4 d3 d2
    have : i = 0 ∨ i = 1 ∨ i = 2 ∨ i = 3 := by omega
    clear hc h
    rcases this with rfl | rfl | rfl | rfl <;> grind
/-! ### the worth's equations -/
theorem sumN_shift (f : Nat → Int) : ∀ n, sumN f (n + 1) = f 0 + sumN (fun k => f (k + 1)) n
  | 0 => by simp [sumN]
  | n + 1 => by show sumN f (n + 1) + f (n + 1) = f 0 + (sumN (fun k => f (k + 1)) n + f (n + 1)); rw [sumN_shift f n]; omega
theorem isum_sumN : ∀ (l : List Int), isum l = sumN (nth l) l.length
  | [] => rfl
  | x :: l => by
    rw [List.length_cons, sumN_shift]
    show x + isum l = nth (x :: l) 0 + sumN (fun k => nth (x :: l) (k + 1)) l.length
    rw [isum_sumN l]; rfl
theorem en_mat {a b : Int} {X : List Ac} {n : Nat} (hn : X.length = n) {s j : Nat} (hs : s < n) (hl : (ac X s).o.length = n) (hj : j < n) :
    en (mMat a b X) s j = (if s = j then b * isum (ac X s).o else 0) - a * nth (ac X s).o j := by
  unfold en
  rw [mMat_at (by omega)]
  unfold mRow
  rw [nth_set]
  have e : ∀ i, i < n → nth (mBare a (ac X s)) i = -a * nth (ac X s).o i := fun i hi => by unfold mBare; rw [nth_map (by omega)]
  have hb : (mBare a (ac X s)).length = n := by simp [mBare, hl]
  rw [hb, e j hj]
  by_cases q : s = j
  · subst q; rw [if_pos ⟨rfl, hj⟩, if_pos rfl, e s hs]; grind
  · rw [if_neg (fun c => q c.1), if_neg q]; grind
theorem mat_shp {a b : Int} {X : List Ac} (h : OkX a b X) : Shp X.length (mMat a b X) :=
  ⟨mMat_len, fun k hk => by rw [mMat_at hk, mRow_len]; exact (vAc_at (h.2.2.2.2.2 k hk)).2.2.1⟩
/-- What an act is told, with prices v over d: b times the sum of its odds times d. -/
def tel (a b : Int) (x : Ac) (v : Nat → Int) (d : Int) : Int := b * isum x.o * d * x.g + a * sumN (fun k => nth x.o k * v k) x.o.length
theorem worth_eq {a b : Int} {X : List Ac} (h : OkX a b X) {s : Nat} (hs : s < X.length) :
    b * isum (ac X s).o * wN a b X s = tel a b (ac X s) (wN a b X) (wD a b X) := by
  have hv := vAc_at (h.2.2.2.2.2 s hs)
  have hc := cramer (r := mRight b X) (mat_shp h) h.1 h.2.1 hs
  rw [mRight_at hs] at hc
  unfold tel
  rw [hv.2.2.1]
  have e : sumN (fun k => en (mMat a b X) s k * detL X.length (colSet (mMat a b X) k (mRight b X))) X.length = b * isum (ac X s).o * wN a b X s - a * sumN (fun k => nth (ac X s).o k * wN a b X k) X.length := by
    rw [← sumN_mul a]
    have e1 : sumN (fun k => (if s = k then b * isum (ac X s).o * wN a b X s else 0)) X.length = b * isum (ac X s).o * wN a b X s := by
      have : ∀ (c : Int) n, sumN (fun k => if s = k then c else 0) n = if s < n then c else 0 := by
        intro c n
        induction n with
        | zero => simp [sumN]
        | succ n ih =>
          show sumN _ n + (if s = n then c else 0) = _
          rw [ih]
          split <;> split <;> split <;> omega
      rw [this, if_pos hs]
    rw [← e1, ← sumN_sub]
    exact sumN_congr fun k hk => by
      rw [en_mat rfl hs hv.2.2.1 hk, show detL X.length (colSet (mMat a b X) k (mRight b X)) = wN a b X k from rfl]
      split
      · rename_i q; subst q; grind
      · grind
  rw [e] at hc
  have : detL X.length (mMat a b X) = wD a b X := rfl
  rw [this] at hc
  grind
theorem wD_pos {a b : Int} {X : List Ac} (h : OkX a b X) : 0 < wD a b X ∧ wD a b X ≤ 5308416 := by
  obtain ⟨h1, h4, ha, hab, hb, hv⟩ := h
  have hM := mat_shp ⟨h1, h4, ha, hab, hb, hv⟩
  unfold wD
  have ho : ∀ s j, s < X.length → j < X.length → 0 ≤ nth (ac X s).o j := fun s j hs hj => by
    have h := vAc_at (hv s hs)
    exact (h.2.2.2.1 _ (nth_mem (by rw [h.2.2.1]; exact hj))).1
  have hao : ∀ s j, s < X.length → j < X.length → 0 ≤ a * nth (ac X s).o j := fun s j hs hj => pp (by omega) (ho s j hs hj)
  have hB : ∀ s, s < X.length → 1 ≤ b * isum (ac X s).o ∧ b * isum (ac X s).o ≤ 48 := fun s hs => bsum_bound (hv s hs) h4 (by omega) hb
  have hE : ∀ s j, s < X.length → j < X.length → en (mMat a b X) s j = (if s = j then b * isum (ac X s).o else 0) - a * nth (ac X s).o j := fun s j hs hj => en_mat rfl hs (vAc_at (hv s hs)).2.2.1 hj
  have hR : ∀ s, s < X.length → 0 < b * isum (ac X s).o - a * sumN (nth (ac X s).o) X.length := fun s hs => by
    have h := vAc_at (hv s hs)
    rw [← h.2.2.1, ← isum_sumN]
    have := Int.mul_pos (show 0 < b - a by omega) (show 0 < isum (ac X s).o by omega)
    rw [Int.sub_mul] at this; exact this
  clear hv
  generalize hn : X.length = n at *
  generalize mMat a b X = M at *
  have hc : n = 1 ∨ n = 2 ∨ n = 3 ∨ n = 4 := by omega
  rcases hc with rfl | rfl | rfl | rfl
  · rw [detL1, hE 0 0 (by omega) (by omega)]
    have := hR 0 (by omega)
    have := hB 0 (by omega)
    have := hao 0 0 (by omega) (by omega)
    simp [sumN] at *
    omega
  · rw [detL2 hM]
    simp only [hE _ _ (show 0 < 2 by omega) (show 0 < 2 by omega), hE _ _ (show 0 < 2 by omega) (show 1 < 2 by omega), hE _ _ (show 1 < 2 by omega) (show 0 < 2 by omega), hE _ _ (show 1 < 2 by omega) (show 1 < 2 by omega)]
    have r0 := hR 0 (by omega)
    have r1 := hR 1 (by omega)
    have b0 := hB 0 (by omega)
    have b1 := hB 1 (by omega)
    have q := fun i j (hi : i < 2) (hj : j < 2) => hao i j hi hj
    have q00 := q 0 0 (by omega) (by omega)
    have q01 := q 0 1 (by omega) (by omega)
    have q10 := q 1 0 (by omega) (by omega)
    have q11 := q 1 1 (by omega) (by omega)
    simp [sumN, Int.mul_add] at r0 r1 ⊢
    have := det2_pos (a := b * isum (ac X 0).o - a * nth (ac X 0).o 0) (b := -(a * nth (ac X 0).o 1)) (c := -(a * nth (ac X 1).o 0)) (d := b * isum (ac X 1).o - a * nth (ac X 1).o 1) (by omega) (by omega) (by omega) (by omega)
    have m1 := Int.mul_le_mul (a := b * isum (ac X 0).o - a * nth (ac X 0).o 0) (b := b * isum (ac X 1).o - a * nth (ac X 1).o 1) (c := 48) (d := 48) (by omega) (by omega) (by omega) (by omega)
    omega
  · have e := fun i j (hi : i < 3) (hj : j < 3) => hE i j hi hj
    rw [detL3 hM, e 0 0 (by omega) (by omega), e 0 1 (by omega) (by omega), e 0 2 (by omega) (by omega), e 1 0 (by omega) (by omega), e 1 1 (by omega) (by omega), e 1 2 (by omega) (by omega), e 2 0 (by omega) (by omega), e 2 1 (by omega) (by omega), e 2 2 (by omega) (by omega)]
    have r0 := hR 0 (by omega)
    have r1 := hR 1 (by omega)
    have r2 := hR 2 (by omega)
    have b0 := hB 0 (by omega)
    have b1 := hB 1 (by omega)
    have b2 := hB 2 (by omega)
    have q := fun i j (hi : i < 3) (hj : j < 3) => hao i j hi hj
    have q00 := q 0 0 (by omega) (by omega)
    have q01 := q 0 1 (by omega) (by omega)
    have q02 := q 0 2 (by omega) (by omega)
    have q10 := q 1 0 (by omega) (by omega)
    have q11 := q 1 1 (by omega) (by omega)
    have q12 := q 1 2 (by omega) (by omega)
    have q20 := q 2 0 (by omega) (by omega)
    have q21 := q 2 1 (by omega) (by omega)
    have q22 := q 2 2 (by omega) (by omega)
    clear e hE hao ho hR hB q hM
    simp [sumN, Int.mul_add] at r0 r1 r2 ⊢
    generalize a * nth (ac X 0).o 0 = o00 at *
    generalize a * nth (ac X 0).o 1 = o01 at *
    generalize a * nth (ac X 0).o 2 = o02 at *
    generalize a * nth (ac X 1).o 0 = o10 at *
    generalize a * nth (ac X 1).o 1 = o11 at *
    generalize a * nth (ac X 1).o 2 = o12 at *
    generalize a * nth (ac X 2).o 0 = o20 at *
    generalize a * nth (ac X 2).o 1 = o21 at *
    generalize a * nth (ac X 2).o 2 = o22 at *
    generalize b * isum (ac X 0).o = s0 at *
    generalize b * isum (ac X 1).o = s1 at *
    generalize b * isum (ac X 2).o = s2 at *
    have := det3_pos (a := s0 - o00) (b := -o01) (c := -o02) (d := -o10) (e := s1 - o11) (f := -o12) (g := -o20) (h := -o21) (i := s2 - o22) (by omega) (by omega) (by omega) (by omega) (by omega) (by omega) (by omega) (by omega) (by omega)
    have m1 := Int.mul_le_mul (a := s1 - o11) (b := s2 - o22) (c := 48) (d := 48) (by omega) (by omega) (by omega) (by omega)
    have m2 := Int.mul_le_mul (a := s0 - o00) (c := 48) (show s0 - o00 ≤ 48 by omega) (show (s1 - o11) * (s2 - o22) ≤ 2304 by omega) (pp (by omega) (by omega)) (by omega)
    omega
  · have e := fun i j (hi : i < 4) (hj : j < 4) => hE i j hi hj
    rw [detL4 hM, e 0 0 (by omega) (by omega), e 0 1 (by omega) (by omega), e 0 2 (by omega) (by omega), e 0 3 (by omega) (by omega), e 1 0 (by omega) (by omega), e 1 1 (by omega) (by omega), e 1 2 (by omega) (by omega), e 1 3 (by omega) (by omega), e 2 0 (by omega) (by omega), e 2 1 (by omega) (by omega), e 2 2 (by omega) (by omega), e 2 3 (by omega) (by omega), e 3 0 (by omega) (by omega), e 3 1 (by omega) (by omega), e 3 2 (by omega) (by omega), e 3 3 (by omega) (by omega)]
    have r0 := hR 0 (by omega)
    have r1 := hR 1 (by omega)
    have r2 := hR 2 (by omega)
    have r3 := hR 3 (by omega)
    have b0 := hB 0 (by omega)
    have b1 := hB 1 (by omega)
    have b2 := hB 2 (by omega)
    have b3 := hB 3 (by omega)
    have q := fun i j (hi : i < 4) (hj : j < 4) => hao i j hi hj
    have q00 := q 0 0 (by omega) (by omega)
    have q01 := q 0 1 (by omega) (by omega)
    have q02 := q 0 2 (by omega) (by omega)
    have q03 := q 0 3 (by omega) (by omega)
    have q10 := q 1 0 (by omega) (by omega)
    have q11 := q 1 1 (by omega) (by omega)
    have q12 := q 1 2 (by omega) (by omega)
    have q13 := q 1 3 (by omega) (by omega)
    have q20 := q 2 0 (by omega) (by omega)
    have q21 := q 2 1 (by omega) (by omega)
    have q22 := q 2 2 (by omega) (by omega)
    have q23 := q 2 3 (by omega) (by omega)
    have q30 := q 3 0 (by omega) (by omega)
    have q31 := q 3 1 (by omega) (by omega)
    have q32 := q 3 2 (by omega) (by omega)
    have q33 := q 3 3 (by omega) (by omega)
    clear e hE hao ho hR hB q hM
    simp [sumN, Int.mul_add] at r0 r1 r2 r3 ⊢
    generalize a * nth (ac X 0).o 0 = o00 at *
    generalize a * nth (ac X 0).o 1 = o01 at *
    generalize a * nth (ac X 0).o 2 = o02 at *
    generalize a * nth (ac X 0).o 3 = o03 at *
    generalize a * nth (ac X 1).o 0 = o10 at *
    generalize a * nth (ac X 1).o 1 = o11 at *
    generalize a * nth (ac X 1).o 2 = o12 at *
    generalize a * nth (ac X 1).o 3 = o13 at *
    generalize a * nth (ac X 2).o 0 = o20 at *
    generalize a * nth (ac X 2).o 1 = o21 at *
    generalize a * nth (ac X 2).o 2 = o22 at *
    generalize a * nth (ac X 2).o 3 = o23 at *
    generalize a * nth (ac X 3).o 0 = o30 at *
    generalize a * nth (ac X 3).o 1 = o31 at *
    generalize a * nth (ac X 3).o 2 = o32 at *
    generalize a * nth (ac X 3).o 3 = o33 at *
    generalize b * isum (ac X 0).o = s0 at *
    generalize b * isum (ac X 1).o = s1 at *
    generalize b * isum (ac X 2).o = s2 at *
    generalize b * isum (ac X 3).o = s3 at *
    have := det4_pos (a := s0 - o00) (b := -o01) (c := -o02) (d := -o03) (e := -o10) (f := s1 - o11) (g := -o12) (h := -o13) (i := -o20) (j := -o21) (k := s2 - o22) (l := -o23) (m := -o30) (n := -o31) (o := -o32) (p := s3 - o33) (by omega) (by omega) (by omega) (by omega) (by omega) (by omega) (by omega) (by omega) (by omega) (by omega) (by omega) (by omega) (by omega) (by omega) (by omega) (by omega)
    have m1 := Int.mul_le_mul (a := s2 - o22) (b := s3 - o33) (c := 48) (d := 48) (by omega) (by omega) (by omega) (by omega)
    have m2 := Int.mul_le_mul (a := s1 - o11) (c := 48) (show s1 - o11 ≤ 48 by omega) (show (s2 - o22) * (s3 - o33) ≤ 2304 by omega) (pp (by omega) (by omega)) (by omega)
    have m3 := Int.mul_le_mul (a := s0 - o00) (c := 48) (show s0 - o00 ≤ 48 by omega) (show (s1 - o11) * ((s2 - o22) * (s3 - o33)) ≤ 110592 by omega) (pp (by omega) (pp (by omega) (by omega))) (by omega)
    omega
/-! ### comparing prices with the worth -/
theorem tel_lin (a b : Int) (x : Ac) (v u : Nat → Int) (d e : Int) : tel a b x v d * e - tel a b x u e * d = a * sumN (fun k => nth x.o k * (v k * e - u k * d)) x.o.length := by
  unfold tel
  have h1 : sumN (fun k => nth x.o k * (v k * e - u k * d)) x.o.length = e * sumN (fun k => nth x.o k * v k) x.o.length - d * sumN (fun k => nth x.o k * u k) x.o.length := by
    rw [← sumN_mul, ← sumN_mul, ← sumN_sub]
    exact sumN_congr fun k _ => by grind
  rw [h1]; grind
theorem okX_o {a b : Int} {X : List Ac} (h : OkX a b X) {s k : Nat} (hs : s < X.length) (hk : k < X.length) : 0 ≤ nth (ac X s).o k ∧ nth (ac X s).o k ≤ 3 := by
  have hv := vAc_at (h.2.2.2.2.2 s hs)
  exact hv.2.2.2.1 _ (nth_mem (by rw [hv.2.2.1]; exact hk))
theorem okX_S {a b : Int} {X : List Ac} (h : OkX a b X) {s : Nat} (hs : s < X.length) : isum (ac X s).o = sumN (nth (ac X s).o) X.length ∧ 0 < isum (ac X s).o := by
  have hv := vAc_at (h.2.2.2.2.2 s hs)
  rw [isum_sumN, hv.2.2.1]
  exact ⟨rfl, by rw [← hv.2.2.1, ← isum_sumN]; omega⟩
theorem okX_maxp {a b : Int} {X : List Ac} (h : OkX a b X) {u : Nat → Int} (hu : ∀ s, s < X.length → b * isum (ac X s).o * u s ≤ a * sumN (fun k => nth (ac X s).o k * u k) (ac X s).o.length) : ∀ s, s < X.length → u s ≤ 0 := by
  refine maxp (n := X.length) (a := a) (b := b) (o := fun s => nth (ac X s).o) (by have := h.2.2.1; omega) h.2.2.2.1 (fun s k hs hk => (okX_o h hs hk).1) (fun s hs => by rw [← (okX_S h hs).1]; exact (okX_S h hs).2) fun s hs => ?_
  have := hu s hs
  rw [(okX_S h hs).1, (vAc_at (h.2.2.2.2.2 s hs)).2.2.1] at this
  exact this
/-- Prices that a step does not make less are at most the worth. -/
theorem worth_ge {a b : Int} {X : List Ac} (h : OkX a b X) {v : Nat → Int} {d : Int} (_hd : 0 < d) (hv : ∀ s, s < X.length → b * isum (ac X s).o * v s ≤ tel a b (ac X s) v d) : ∀ s, s < X.length → v s * wD a b X ≤ wN a b X s * d := by
  have hD := wD_pos h
  intro s hs
  have := okX_maxp h (u := fun s => v s * wD a b X - wN a b X s * d) (fun s hs => by
    have e1 := Int.mul_le_mul_of_nonneg_right (hv s hs) (show 0 ≤ wD a b X by omega)
    have e2 := worth_eq h hs
    rw [← tel_lin a b (ac X s) v (wN a b X) d (wD a b X), ← e2]
    grind) s hs
  have : v s * wD a b X - wN a b X s * d ≤ 0 := this
  omega
theorem worth_le {a b : Int} {X : List Ac} (h : OkX a b X) {v : Nat → Int} {d : Int} (_hd : 0 < d) (hv : ∀ s, s < X.length → tel a b (ac X s) v d ≤ b * isum (ac X s).o * v s) : ∀ s, s < X.length → wN a b X s * d ≤ v s * wD a b X := by
  have hD := wD_pos h
  intro s hs
  have := okX_maxp h (u := fun s => wN a b X s * d - v s * wD a b X) (fun s hs => by
    have e1 := Int.mul_le_mul_of_nonneg_right (hv s hs) (show 0 ≤ wD a b X by omega)
    have e2 := worth_eq h hs
    rw [← tel_lin a b (ac X s) (wN a b X) v (wD a b X) d, ← e2]
    grind) s hs
  have : wN a b X s * d - v s * wD a b X ≤ 0 := this
  omega
theorem worth_gt {a b : Int} {X : List Ac} (h : OkX a b X) {v : Nat → Int} {d : Int} (_hd : 0 < d) (hv : ∀ s, s < X.length → b * isum (ac X s).o * v s ≤ tel a b (ac X s) v d) {s : Nat} (hs : s < X.length)
    (hlt : b * isum (ac X s).o * v s < tel a b (ac X s) v d) : v s * wD a b X < wN a b X s * d := by
  have hD := wD_pos h
  have hg := worth_ge h _hd hv
  have e2 := worth_eq h hs
  have e3 := tel_lin a b (ac X s) v (wN a b X) d (wD a b X)
  have e4 : sumN (fun k => nth (ac X s).o k * (v k * wD a b X - wN a b X k * d)) (ac X s).o.length ≤ sumN (fun k => 0 * nth (ac X s).o k) (ac X s).o.length := sumN_le fun k hk => by
    rw [(vAc_at (h.2.2.2.2.2 s hs)).2.2.1] at hk
    have := hg k hk
    rw [Int.zero_mul]
    exact pn (okX_o h hs hk).1 (by omega)
  rw [sumN_mul, Int.zero_mul] at e4
  have e5 := pn (show 0 ≤ a by have := h.2.2.1; omega) e4
  rw [← e3, ← e2] at e5
  have e6 := Int.mul_lt_mul_of_pos_right hlt hD.1
  have e7 : b * isum (ac X s).o * (v s * wD a b X) < b * isum (ac X s).o * (wN a b X s * d) := by grind
  have hS := Int.mul_pos (show 0 < b by have := h.2.2.1; have := h.2.2.2.1; omega) (okX_S h hs).2
  exact Int.lt_of_mul_lt_mul_left e7 (Int.le_of_lt hS)
theorem worth_same {a b : Int} {X : List Ac} (h : OkX a b X) {v : Nat → Int} {d : Int} (_hd : 0 < d) (hv : ∀ s, s < X.length → b * isum (ac X s).o * v s = tel a b (ac X s) v d) {s : Nat} (hs : s < X.length) : wN a b X s * d = v s * wD a b X :=
  Int.le_antisymm (worth_le h _hd (fun s hs => Int.le_of_eq (hv s hs).symm) s hs) (worth_ge h _hd (fun s hs => Int.le_of_eq (hv s hs)) s hs)
theorem tel_const (a b : Int) (x : Ac) (c d : Int) : tel a b x (fun _ => c) d = b * isum x.o * d * x.g + a * (isum x.o * c) := by
  unfold tel
  rw [sumN_congr (g := fun k => c * nth x.o k) (fun k _ => Int.mul_comm _ _), sumN_mul, ← isum_sumN, Int.mul_comm c]
/-- The worth's numbers: at most 9 b over b less a. -/
theorem wN_top {a b : Int} {X : List Ac} (h : OkX a b X) {s : Nat} (hs : s < X.length) : -(9 * b * wD a b X) ≤ wN a b X s * (b - a) ∧ wN a b X s * (b - a) ≤ 9 * b * wD a b X := by
  have hab := h.2.2.2.1
  have ha := h.2.2.1
  have q : ∀ s, s < X.length → 0 < b * isum (ac X s).o * (b - a) := fun s hs => Int.mul_pos (Int.mul_pos (by omega) (okX_S h hs).2) (by omega)
  have u := worth_le h (v := fun _ => 9 * b) (d := b - a) (by omega) (fun s hs => by
    rw [tel_const]
    have hv := vAc_at (h.2.2.2.2.2 s hs)
    have := Int.mul_le_mul_of_nonneg_left hv.2.1 (Int.le_of_lt (q s hs))
    grind) s hs
  have l := worth_ge h (v := fun _ => -(9 * b)) (d := b - a) (by omega) (fun s hs => by
    rw [tel_const]
    have hv := vAc_at (h.2.2.2.2.2 s hs)
    have := Int.mul_le_mul_of_nonneg_left hv.1 (Int.le_of_lt (q s hs))
    grind) s hs
  exact ⟨by rw [Int.neg_mul] at l; exact l, u⟩
theorem wN_36 {a b : Int} {X : List Ac} (h : OkX a b X) {s : Nat} (hs : s < X.length) : -(36 * wD a b X) ≤ wN a b X s ∧ wN a b X s ≤ 36 * wD a b X := by
  have hD := wD_pos h
  have ha := h.2.2.1
  have hab := h.2.2.2.1
  have hb := h.2.2.2.2.1
  have ht := wN_top h hs
  have hbD := Int.mul_le_mul_of_nonneg_right (show 9 * b ≤ 36 by omega) (Int.le_of_lt hD.1)
  generalize wN a b X s = N at *
  generalize wD a b X = D at *
  have hc : b - a = 1 ∨ b - a = 2 ∨ b - a = 3 := by omega
  rcases hc with e | e | e <;> rw [e] at ht <;> omega
end Go.Proofs.Ytcmakddnjmeklaa
