/- Chapter 9, plain: worth and what comes in some steps. -/
import Derived.Test.YtcmakddnjmeklaaAp
namespace Go.Proofs.Ytcmakddnjmeklaa
open Go.RowKit

def topN (a b : Int) : Nat → Int
  | 0 => 9 * b
  | t + 1 => topN a b t * a
def botN (a b : Int) : Nat → Int
  | 0 => b - a
  | t + 1 => botN a b t * b
theorem tb_bd {a b : Int} (ha : 1 ≤ a) (hab : a < b) (hb : b ≤ 4) {t : Nat} (ht : t ≤ 3) : 1 ≤ topN a b t ∧ topN a b t ≤ 972 ∧ 1 ≤ botN a b t ∧ botN a b t ≤ 192 := by
  have h1 : a = 1 ∨ a = 2 ∨ a = 3 := by omega
  have h2 : b = 2 ∨ b = 3 ∨ b = 4 := by omega
  have h3 : t = 0 ∨ t = 1 ∨ t = 2 ∨ t = 3 := by omega
  rcases h1 with rfl | rfl | rfl <;> rcases h2 with rfl | rfl | rfl <;> rcases h3 with rfl | rfl | rfl | rfl <;> first | omega | decide
theorem sumQ_sub {o : List Int} {v u : Nat → Rat} : ∀ k, sumQ o v k - sumQ o u k = sumQ o (fun i => v i - u i) k
  | 0 => by show (0 : Rat) - 0 = 0; grind
  | k + 1 => by
    show sumQ o v k + ((nth o k : Int) : Rat) * v k - (sumQ o u k + ((nth o k : Int) : Rat) * u k) = sumQ o (fun i => v i - u i) k + ((nth o k : Int) : Rat) * (v k - u k)
    rw [← sumQ_sub k]
    grind
theorem actQ_sub {a b : Int} {x : Ac} {v u : Nat → Rat} : actQ a b x v - actQ a b x u = sumQ x.o (fun i => v i - u i) x.o.length * ((a : Rat) / ((b * isum x.o : Int) : Rat)) := by
  unfold actQ
  rw [← sumQ_sub]
  generalize ((a : Rat) / ((b * isum x.o : Int) : Rat)) = c
  grind
theorem wV_fix {W : Wd} {p : List Int} (h : isPlanB W p = true) {s : Nat} (hs : s < W.acts.length) : actQ W.a W.b (pact W.acts p s) (wV W p) = wV W p s := by
  have hX := okX_plan h
  have hl := planActs_len W.acts p
  have hd := (wD_pos hX).1
  have q := (pa_of h hs)
  have hbS : 0 < W.b * isum (pact W.acts p s).o := by have := q.bS; omega
  rw [actQ_tel (v := wV W p) (N := nth (wNs W.a W.b (planActs W.acts p))) hd hbS (fun _ _ => rfl)]
  have h1 := worth_eq hX (s := s) (by rw [hl]; exact hs)
  rw [planActs_at hs] at h1
  have h2 : tel W.a W.b (pact W.acts p s) (nth (wNs W.a W.b (planActs W.acts p))) (wD W.a W.b (planActs W.acts p)) = tel W.a W.b (pact W.acts p s) (wN W.a W.b (planActs W.acts p)) (wD W.a W.b (planActs W.acts p)) := by
    unfold tel
    rw [sumN_congr fun k hk => by rw [wNs_at (by rw [hl, ← q.len]; exact hk)]]
  rw [h2, ← h1]
  unfold wV
  rw [wNs_at (by rw [hl]; exact hs)]
  have n1 := ratD_ne hd
  have n2 := ratD_ne hbS
  rw [Rat.intCast_mul (W.b * isum (pact W.acts p s).o), Rat.intCast_mul (W.b * isum (pact W.acts p s).o)]
  generalize ((W.b * isum (pact W.acts p s).o : Int) : Rat) = c at *
  generalize ((wN W.a W.b (planActs W.acts p) s : Int) : Rat) = y at *
  generalize ((wD W.a W.b (planActs W.acts p) : Int) : Rat) = z at *
  grind
theorem sumQ_le {o : List Int} {v : Nat → Rat} {C B : Rat} (ho : ∀ y ∈ o, 0 ≤ y) : ∀ k, k ≤ o.length → (∀ i, i < k → -B ≤ v i * C ∧ v i * C ≤ B) →
    -(((sumN (nth o) k : Int) : Rat) * B) ≤ sumQ o v k * C ∧ sumQ o v k * C ≤ ((sumN (nth o) k : Int) : Rat) * B
  | 0, _, _ => by
    have e : ((sumN (nth o) 0 : Int) : Rat) = 0 := by show ((0 : Int) : Rat) = 0; norm_cast
    rw [e]
    show -(0 * B) ≤ 0 * C ∧ 0 * C ≤ 0 * B
    constructor <;> grind
  | k + 1, hk, hv => by
    have ih := sumQ_le ho k (by omega) fun i hi => hv i (by omega)
    have h1 := hv k (by omega)
    have h2 := ho _ (nth_mem (l := o) (k := k) (by omega))
    have h3 : (0 : Rat) ≤ ((nth o k : Int) : Rat) := by exact_mod_cast h2
    have h4 := Rat.mul_le_mul_of_nonneg_left h1.1 h3
    have h5 := Rat.mul_le_mul_of_nonneg_left h1.2 h3
    have e : ((sumN (nth o) (k + 1) : Int) : Rat) = ((sumN (nth o) k : Int) : Rat) + ((nth o k : Int) : Rat) := by
      show ((sumN (nth o) k + nth o k : Int) : Rat) = _
      rw [Rat.intCast_add]
    rw [e]
    show _ ≤ (sumQ o v k + ((nth o k : Int) : Rat) * v k) * C ∧ (sumQ o v k + ((nth o k : Int) : Rat) * v k) * C ≤ _
    generalize ((nth o k : Int) : Rat) = y at *
    generalize sumQ o v k = z at *
    generalize v k = u at *
    generalize ((sumN (nth o) k : Int) : Rat) = t at *
    constructor <;> grind
theorem near_Q {W : Wd} {p : List Int} (h : isPlanB W p = true) : ∀ t s, s < W.acts.length →
    -((topN W.a W.b t : Int) : Rat) ≤ (wV W p s - aftQ W p t s) * ((botN W.a W.b t : Int) : Rat) ∧ (wV W p s - aftQ W p t s) * ((botN W.a W.b t : Int) : Rat) ≤ ((topN W.a W.b t : Int) : Rat)
  | 0, s, hs => by
    have hX := okX_plan h
    have hl := planActs_len W.acts p
    have hd := (wD_pos hX).1
    have ht := wN_top hX (s := s) (by rw [hl]; exact hs)
    show -((9 * W.b : Int) : Rat) ≤ (wV W p s - 0) * ((W.b - W.a : Int) : Rat) ∧ (wV W p s - 0) * ((W.b - W.a : Int) : Rat) ≤ ((9 * W.b : Int) : Rat)
    unfold wV
    rw [wNs_at (by rw [hl]; exact hs)]
    have n1 := ratD_ne hd
    have hp : (0 : Rat) < ((wD W.a W.b (planActs W.acts p) : Int) : Rat) := by exact_mod_cast hd
    have h1 : -((9 * W.b : Int) : Rat) * ((wD W.a W.b (planActs W.acts p) : Int) : Rat) ≤ ((wN W.a W.b (planActs W.acts p) s : Int) : Rat) * ((W.b - W.a : Int) : Rat) := by
      have := ht.1
      have h9 : ((-(9 * W.b * wD W.a W.b (planActs W.acts p)) : Int) : Rat) ≤ ((wN W.a W.b (planActs W.acts p) s * (W.b - W.a) : Int) : Rat) := by exact_mod_cast this
      rw [Rat.intCast_neg, Rat.intCast_mul (9 * W.b), Rat.intCast_mul (wN W.a W.b (planActs W.acts p) s)] at h9
      grind
    have h2 : ((wN W.a W.b (planActs W.acts p) s : Int) : Rat) * ((W.b - W.a : Int) : Rat) ≤ ((9 * W.b : Int) : Rat) * ((wD W.a W.b (planActs W.acts p) : Int) : Rat) := by
      have := ht.2
      have h9 : ((wN W.a W.b (planActs W.acts p) s * (W.b - W.a) : Int) : Rat) ≤ ((9 * W.b * wD W.a W.b (planActs W.acts p) : Int) : Rat) := by exact_mod_cast this
      rw [Rat.intCast_mul (9 * W.b), Rat.intCast_mul (wN W.a W.b (planActs W.acts p) s)] at h9
      exact h9
    generalize ((wN W.a W.b (planActs W.acts p) s : Int) : Rat) = y at *
    generalize ((wD W.a W.b (planActs W.acts p) : Int) : Rat) = z at *
    generalize ((W.b - W.a : Int) : Rat) = c at *
    generalize ((9 * W.b : Int) : Rat) = e at *
    constructor
    · refine Rat.le_of_mul_le_mul_right (c := z) ?_ hp
      have : (y / z - 0) * c * z = y * c := by grind
      rw [this]; exact h1
    · refine Rat.le_of_mul_le_mul_right (c := z) ?_ hp
      have : (y / z - 0) * c * z = y * c := by grind
      rw [this]; exact h2
  | t + 1, s, hs => by
    have q := pa_of h hs
    obtain ⟨_, _, _, ⟨hn1, hn4, ha1, hab, hb4⟩, _⟩ := plan_parts h
    have hS : 0 < isum (pact W.acts p s).o := by have := q.S; omega
    have hb : 0 < W.b := by omega
    have ih := sumQ_le (o := (pact W.acts p s).o) (v := fun i => wV W p i - aftQ W p t i) (C := ((botN W.a W.b t : Int) : Rat)) (B := ((topN W.a W.b t : Int) : Rat)) (fun y hy => (q.o y hy).1) (pact W.acts p s).o.length (Nat.le_refl _) fun i hi => near_Q h t i (by rw [← q.len]; exact hi)
    have e1 : wV W p s - aftQ W p (t + 1) s = sumQ (pact W.acts p s).o (fun i => wV W p i - aftQ W p t i) (pact W.acts p s).o.length * ((W.a : Rat) / ((W.b * isum (pact W.acts p s).o : Int) : Rat)) := by
      rw [← actQ_sub, wV_fix h hs]; rfl
    rw [e1, ← isum_sumN] at *
    show -((topN W.a W.b t * W.a : Int) : Rat) ≤ _ * ((botN W.a W.b t * W.b : Int) : Rat) ∧ _ * ((botN W.a W.b t * W.b : Int) : Rat) ≤ ((topN W.a W.b t * W.a : Int) : Rat)
    have n1 := ratD_ne hS
    have n2 := ratD_ne hb
    have p1 : (0 : Rat) < ((isum (pact W.acts p s).o : Int) : Rat) := by exact_mod_cast hS
    have p3 : (0 : Int) ≤ W.a := by omega
    have p2 : (0 : Rat) ≤ ((W.a : Int) : Rat) := by exact_mod_cast p3
    rw [Rat.intCast_mul, Rat.intCast_mul, Rat.intCast_mul]
    generalize sumQ (pact W.acts p s).o (fun i => wV W p i - aftQ W p t i) (pact W.acts p s).o.length = z at *
    generalize ((isum (pact W.acts p s).o : Int) : Rat) = S at *
    generalize ((botN W.a W.b t : Int) : Rat) = C at *
    generalize ((topN W.a W.b t : Int) : Rat) = B at *
    generalize ((W.a : Int) : Rat) = a at *
    generalize ((W.b : Int) : Rat) = b at *
    have k1 := Rat.mul_le_mul_of_nonneg_right ih.1 p2
    have k2 := Rat.mul_le_mul_of_nonneg_right ih.2 p2
    constructor
    · refine Rat.le_of_mul_le_mul_right (c := S) ?_ p1
      have : z * (a / (b * S)) * (C * b) * S = z * C * a := by grind
      rw [this]
      have : -(B * a) * S = -(S * B) * a := by grind
      rw [this]; exact k1
    · refine Rat.le_of_mul_le_mul_right (c := S) ?_ p1
      have : z * (a / (b * S)) * (C * b) * S = z * C * a := by grind
      rw [this]
      have : (B * a) * S = (S * B) * a := by grind
      rw [this]; exact k2
theorem wV_fr2 {W : Wd} {p : List Int} {s : Nat} (hs : s < W.acts.length) : fr (worthF W p) s = toFr (wV W p s) := wV_fr hs
theorem near_int {W : Wd} {p : List Int} (h : isPlanB W p = true) {t s : Nat} (hs : s < W.acts.length) :
    -(topN W.a W.b t * (fr (worthF W p) s).d * (fr (aftF W p t) s).d) ≤ ((fr (worthF W p) s).n * (fr (aftF W p t) s).d - (fr (aftF W p t) s).n * (fr (worthF W p) s).d) * botN W.a W.b t ∧
    ((fr (worthF W p) s).n * (fr (aftF W p t) s).d - (fr (aftF W p t) s).n * (fr (worthF W p) s).d) * botN W.a W.b t ≤ topN W.a W.b t * (fr (worthF W p) s).d * (fr (aftF W p t) s).d := by
  have hn := near_Q h t s hs
  rw [wV_fr2 hs, aftF_at hs]
  generalize wV W p s = x at *
  generalize aftQ W p t s = y at *
  have e1 := fr_val x
  have e2 := fr_val y
  have d1 : (0 : Rat) < ((x.den : Int) : Rat) := by have := x.den_pos; exact_mod_cast this
  have d2 : (0 : Rat) < ((y.den : Int) : Rat) := by have := y.den_pos; exact_mod_cast this
  show -(topN W.a W.b t * (x.den : Int) * (y.den : Int)) ≤ (x.num * (y.den : Int) - y.num * (x.den : Int)) * botN W.a W.b t ∧ (x.num * (y.den : Int) - y.num * (x.den : Int)) * botN W.a W.b t ≤ topN W.a W.b t * (x.den : Int) * (y.den : Int)
  have d3 : (0 : Rat) ≤ ((x.den : Int) : Rat) * ((y.den : Int) : Rat) := Rat.mul_nonneg (Rat.le_of_lt d1) (Rat.le_of_lt d2)
  have k1 := Rat.mul_le_mul_of_nonneg_right hn.1 d3
  have k2 := Rat.mul_le_mul_of_nonneg_right hn.2 d3
  have e3 : (((x.num * (y.den : Int) - y.num * (x.den : Int)) * botN W.a W.b t : Int) : Rat) = (x - y) * ((botN W.a W.b t : Int) : Rat) * (((x.den : Int) : Rat) * ((y.den : Int) : Rat)) := by
    rw [Rat.intCast_mul, Rat.intCast_sub, Rat.intCast_mul, Rat.intCast_mul, ← e1, ← e2]
    grind
  have e4 : ((topN W.a W.b t * (x.den : Int) * (y.den : Int) : Int) : Rat) = ((topN W.a W.b t : Int) : Rat) * (((x.den : Int) : Rat) * ((y.den : Int) : Rat)) := by
    rw [Rat.intCast_mul, Rat.intCast_mul]
    grind
  constructor
  · refine Rat.intCast_le_intCast.1 ?_
    rw [Rat.intCast_neg, e3, e4]
    have : -(((topN W.a W.b t : Int) : Rat) * (((x.den : Int) : Rat) * ((y.den : Int) : Rat))) = -((topN W.a W.b t : Int) : Rat) * (((x.den : Int) : Rat) * ((y.den : Int) : Rat)) := by grind
    rw [this]; exact k1
  · refine Rat.intCast_le_intCast.1 ?_
    rw [e3, e4]; exact k2
theorem aft_frlow {W : Wd} {p : List Int} (h : isPlanB W p = true) {t : Nat} (ht : t ≤ 3) {s : Nat} (hs : s < W.acts.length) : FrLow (fr (aftF W p t) s) := by
  rw [aftF_at hs]
  have h1 := aft_low h ht hs
  have h2 := toFr_gcd (aftQ W p t s)
  have h3 := frq_pos (aftQ W p t s)
  have e1 : (toFr (aftQ W p t s)).d = ((aftQ W p t s).den : Int) := rfl
  have e2 : (toFr (aftQ W p t s)).n = (aftQ W p t s).num := rfl
  exact ⟨h3, by omega, by omega, by omega, h2⟩
/-- The gains of some steps over one divisor. -/
theorem aft_whole {W : Wd} {p : List Int} (h : isPlanB W p = true) {t : Nat} (ht : t ≤ 2) : ∃ D : Int, 0 < D ∧ D ≤ 82944 ∧ ∀ s, s < W.acts.length → (fr (aftF W p t) s).d ∣ D ∧ -15676416 ≤ (fr (aftF W p t) s).n ∧ (fr (aftF W p t) s).n ≤ 15676416 := by
  obtain ⟨D, Z, h1, h2, h3, h4, h5⟩ := aft_in h ht
  refine ⟨D, h1, h2, fun s hs => ?_⟩
  rw [aftF_at hs]
  obtain ⟨z, e, b1, b2⟩ := h5 s hs
  have h6 := ov_bd (h5 s hs) h1
  refine ⟨by rw [e]; exact frq_dvd h1, ?_, ?_⟩
  · show -15676416 ≤ (aftQ W p t s).num; omega
  · show (aftQ W p t s).num ≤ 15676416; omega
theorem aft_step {W : Wd} {p l : List Int} {D d : Int} (h : isPlanB W p = true) {t : Nat} (hw : WholeOf (aftF W p t) D l d) {s : Nat} (hs : s < W.acts.length) :
    (fr (aftF W p (t + 1)) s).d ∣ W.b * isum (pact W.acts p s).o * d ∧ (fr (aftF W p (t + 1)) s).n * (W.b * isum (pact W.acts p s).o * d).tdiv (fr (aftF W p (t + 1)) s).d = tel W.a W.b (pact W.acts p s) (nth l) d := by
  have q := pa_of h hs
  have hbS : 0 < W.b * isum (pact W.acts p s).o := by have := q.bS; omega
  obtain ⟨h0, h1, h2, h3⟩ := hw
  have hm : 0 < W.b * isum (pact W.acts p s).o * d := Int.mul_pos hbS h0
  have hv : ∀ i, i < (pact W.acts p s).o.length → aftQ W p t i = (nth l i : Rat) / (d : Rat) := by
    intro i hi
    rw [q.len] at hi
    have h4 := h3 i (by rw [aftF_len]; exact hi)
    rw [aftF_at hi] at h4
    have e1 := fr_val (aftQ W p t i)
    have n1 := frd_ne (aftQ W p t i)
    have n2 := ratD_ne h0
    have h5 : ((nth l i : Int) : Rat) * (((aftQ W p t i).den : Int) : Rat) = (((aftQ W p t i).num : Int) : Rat) * (d : Rat) := by
      rw [← Rat.intCast_mul, ← Rat.intCast_mul]
      exact_mod_cast h4
    rw [← e1] at h5
    generalize ((((aftQ W p t i).den : Int)) : Rat) = y at *
    generalize aftQ W p t i = z at *
    generalize ((nth l i : Int) : Rat) = u at *
    generalize (d : Rat) = v at *
    grind
  have e : aftQ W p (t + 1) s = ((tel W.a W.b (pact W.acts p s) (nth l) d : Int) : Rat) / ((W.b * isum (pact W.acts p s).o * d : Int) : Rat) := actQ_tel h0 hbS hv
  rw [aftF_at hs, e]
  have g1 := frq_dvd (a := tel W.a W.b (pact W.acts p s) (nth l) d) hm
  have g2 := frq_mul (a := tel W.a W.b (pact W.acts p s) (nth l) d) hm
  have g3 := frq_pos (((tel W.a W.b (pact W.acts p s) (nth l) d : Int) : Rat) / ((W.b * isum (pact W.acts p s).o * d : Int) : Rat))
  generalize toFr (((tel W.a W.b (pact W.acts p s) (nth l) d : Int) : Rat) / ((W.b * isum (pact W.acts p s).o * d : Int) : Rat)) = y at *
  refine ⟨g1, ?_⟩
  have g4 := Int.tdiv_mul_cancel g1
  generalize (W.b * isum (pact W.acts p s).o * d).tdiv y.d = r at *
  rw [← g4] at g2
  refine Int.eq_of_mul_eq_mul_right (show y.d ≠ 0 by omega) ?_
  grind
theorem aft_nums {W : Wd} {p l : List Int} {D d : Int} {t : Nat} (h : isPlanB W p = true) (ht : t ≤ 2) (hD : D ≤ 82944) (h0 : 0 < D) (hb : ∀ s, s < W.acts.length → -15676416 ≤ (fr (aftF W p t) s).n ∧ (fr (aftF W p t) s).n ≤ 15676416) (hw : WholeOf (aftF W p t) D l d) :
    0 < d ∧ d ≤ 82944 ∧ ∀ e ∈ l, -1000000000000000 ≤ e ∧ e ≤ 1000000000000000 := by
  obtain ⟨h1, h2, h3, h4⟩ := hw
  have hd := Int.le_of_dvd h0 h2
  refine ⟨h1, by omega, fun e he => ?_⟩
  obtain ⟨i, hi, rfl⟩ := List.mem_iff_getElem.1 he
  have hi2 : i < W.acts.length := by rw [h3, aftF_len] at hi; exact hi
  have h5 := h4 i (by rw [aftF_len]; exact hi2)
  rw [nth_of_lt hi] at h5
  have hl := aft_frlow h (show t ≤ 3 by omega) hi2
  have h6 := hb i hi2
  have h7 := mul_le3 (A := 15676416) (B := 82944) h6.1 h6.2 (show -82944 ≤ d by omega) (by omega) (by omega)
  generalize fr (aftF W p t) i = f at *
  have hfd := hl.1
  rw [← h5] at h7
  constructor
  · by_cases hn : 0 ≤ l[i]
    · omega
    · have := Int.mul_le_mul_of_nonpos_left (show l[i] ≤ 0 by omega) hfd
      omega
  · by_cases hn : l[i] ≤ 0
    · omega
    · have := Int.mul_le_mul_of_nonneg_left hfd (show 0 ≤ l[i] by omega)
      omega
end Go.Proofs.Ytcmakddnjmeklaa
