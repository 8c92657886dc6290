/- Chapter 9, plain: what is gained in some steps. -/
import Derived.Test.YtcmakddnjmeklaaRp
namespace Go.Proofs.Ytcmakddnjmeklaa
open Go.RowKit

def prodN (f : Nat → Int) : Nat → Int
  | 0 => 1
  | k + 1 => prodN f k * f k
theorem prodN_bd {f : Nat → Int} : ∀ n, (∀ i, i < n → 1 ≤ f i ∧ f i ≤ 12) → 1 ≤ prodN f n ∧ prodN f n ≤ 12 ^ n
  | 0, _ => by simp [prodN]
  | n + 1, h => by
    have h1 := prodN_bd n fun i hi => h i (by omega)
    have h2 := h n (by omega)
    have h3 : 0 < prodN f n * f n := Int.mul_pos (by omega) (by omega)
    have h4 : prodN f n * f n ≤ 12 ^ n * 12 := Int.mul_le_mul h1.2 h2.2 (by omega) (by have : (0 : Int) < 12 ^ n := Int.pow_pos (by omega); omega)
    refine ⟨by show 1 ≤ prodN f n * f n; omega, ?_⟩
    rw [Int.pow_succ]
    exact h4
theorem prodN_at {f : Nat → Int} : ∀ n, (∀ i, i < n → 1 ≤ f i ∧ f i ≤ 12) → ∀ s, s < n → ∃ e, prodN f n = f s * e ∧ 1 ≤ e ∧ e ≤ 12 ^ n
  | 0, _, s, hs => by omega
  | n + 1, h, s, hs => by
    have h2 := h n (by omega)
    have hp : (0 : Int) < 12 ^ n := Int.pow_pos (by omega)
    rw [Int.pow_succ]
    by_cases q : s = n
    · subst q
      have h1 := prodN_bd s fun i hi => h i (by omega)
      exact ⟨prodN f s, by show prodN f s * f s = _; exact Int.mul_comm _ _, h1.1, by omega⟩
    · obtain ⟨e, h3, h4, h5⟩ := prodN_at n (fun i hi => h i (by omega)) s (by omega)
      have h6 : 0 < e * f n := Int.mul_pos (by omega) (by omega)
      exact ⟨e * f n, by show prodN f n * f n = _; rw [h3, Int.mul_assoc], by omega, Int.mul_le_mul h5 h2.2 (by omega) (by omega)⟩
theorem pow12 {n : Nat} (h : n ≤ 4) : (12 : Int) ^ n ≤ 20736 := by
  have : n = 0 ∨ n = 1 ∨ n = 2 ∨ n = 3 ∨ n = 4 := by omega
  rcases this with rfl | rfl | rfl | rfl | rfl <;> decide
theorem Ov.scale {q : Rat} {D Z e : Int} (h : Ov q D Z) (hD : 0 < D) (he : 0 < e) : Ov q (D * e) (Z * e) := by
  obtain ⟨z, rfl, h1, h2⟩ := h
  have h0 := ratD_ne hD
  have h3 := ratD_ne he
  refine ⟨z * e, ?_, ?_, ?_⟩
  · rw [Rat.intCast_mul, Rat.intCast_mul]
    generalize (z : Rat) = s at *
    generalize (D : Rat) = t at *
    generalize (e : Rat) = u at *
    grind
  · have := Int.mul_le_mul_of_nonneg_right h1 (Int.le_of_lt he)
    rwa [Int.neg_mul] at this
  · exact Int.mul_le_mul_of_nonneg_right h2 (Int.le_of_lt he)
/-- What is gained in t steps, as rationals. -/
def aftQ (W : Wd) (p : List Int) : Nat → Nat → Rat
  | 0, _ => 0
  | t + 1, s => actQ W.a W.b (pact W.acts p s) (aftQ W p t)
def aftF (W : Wd) (p : List Int) (t : Nat) : List Fr := (List.range W.acts.length).map fun s => toFr (aftQ W p t s)
theorem aftF_len {W : Wd} {p : List Int} {t : Nat} : (aftF W p t).length = W.acts.length := by simp [aftF]
theorem aftF_at {W : Wd} {p : List Int} {t s : Nat} (hs : s < W.acts.length) : fr (aftF W p t) s = toFr (aftQ W p t s) := by simp [fr, aftF, hs]
/-- The facts of a plan's act. -/
structure PA (W : Wd) (p : List Int) (s : Nat) : Prop where
  g : -9 ≤ (pact W.acts p s).g ∧ (pact W.acts p s).g ≤ 9
  len : (pact W.acts p s).o.length = W.acts.length
  o : ∀ y ∈ (pact W.acts p s).o, 0 ≤ y ∧ y ≤ 3
  S : 1 ≤ isum (pact W.acts p s).o ∧ isum (pact W.acts p s).o ≤ 12
  bS : 1 ≤ W.b * isum (pact W.acts p s).o ∧ W.b * isum (pact W.acts p s).o ≤ 48
theorem pa_of {W : Wd} {p : List Int} (h : isPlanB W p = true) {s : Nat} (hs : s < W.acts.length) : PA W p s := by
  obtain ⟨_, _, _, ⟨hn1, hn4, ha1, hab, hb4⟩, _⟩ := plan_parts h
  have hva := vAc_at (vAc_pact h hs)
  have h1 : 1 ≤ isum (pact W.acts p s).o ∧ isum (pact W.acts p s).o ≤ 12 := by omega
  have h2 := mul_le3 (A := 4) (B := 12) (show -4 ≤ W.b by omega) hb4 (show -12 ≤ isum (pact W.acts p s).o by omega) (by omega) (by omega)
  have h3 : 0 < W.b * isum (pact W.acts p s).o := Int.mul_pos (by omega) (by omega)
  exact ⟨⟨hva.1, hva.2.1⟩, hva.2.2.1, hva.2.2.2.1, h1, by omega⟩
theorem sumQ_zero (o : List Int) : ∀ k, sumQ o (fun _ => 0) k = 0
  | 0 => rfl
  | k + 1 => by show sumQ o (fun _ => 0) k + _ = 0; rw [sumQ_zero o k]; grind
theorem aft_one {W : Wd} {p : List Int} {s : Nat} : aftQ W p 1 s = ((pact W.acts p s).g : Rat) := by
  show ((pact W.acts p s).g : Rat) + sumQ _ (fun _ => 0) _ * _ = _
  rw [sumQ_zero]; grind
theorem ov_next {W : Wd} {p : List Int} (h : isPlanB W p = true) {t : Nat} {D Z : Int} (hD : 0 < D) (hZ : 0 ≤ Z) (hv : ∀ s, s < W.acts.length → Ov (aftQ W p t s) D Z) {s : Nat} (hs : s < W.acts.length) :
    Ov (aftQ W p (t + 1) s) (D * (W.b * isum (pact W.acts p s).o)) (9 * (D * (W.b * isum (pact W.acts p s).o)) + 36 * Z) := by
  obtain ⟨_, _, _, ⟨hn1, hn4, ha1, hab, hb4⟩, _⟩ := plan_parts h
  have q := pa_of h hs
  have h1 := ov_act (a := W.a) (b := W.b) (x := pact W.acts p s) (v := aftQ W p t) hD hZ (by omega) (by have := q.bS; omega) q.g q.o fun i hi => hv i (by rw [q.len] at hi; exact hi)
  refine h1.wide ?_
  have : 3 * ((pact W.acts p s).o.length : Int) * Z ≤ 12 * Z := Int.mul_le_mul_of_nonneg_right (by have := q.len; omega) hZ
  omega
def AftIn (W : Wd) (p : List Int) (t : Nat) : Prop := ∃ D Z, 0 < D ∧ D ≤ 82944 ∧ 0 ≤ Z ∧ Z ≤ 15676416 ∧ ∀ s, s < W.acts.length → Ov (aftQ W p t s) D Z
theorem aft_in {W : Wd} {p : List Int} (h : isPlanB W p = true) {t : Nat} (ht : t ≤ 2) : AftIn W p t := by
  obtain ⟨_, _, _, ⟨hn1, hn4, ha1, hab, hb4⟩, _⟩ := plan_parts h
  have h0 : ∀ s, s < W.acts.length → Ov (aftQ W p 0 s) 1 0 := fun s _ => Ov.zero (by omega)
  have h1 : ∀ s, s < W.acts.length → Ov (aftQ W p 1 s) 1 9 := fun s hs => by
    rw [aft_one]
    exact Ov.int (D := 1) (by omega) (pa_of h hs).g
  have : t = 0 ∨ t = 1 ∨ t = 2 := by omega
  rcases this with rfl | rfl | rfl
  · exact ⟨1, 0, by omega, by omega, by omega, by omega, h0⟩
  · exact ⟨1, 9, by omega, by omega, by omega, by omega, h1⟩
  · have hf : ∀ i, i < W.acts.length → 1 ≤ isum (pact W.acts p i).o ∧ isum (pact W.acts p i).o ≤ 12 := fun i hi => (pa_of h hi).S
    have hp := prodN_bd (f := fun i => isum (pact W.acts p i).o) W.acts.length hf
    have hp4 := pow12 hn4
    have hP : 0 < W.b * prodN (fun i => isum (pact W.acts p i).o) W.acts.length := Int.mul_pos (by omega) (by omega)
    have hP2 : W.b * prodN (fun i => isum (pact W.acts p i).o) W.acts.length ≤ 4 * 20736 := Int.mul_le_mul hb4 (by omega) (by omega) (by omega)
    refine ⟨W.b * prodN (fun i => isum (pact W.acts p i).o) W.acts.length, 15676416, by omega, by omega, by omega, by omega, fun s hs => ?_⟩
    obtain ⟨e, h3, h4, h5⟩ := prodN_at (f := fun i => isum (pact W.acts p i).o) W.acts.length hf s hs
    have h6 := ov_next h (D := 1) (Z := 9) (by omega) (by omega) h1 hs
    have q := (pa_of h hs).bS
    have h7 := h6.scale (e := e) (by omega) (by omega)
    rw [h3]
    have h8 : 1 * (W.b * isum (pact W.acts p s).o) * e = W.b * (isum (pact W.acts p s).o * e) := by rw [Int.one_mul, Int.mul_assoc]
    rw [h8] at h7
    refine h7.wide ?_
    have h9 : (9 * (1 * (W.b * isum (pact W.acts p s).o)) + 36 * 9) * e ≤ 756 * 20736 := Int.mul_le_mul (by omega) (by omega) (by omega) (by omega)
    omega
theorem aft_low {W : Wd} {p : List Int} (h : isPlanB W p = true) {t : Nat} (ht : t ≤ 3) {s : Nat} (hs : s < W.acts.length) : ((aftQ W p t s).den : Int) ≤ 3981312 ∧ -700000000 ≤ (aftQ W p t s).num ∧ (aftQ W p t s).num ≤ 700000000 := by
  by_cases q : t ≤ 2
  · obtain ⟨D, Z, h1, h2, h3, h4, h5⟩ := aft_in h q
    have := ov_bd (h5 s hs) h1
    omega
  · obtain rfl : t = 2 + 1 := by omega
    obtain ⟨D, Z, h1, h2, h3, h4, h5⟩ := aft_in h (t := 2) (by omega)
    have hb := (pa_of h hs).bS
    have h6 : D * (W.b * isum (pact W.acts p s).o) ≤ 82944 * 48 := Int.mul_le_mul h2 hb.2 (by omega) (by omega)
    have h7 : 0 < D * (W.b * isum (pact W.acts p s).o) := Int.mul_pos (by omega) (by omega)
    have := ov_bd (ov_next h h1 h3 h5 hs) h7
    omega
/-! ### the program's own sum -/
def preQ (a b : Int) (x : Ac) (v : Nat → Rat) (k : Nat) : Rat := (x.g : Rat) + sumQ x.o v k * ((a : Rat) / ((b * isum x.o : Int) : Rat))
theorem preQ_zero {a b : Int} {x : Ac} {v : Nat → Rat} : preQ a b x v 0 = (x.g : Rat) := by unfold preQ sumQ; grind
theorem preQ_all {a b : Int} {x : Ac} {v : Nat → Rat} : preQ a b x v x.o.length = actQ a b x v := rfl
theorem term_q {a b : Int} {x : Ac} (q : Rat) (y : Int) (hc : 0 < b * isum x.o) : ((a * y * q.num : Int) : Rat) / ((b * isum x.o * (q.den : Int) : Int) : Rat) = (y : Rat) * q * ((a : Rat) / ((b * isum x.o : Int) : Rat)) := by
  have h1 := fr_val q
  have h2 := frd_ne q
  have h3 := ratD_ne hc
  rw [Rat.intCast_mul (a * y), Rat.intCast_mul a, Rat.intCast_mul (b * isum x.o)]
  generalize ((b * isum x.o : Int) : Rat) = c at *
  generalize ((q.num : Int) : Rat) = n at *
  generalize ((q.den : Int) : Rat) = d at *
  generalize (a : Rat) = s at *
  generalize (y : Rat) = t at *
  grind
theorem preQ_succ {a b : Int} {x : Ac} {v : Nat → Rat} {k : Nat} (hc : 0 < b * isum x.o) :
    preQ a b x v k + ((a * nth x.o k * (v k).num : Int) : Rat) / ((b * isum x.o * ((v k).den : Int) : Int) : Rat) = preQ a b x v (k + 1) := by
  rw [term_q (v k) (nth x.o k) hc]
  show _ = (x.g : Rat) + (sumQ x.o v k + ((nth x.o k : Int) : Rat) * v k) * _
  unfold preQ
  generalize ((a : Rat) / ((b * isum x.o : Int) : Rat)) = c
  generalize sumQ x.o v k = s
  generalize ((nth x.o k : Int) : Rat) * v k = t
  grind
theorem ov_pre {a b : Int} {x : Ac} {v : Nat → Rat} {D Z : Int} (hD : 0 < D) (hZ : 0 ≤ Z) (ha : 1 ≤ a ∧ a ≤ 3) (hc : 0 < b * isum x.o) (hg : -9 ≤ x.g ∧ x.g ≤ 9) (ho : ∀ y ∈ x.o, 0 ≤ y ∧ y ≤ 3) {k : Nat} (hk : k ≤ x.o.length) (hv : ∀ i, i < x.o.length → Ov (v i) D Z) :
    Ov (preQ a b x v k) (D * (b * isum x.o)) (9 * (D * (b * isum x.o)) + 3 * (3 * k * Z)) := by
  have h1 := (ov_sum hD hZ ho k hk (fun i hi => hv i (by omega))).frac hD ha hc (Int.mul_nonneg (by omega) hZ)
  have h2 := Ov.int (x := x.g) (Int.mul_pos hD hc) hg
  exact h2.add h1 (Int.mul_pos hD hc)
end Go.Proofs.Ytcmakddnjmeklaa
