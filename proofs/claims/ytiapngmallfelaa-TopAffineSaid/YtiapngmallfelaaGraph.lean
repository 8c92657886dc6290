
/- Plain: graphs as lists of sets; sums; the numbers of a graph. -/
import Derived.Test.YtiapngmallfelaaLowb
namespace Go.Proofs.Ytiapngmallfelaa
open Go.RowKit

/-! ### sums -/
def sumTo : Nat → (Nat → Nat) → Nat
  | 0, _ => 0
  | n + 1, f => sumTo n f + f n
theorem sumTo_left (f : Nat → Nat) : ∀ n, sumTo (n + 1) f = f 0 + sumTo n (fun j => f (j + 1)) := by
  intro n; induction n with
  | zero => simp [sumTo]
  | succ n ih => rw [sumTo, ih, sumTo]; omega
theorem sumTo_congr {f g : Nat → Nat} : ∀ {n}, (∀ j, j < n → f j = g j) → sumTo n f = sumTo n g := by
  intro n; induction n with
  | zero => intro _; rfl
  | succ n ih => intro h; rw [sumTo, sumTo, ih (fun j hj => h j (by omega)), h n (by omega)]
theorem sumTo_add (f g : Nat → Nat) : ∀ n, sumTo n (fun j => f j + g j) = sumTo n f + sumTo n g := by
  intro n; induction n with
  | zero => rfl
  | succ n ih => simp only [sumTo, ih]; omega
theorem sumTo_le {f g : Nat → Nat} : ∀ {n}, (∀ j, j < n → f j ≤ g j) → sumTo n f ≤ sumTo n g := by
  intro n; induction n with
  | zero => intro _; simp [sumTo]
  | succ n ih => intro h; have := ih (fun j hj => h j (by omega)); have := h n (by omega); simp only [sumTo]; omega
theorem sumTo_one : ∀ n, sumTo n (fun _ => 1) = n := by
  intro n; induction n with
  | zero => rfl
  | succ n ih => simp only [sumTo, ih]
theorem sumTo_zero : ∀ n, sumTo n (fun _ => 0) = 0 := by
  intro n; induction n with
  | zero => rfl
  | succ n ih => simp only [sumTo, ih]
/-- A sum in which one term is less is less by that. -/
theorem sumTo_drop {f g : Nat → Nat} {d : Nat} : ∀ {n}, (∀ j, j < n → j ≠ d → f j = g j) → d < n → sumTo n f + g d = sumTo n g + f d := by
  intro n; induction n with
  | zero => intro _ h; omega
  | succ n ih =>
    intro h hd
    by_cases e : d = n
    · subst e
      have := sumTo_congr (n := d) (fun j hj => h j (by omega) (by omega))
      simp only [sumTo, this]; omega
    · have := ih (fun j hj => h j (by omega)) (by omega)
      have := h n (by omega) (by omega)
      simp only [sumTo]; omega
theorem sumTo_pos {f : Nat → Nat} : ∀ {n}, 0 < sumTo n f → ∃ j, j < n ∧ 0 < f j := by
  intro n; induction n with
  | zero => intro h; simp [sumTo] at h
  | succ n ih =>
    intro h
    by_cases h0 : 0 < f n
    · exact ⟨n, by omega, h0⟩
    · obtain ⟨j, hj, hf⟩ := ih (by simp only [sumTo] at h; omega)
      exact ⟨j, by omega, hf⟩
theorem le_sumTo {f : Nat → Nat} {d : Nat} : ∀ {n}, d < n → f d ≤ sumTo n f := by
  intro n; induction n with
  | zero => intro h; omega
  | succ n ih =>
    intro h
    by_cases e : d = n
    · subst e; simp only [sumTo]; omega
    · have := ih (by omega); simp only [sumTo]; omega

theorem popF_sum : ∀ n x, popF n x = sumTo n (bt x) := by
  intro n; induction n with
  | zero => intro x; rfl
  | succ n ih =>
    intro x
    rw [popF, ih, sumTo_left]
    have e0 : bt x 0 = x % 2 := by unfold bt; simp
    rw [e0]
    congr 1
    exact sumTo_congr fun j _ => by unfold bt; rw [Nat.div_div_eq_div_mul, Nat.pow_succ, Nat.mul_comm]
theorem pop_sum (x : Nat) : pop x = sumTo 16 (bt x) := popF_sum 16 x
theorem sumTo_split (f : Nat → Nat) (m : Nat) : ∀ k, sumTo (m + k) f = sumTo m f + sumTo k (fun j => f (m + j)) := by
  intro k; induction k with
  | zero => simp [sumTo]
  | succ k ih => rw [← Nat.add_assoc, sumTo, ih, sumTo]; omega
/-- A set of numbers below n is counted below n. -/
theorem pop_below {x n : Nat} (hn : n ≤ 16) (h : x < 2 ^ n) : pop x = sumTo n (bt x) := by
  rw [pop_sum, show 16 = n + (16 - n) by omega, sumTo_split]
  have : sumTo (16 - n) (fun j => bt x (n + j)) = 0 := by
    rw [← sumTo_zero (16 - n)]
    exact sumTo_congr fun j _ => by
      rw [bt_test, Nat.testBit_lt_two_pow (Nat.lt_of_lt_of_le h (Nat.pow_le_pow_right (by omega) (by omega)))]; rfl
  omega

/-! ### graphs -/
def Gr (G : List Nat) : Prop := 1 ≤ G.length ∧ G.length ≤ 16 ∧
  ∀ i, i < G.length → gn G i < 2 ^ G.length ∧ (gn G i).testBit i = false ∧ ∀ j, j < G.length → (gn G i).testBit j = (gn G j).testBit i
theorem Gr.small {G : List Nat} (h : Gr G) : ∀ x ∈ G, x < 65536 := by
  intro x hx
  obtain ⟨i, hi, rfl⟩ := List.getElem_of_mem hx
  have h1 := (h.2.2 i hi).1
  have h2 : 2 ^ G.length ≤ 2 ^ 16 := Nat.pow_le_pow_right (by omega) h.2.1
  have e : gn G i = G[i] := by simp [gn, hi]
  rw [e] at h1; omega
theorem gn_of_lt {G : List Nat} {i : Nat} (h : i < G.length) : gn G i = G[i] := by simp [gn, h]

theorem bitv_bt {x j : Nat} (h : x < 65536) : bitv (x : Int) j = (bt x j : Int) := bits_bt x j (by omega)
theorem vld_ints {G : List Nat} (h : Gr G) : VldP (ints G) := by
  refine ⟨by rw [ints_length]; exact h.1, by rw [ints_length]; exact h.2.1, fun i hi => ?_⟩
  rw [ints_length] at hi
  have hs := gn_lt h.small (by omega)
  obtain ⟨h1, h2, h3⟩ := h.2.2 i hi
  refine ⟨by rw [nth_ints]; omega, by rw [nth_ints, ints_length, ← pow_cast]; omega, ?_, fun j hj => ?_⟩
  · rw [nth_ints, bitv_bt (hs i), bt_test, h2]; simp
  · rw [ints_length] at hj
    rw [nth_ints, nth_ints, bitv_bt (hs i), bitv_bt (hs j), bt_test, bt_test, h3 j hj]
/-- A slice that is a graph holds sets. -/
theorem vld_gr {l : List Int} (h : VldP l) : ∃ G : List Nat, l = ints G ∧ Gr G := by
  have hp := pow_small h.2.1
  have hr : ∀ x ∈ l, 0 ≤ x ∧ x < 2 ^ l.length := by
    intro x hx
    obtain ⟨i, hi, rfl⟩ := List.getElem_of_mem hx
    obtain ⟨a, b, _⟩ := h.2.2 i hi
    rw [nth_of_lt hi] at a b; exact ⟨a, b⟩
  have e : l = ints (l.map Int.toNat) := by
    unfold ints
    rw [List.map_map]
    refine (List.map_id l).symm.trans (List.map_congr_left fun x hx => ?_)
    have := hr x hx; simp; omega
  refine ⟨l.map Int.toNat, e, by simpa using h.1, by simpa using h.2.1, fun i hi => ?_⟩
  have hsm : ∀ x ∈ l.map Int.toNat, x < 65536 := by
    intro x hx
    obtain ⟨y, hy, rfl⟩ := List.mem_map.1 hx
    have := hr y hy; omega
  have hs := gn_lt hsm (by omega)
  have hi' : i < l.length := by simpa using hi
  obtain ⟨a, b, c, d⟩ := h.2.2 i hi'
  generalize hG : l.map Int.toNat = G at *
  have hlen : G.length = l.length := by rw [← hG]; simp
  subst e
  rw [nth_ints] at a b c
  rw [bitv_bt (hs i), bt_test] at c
  rw [ints_length] at b hlen
  refine ⟨by rw [← pow_cast] at b; omega, ?_, fun j hj => ?_⟩
  · cases e : (gn G i).testBit i with
    | false => rfl
    | true => rw [e] at c; simp at c
  · have := d j (by rw [ints_length]; exact hj)
    rw [nth_ints, nth_ints, bitv_bt (hs i), bitv_bt (hs j), bt_test, bt_test] at this
    cases e1 : (gn G i).testBit j <;> cases e2 : (gn G j).testBit i <;> simp [e1, e2] at this ⊢
theorem vld_len {l : List Int} : VldP (l.take 20) ↔ VldP l := by
  by_cases h : l.length ≤ 20
  · rw [List.take_of_length_le h]
  · constructor
    · intro v; have := v.2.1; simp at this; omega
    · intro v; have := v.2.1; omega
theorem vld_take {l : List Int} (h : VldP l) : l.take 20 = l := List.take_of_length_le (by have := h.2.1; omega)

end Go.Proofs.Ytiapngmallfelaa
