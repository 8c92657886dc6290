/- The numbers of a graph: what they have to be. Plain counting. -/
import Derived.Test.YtijnpcehjnaaiaaDesP
import Derived.Test.YtijnpcehjnaaiaaNList
namespace Go.Proofs.Ytijnpcehjnaaiaa
open Go.RowKit

/-! ### sums -/
theorem sum_swap (f : Nat → Nat → Nat) (n m : Nat) : sumTo n (fun i => sumTo m fun j => f i j) = sumTo m (fun j => sumTo n fun i => f i j) := by
  induction n with
  | zero => show 0 = sumTo m (fun _ => 0); rw [sumTo_zero]
  | succ n ih =>
    show sumTo n (fun i => sumTo m fun j => f i j) + sumTo m (fun j => f n j) = sumTo m (fun j => sumTo n (fun i => f i j) + f n j)
    rw [ih, sumTo_add]
theorem sum_mul (f : Nat → Nat) (c n : Nat) : sumTo n (fun i => c * f i) = c * sumTo n f := by
  induction n with
  | zero => rfl
  | succ n ih => simp only [sumTo]; rw [ih, Nat.mul_add]
theorem sum_const (c n : Nat) : sumTo n (fun _ => c) = n * c := by
  induction n with
  | zero => simp [sumTo]
  | succ n ih => simp only [sumTo]; rw [ih, Nat.succ_mul]
/-- Ordered sets of three are six times the sets of three. -/
theorem sum_six (h : Nat → Nat → Nat → Nat) (h1 : ∀ a b c, h a b c = h a c b) (h2 : ∀ a b c, h a b c = h b a c) (h0 : ∀ a b, h a b b = 0) :
    ∀ m, sumTo m (fun i => sumTo m fun j => sumTo m fun c => h i j c) = 6 * sumTo m (fun i => sumTo i fun j => sumTo j fun c => h i j c) := by
  intro m; induction m with
  | zero => rfl
  | succ m ih =>
    have d := sum_dbl (fun j c => h m j c) (fun a b => h1 m a b) (fun a => h0 m a) m
    have e1 : ∀ i, sumTo (m + 1) (fun j => sumTo (m + 1) fun c => h i j c) = sumTo m (fun j => sumTo m fun c => h i j c) + sumTo m (fun j => h m i j) + (sumTo m (fun c => h m i c) + h m i m) := by
      intro i
      show sumTo m (fun j => sumTo m (fun c => h i j c) + h i j m) + (sumTo m (fun c => h i m c) + h i m m) = _
      rw [sumTo_add, sumTo_congr (f := fun j => h i j m) (g := fun j => h m i j) fun j _ => by rw [h1, h2], sumTo_congr (f := fun c => h i m c) (g := fun c => h m i c) fun c _ => by rw [h2], h2 i m m]
    have e2 : sumTo (m + 1) (fun i => sumTo (m + 1) fun j => sumTo (m + 1) fun c => h i j c) = sumTo (m + 1) (fun i => sumTo m (fun j => sumTo m fun c => h i j c) + sumTo m (fun j => h m i j) + (sumTo m (fun c => h m i c) + h m i m)) := sumTo_congr fun i _ => e1 i
    rw [e2]
    show sumTo m (fun i => sumTo m (fun j => sumTo m fun c => h i j c) + sumTo m (fun j => h m i j) + (sumTo m (fun c => h m i c) + h m i m)) + (sumTo m (fun j => sumTo m fun c => h m j c) + sumTo m (fun j => h m m j) + (sumTo m (fun c => h m m c) + h m m m)) = 6 * (sumTo m (fun i => sumTo i fun j => sumTo j fun c => h i j c) + sumTo m (fun j => sumTo j fun c => h m j c))
    have z1 : ∀ c, h m m c = 0 := fun c => by rw [h1, h2, h1, h2]; rw [h2, h1]; exact h0 c m
    have z2 : sumTo m (fun c => h m m c) = 0 := by rw [← sumTo_zero m]; exact sumTo_congr fun c _ => z1 c
    have z3 : sumTo m (fun i => h m i m) = 0 := by rw [← sumTo_zero m]; exact sumTo_congr fun c _ => by rw [h1]; exact z1 c
    rw [sumTo_add, sumTo_add, sumTo_add, ih, z1, z2, z3, d]
    omega

/-! ### the graph of all other pairs -/
theorem fulln_bit {n j : Nat} : (full n).testBit j = decide (j < n) := by unfold full; exact Nat.testBit_two_pow_sub_one n j
theorem oth_bit {G : List Nat} {i j : Nat} (hi : i < G.length) (hj : j < G.length) : (gn (othr G) i).testBit j = (!(gn G i).testBit j && decide (i ≠ j)) := by
  rw [othr_gn hi, andn_bit, andn_bit, fulln_bit, Nat.testBit_two_pow]
  simp [hj]
theorem oth_lt {G : List Nat} {i : Nat} (hi : i < G.length) : gn (othr G) i < 2 ^ G.length := by
  rw [othr_gn hi]
  refine andn_lt (andn_lt ?_)
  have := Nat.one_le_two_pow (n := G.length)
  unfold full; omega
theorem oth_gr {G : List Nat} (hG : Gr G) : Gr (othr G) := by
  refine ⟨by rw [othr_length]; exact hG.1, by rw [othr_length]; exact hG.2.1, fun i hi => ?_⟩
  rw [othr_length] at hi ⊢
  refine ⟨oth_lt hi, by rw [oth_bit hi hi]; simp, fun j hj => ?_⟩
  rw [oth_bit hi hj, oth_bit hj hi, (hG.2.2 i hi).2.2 j hj]
  congr 1
  simp [eq_comm]
theorem oth_oth {G : List Nat} (hG : Gr G) : othr (othr G) = G := by
  have hl := othr_length G
  refine gn_ext (by rw [othr_length, othr_length]) fun i hi => ?_
  rw [othr_length, othr_length] at hi
  refine nat_bits_ext (n := G.length) (by have := oth_lt (G := othr G) (i := i) (by omega); rwa [hl] at this) (hG.2.2 i hi).1 fun j hj => ?_
  rw [oth_bit (by omega) (by omega), oth_bit hi hj]
  by_cases e : i = j
  · subst e; rw [(hG.2.2 i hi).2.1]; simp
  · simp [e]
theorem oth_pop {G : List Nat} (hG : Gr G) {i : Nat} (hi : i < G.length) : pop (gn (othr G) i) + pop (gn G i) + 1 = G.length := by
  have hO := oth_gr hG
  have hl := othr_length G
  have e1 := row_sum hG hi
  have e2 := row_sum hO (i := i) (by omega)
  rw [hl] at e2
  rw [← e1, ← e2, ← sumTo_ind hi, ← sumTo_add, ← sumTo_add]
  rw [show sumTo G.length (fun j => b1 ((gn (othr G) i).testBit j) + b1 ((gn G i).testBit j) + (if j = i then 1 else 0)) = sumTo G.length (fun _ => 1) from sumTo_congr fun c hc => by
    rw [oth_bit hi hc]
    by_cases e : c = i
    · subst e; rw [(hG.2.2 c hc).2.1]; simp [b1]
    · have e' : ¬ i = c := fun q => e q.symm
      cases (gn G i).testBit c <;> simp [b1, e, e']]
  exact sumTo_one _
theorem oth_and {G : List Nat} (hG : Gr G) {i j : Nat} (hi : i < G.length) (hj : j < G.length) (hij : i ≠ j) :
    pop (gn (othr G) i &&& gn (othr G) j) + pop (gn G i) + pop (gn G j) + 2 = G.length + pop (gn G i &&& gn G j) + 2 * b1 ((gn G i).testBit j) := by
  have hO := oth_gr hG
  have hl := othr_length G
  have e1 := row_sum hG hi
  have e2 := row_sum hG hj
  have e3 := and_sum hG hi (j := j)
  have e4 := and_sum hO (i := i) (j := j) (by omega)
  rw [hl] at e4
  have i1 := sumTo_ind hi
  have i2 := sumTo_ind hj
  have hb : ∃ b, b1 ((gn G i).testBit j) = b := ⟨_, rfl⟩
  obtain ⟨b, hb⟩ := hb
  have key : sumTo G.length (fun c => b1 ((gn (othr G) i).testBit c && (gn (othr G) j).testBit c) + b1 ((gn G i).testBit c) + b1 ((gn G j).testBit c) + (if c = i then 1 else 0) + (if c = j then 1 else 0)) =
      sumTo G.length (fun c => 1 + b1 ((gn G i).testBit c && (gn G j).testBit c) + b * (if c = i then 1 else 0) + b * (if c = j then 1 else 0)) := sumTo_congr fun c hc => by
    rw [oth_bit hi hc, oth_bit hj hc]
    by_cases q1 : c = i
    · subst q1
      have q2 : ¬ c = j := hij
      rw [(hG.2.2 c hi).2.1, (hG.2.2 j hj).2.2 c hi, hb, if_pos rfl, if_neg q2]
      simp [b1]; omega
    · by_cases q2 : c = j
      · subst q2
        rw [(hG.2.2 c hj).2.1, hb, if_neg q1, if_pos rfl]
        simp [b1]; omega
      · have q1' : ¬ i = c := fun q => q1 q.symm
        have q2' : ¬ j = c := fun q => q2 q.symm
        rw [if_neg q1, if_neg q2]
        cases (gn G i).testBit c <;> cases (gn G j).testBit c <;> simp [b1, q1', q2']
  simp only [sumTo_add, sum_mul, sumTo_one] at key
  rw [i1, i2] at key
  omega
/-- The numbers of the other graph. -/
theorem oth_num {G : List Nat} (hG : Gr G) {k l m : Nat} (hn : Num G k l m) : 2 * k + 2 ≤ G.length + m ∧ 2 * k ≤ G.length + l ∧ Num (othr G) (G.length - k - 1) (G.length + m - 2 - 2 * k) (G.length + l - 2 * k) := by
  have hl := othr_length G
  obtain ⟨n1, n2, n3, n4, n5⟩ := hn
  have yes : ∀ i j, i < G.length → j < i → (gn G i).testBit j = true → pop (gn (othr G) i &&& gn (othr G) j) + 2 * k = G.length + l := fun i j hi hj hb => by
    have := oth_and hG hi (j := j) (by omega) (by omega)
    rw [n3 i hi, n3 j (by omega), n4 i j hi hj hb, hb] at this
    simp [b1] at this; omega
  have no : ∀ i j, i < G.length → j < i → (gn G i).testBit j = false → pop (gn (othr G) i &&& gn (othr G) j) + 2 * k + 2 = G.length + m := fun i j hi hj hb => by
    have := oth_and hG hi (j := j) (by omega) (by omega)
    rw [n3 i hi, n3 j (by omega), n5 i j hi hj hb, hb] at this
    simp [b1] at this; omega
  have h1 : 2 * k + 2 ≤ G.length + m := by
    obtain ⟨i, j, hi, hj, hb⟩ := hG.gap (n3 0 (by have := hG.1; omega)) n2
    have := no i j hi hj hb
    omega
  have h2 : 2 * k ≤ G.length + l := by
    obtain ⟨i, j, hi, hj, hb⟩ := hG.edge (n3 0 (by have := hG.1; omega)) n1
    have := yes i j hi hj hb
    omega
  refine ⟨h1, h2, by omega, by omega, fun i hi => ?_, fun i j hi hj hb => ?_, fun i j hi hj hb => ?_⟩
  · have := oth_pop hG (i := i) (by omega)
    rw [n3 i (by omega)] at this
    omega
  · rw [oth_bit (by omega) (by omega)] at hb
    have hb2 : (gn G i).testBit j = false := by
      cases e : (gn G i).testBit j with
      | false => rfl
      | true => rw [e] at hb; simp at hb
    have := no i j (by omega) hj hb2
    omega
  · rw [oth_bit (by omega) (by omega)] at hb
    have hb2 : (gn G i).testBit j = true := by
      cases e : (gn G i).testBit j with
      | true => rfl
      | false => rw [e] at hb; simp at hb; omega
    have := yes i j (by omega) hj hb2
    omega
end Go.Proofs.Ytijnpcehjnaaiaa
