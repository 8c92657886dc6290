/- The numbers of a graph have no reason against them. Plain counting. -/
import Derived.Test.YtijnpcehjnaaiaaToldA
namespace Go.Proofs.Ytijnpcehjnaaiaa
open Go.RowKit

theorem zero_lt {G : List Nat} (hG : Gr G) : 0 < G.length := by have := hG.1; omega
/-- Paths of two, counted from node 0. -/
theorem num_c1 {G : List Nat} (hG : Gr G) {k l m : Nat} (hn : Num G k l m) : k * k + (1 + k) * m = k + k * l + G.length * m := by
  have h0 := zero_lt hG
  obtain ⟨n1, n2, n3, n4, n5⟩ := hn
  have e1 : sumTo G.length (fun j => pop (gn G 0 &&& gn G j)) = k * k := by
    rw [show sumTo G.length (fun j => pop (gn G 0 &&& gn G j)) = sumTo G.length (fun j => sumTo G.length fun c => b1 ((gn G 0).testBit c && (gn G j).testBit c)) from sumTo_congr fun j _ => (and_sum hG h0).symm, sum_swap]
    rw [show sumTo G.length (fun c => sumTo G.length fun j => b1 ((gn G 0).testBit c && (gn G j).testBit c)) = sumTo G.length (fun c => k * b1 ((gn G 0).testBit c)) from sumTo_congr fun c hc => by
      cases hb : (gn G 0).testBit c with
      | false => simp [b1]; exact sumTo_zero _
      | true =>
        rw [show sumTo G.length (fun j => b1 (true && (gn G j).testBit c)) = sumTo G.length (fun j => b1 ((gn G c).testBit j)) from sumTo_congr fun j hj => by rw [(hG.2.2 j hj).2.2 c hc]; simp, row_sum hG hc, n3 c hc]
        simp [b1], sum_mul, row_sum hG h0, n3 0 h0]
  have e2 : sumTo G.length (fun j => pop (gn G 0 &&& gn G j) + ((if j = 0 then 1 else 0) * m + b1 ((gn G 0).testBit j) * m)) = sumTo G.length (fun j => (if j = 0 then 1 else 0) * k + b1 ((gn G 0).testBit j) * l + m) := sumTo_congr fun j hj => by
    by_cases q : j = 0
    · subst q
      rw [Nat.and_self, n3 0 h0, (hG.2.2 0 h0).2.1]; simp [b1]
    · have := num_and hG ⟨n1, n2, n3, n4, n5⟩ h0 hj (fun e => q e.symm)
      rw [this]
      cases (gn G 0).testBit j <;> simp [b1, q] <;> omega
  rw [sumTo_add, sumTo_add, sumTo_add, sumTo_add, e1] at e2
  rw [show sumTo G.length (fun j => (if j = 0 then 1 else 0) * m) = m * sumTo G.length (fun j => if j = 0 then 1 else 0) from by rw [← sum_mul]; exact sumTo_congr fun j _ => Nat.mul_comm _ _,
    show sumTo G.length (fun j => b1 ((gn G 0).testBit j) * m) = m * sumTo G.length (fun j => b1 ((gn G 0).testBit j)) from by rw [← sum_mul]; exact sumTo_congr fun j _ => Nat.mul_comm _ _,
    show sumTo G.length (fun j => (if j = 0 then 1 else 0) * k) = k * sumTo G.length (fun j => if j = 0 then 1 else 0) from by rw [← sum_mul]; exact sumTo_congr fun j _ => Nat.mul_comm _ _,
    show sumTo G.length (fun j => b1 ((gn G 0).testBit j) * l) = l * sumTo G.length (fun j => b1 ((gn G 0).testBit j)) from by rw [← sum_mul]; exact sumTo_congr fun j _ => Nat.mul_comm _ _,
    sumTo_ind h0, row_sum hG h0, n3 0 h0, sum_const] at e2
  rw [Nat.add_mul, Nat.one_mul, Nat.mul_comm k m, Nat.mul_comm k l]
  omega
def adjN (G : List Nat) (i j : Nat) : Nat := b1 ((gn G i).testBit j)
def triN (G : List Nat) (i j c : Nat) : Nat := b1 ((gn G i).testBit j && ((gn G j).testBit c && (gn G i).testBit c))
/-- Twice the neighbours. -/
theorem num_c2 {G : List Nat} (hG : Gr G) {k l m : Nat} (hn : Num G k l m) : ∃ t, G.length * k = 2 * t := by
  have e := sum_dbl (cut G.length (adjN G)) (cut_sym fun a b ha hb => by unfold adjN; rw [(hG.2.2 a ha).2.2 b hb])
    (fun a => by
      unfold cut; split
      · rename_i h; unfold adjN; rw [(hG.2.2 a h.1).2.1]; rfl
      · rfl) G.length
  refine ⟨_, Eq.trans ?_ e⟩
  rw [← sum_const]
  refine sumTo_congr fun i hi => ?_
  rw [← hn.2.2.1 i hi, ← row_sum hG hi]
  exact sumTo_congr fun j hj => (cut_in (f := adjN G) hi hj).symm
/-- Six times the triangles. -/
theorem num_c4 {G : List Nat} (hG : Gr G) {k l m : Nat} (hn : Num G k l m) : ∃ t, G.length * (k * l) = 6 * t := by
  have s1 : ∀ a b c, cut3 G.length (triN G) a b c = cut3 G.length (triN G) a c b := by
    intro a b c; unfold cut3 triN
    by_cases h : a < G.length ∧ b < G.length ∧ c < G.length
    · rw [if_pos h, if_pos ⟨h.1, h.2.2, h.2.1⟩, (hG.2.2 b h.2.1).2.2 c h.2.2]
      cases (gn G a).testBit b <;> cases (gn G a).testBit c <;> cases (gn G c).testBit b <;> rfl
    · rw [if_neg h, if_neg (fun q => h ⟨q.1, q.2.2, q.2.1⟩)]
  have s2 : ∀ a b c, cut3 G.length (triN G) a b c = cut3 G.length (triN G) b a c := by
    intro a b c; unfold cut3 triN
    by_cases h : a < G.length ∧ b < G.length ∧ c < G.length
    · rw [if_pos h, if_pos ⟨h.2.1, h.1, h.2.2⟩, (hG.2.2 a h.1).2.2 b h.2.1]
      cases (gn G b).testBit a <;> cases (gn G a).testBit c <;> cases (gn G b).testBit c <;> rfl
    · rw [if_neg h, if_neg (fun q => h ⟨q.2.1, q.1, q.2.2⟩)]
  have s0 : ∀ a b, cut3 G.length (triN G) a b b = 0 := by
    intro a b; unfold cut3 triN; split
    · rename_i h; rw [(hG.2.2 b h.2.1).2.1]; cases (gn G a).testBit b <;> rfl
    · rfl
  have e := sum_six _ s1 s2 s0 G.length
  refine ⟨_, Eq.trans ?_ e⟩
  rw [← sum_const]
  refine sumTo_congr fun i hi => ?_
  rw [show sumTo G.length (fun j => sumTo G.length fun c => cut3 G.length (triN G) i j c) = sumTo G.length (fun j => l * b1 ((gn G i).testBit j)) from sumTo_congr fun j hj => by
    rw [show sumTo G.length (fun c => cut3 G.length (triN G) i j c) = sumTo G.length (fun c => b1 ((gn G i).testBit j && ((gn G j).testBit c && (gn G i).testBit c))) from sumTo_congr fun c hc => by unfold cut3; rw [if_pos ⟨hi, hj, hc⟩]; rfl]
    cases hb : (gn G i).testBit j with
    | false => simp [b1]; exact sumTo_zero _
    | true =>
      have hij : i ≠ j := by rintro rfl; rw [(hG.2.2 i hi).2.1] at hb; cases hb
      have := num_and hG hn hj hi (fun q => hij q.symm)
      rw [(hG.2.2 j hj).2.2 i hi, hb, ← and_sum hG hj] at this
      simp only [Bool.true_and]
      rw [this]; simp [b1], sum_mul, row_sum hG hi, hn.2.2.1 i hi, Nat.mul_comm]

theorem sumTo_two {f : Nat → Nat} {n : Nat} (h1 : ∀ j, j < n → f j ≤ 1) (h : 2 ≤ sumTo n f) : ∃ a b, a < n ∧ b < n ∧ a ≠ b ∧ 0 < f a ∧ 0 < f b := by
  obtain ⟨a, ha, hfa⟩ := sumTo_pos (show 0 < sumTo n f by omega)
  have e := sumTo_drop (f := f) (g := fun j => if j = a then 0 else f j) (d := a) (n := n) (fun j _ hj => by rw [if_neg hj]) ha
  simp at e
  have := h1 a ha
  obtain ⟨b, hb, hfb⟩ := sumTo_pos (show 0 < sumTo n (fun j => if j = a then 0 else f j) by omega)
  refine ⟨a, b, ha, hb, ?_, hfa, ?_⟩
  · rintro rfl; simp at hfb
  · by_cases q : b = a
    · subst q; simp at hfb
    · rw [if_neg q] at hfb; exact hfb
theorem b1_pos {b : Bool} (h : 0 < b1 b) : b = true := by cases b with | true => rfl | false => simp [b1] at h
theorem b1_le (b : Bool) : b1 b ≤ 1 := by cases b <;> simp [b1]

/-- Two neighbours of a node that are no neighbours. -/
theorem num_c5 {G : List Nat} (hG : Gr G) {k l m : Nat} (hn : Num G k l m) (h : l + 2 ≤ k) : 2 * l + 3 ≤ k + m := by
  have h0 := zero_lt hG
  have hk := hn.2.2.1
  obtain ⟨a, ha, hba⟩ := some_pop hG.2.1 (hG.2.2 0 h0).1 (by rw [hk 0 h0]; omega)
  have ha0 : a ≠ 0 := by rintro rfl; rw [(hG.2.2 0 h0).2.1] at hba; cases hba
  have c1 := num_and hG hn h0 ha (fun e => ha0 e.symm)
  rw [hba, if_pos rfl, ← and_sum hG h0] at c1
  have r0 := row_sum hG h0
  rw [hk 0 h0] at r0
  -- another neighbour of 0 that is none of a
  have s : sumTo G.length (fun c => b1 ((gn G 0).testBit c && !(gn G a).testBit c)) = k - l := by
    have : sumTo G.length (fun c => b1 ((gn G 0).testBit c && !(gn G a).testBit c) + b1 ((gn G 0).testBit c && (gn G a).testBit c)) = sumTo G.length (fun c => b1 ((gn G 0).testBit c)) := sumTo_congr fun c _ => by
      cases (gn G 0).testBit c <;> cases (gn G a).testBit c <;> rfl
    rw [sumTo_add, c1, r0] at this
    omega
  obtain ⟨x, y, hx, hy, hxy, fx, fy⟩ := sumTo_two (fun j _ => b1_le _) (show 2 ≤ sumTo G.length (fun c => b1 ((gn G 0).testBit c && !(gn G a).testBit c)) by omega)
  obtain ⟨b, hb, hab, fb⟩ : ∃ b, b < G.length ∧ a ≠ b ∧ ((gn G 0).testBit b && !(gn G a).testBit b) = true := by
    by_cases q : a = x
    · exact ⟨y, hy, fun e => hxy (q ▸ e), b1_pos fy⟩
    · exact ⟨x, hx, q, b1_pos fx⟩
  rw [Bool.and_eq_true, Bool.not_eq_true'] at fb
  obtain ⟨fb1, fb2⟩ := fb
  have hb0 : b ≠ 0 := by rintro rfl; rw [(hG.2.2 0 h0).2.1] at fb1; cases fb1
  have c2 := num_and hG hn h0 hb (fun e => hb0 e.symm)
  rw [fb1, if_pos rfl, ← and_sum hG h0] at c2
  have c3 := num_and hG hn ha hb hab
  rw [fb2, if_neg (by simp), ← and_sum hG ha] at c3
  have key : sumTo G.length (fun c => b1 ((gn G 0).testBit c && (gn G a).testBit c) + b1 ((gn G 0).testBit c && (gn G b).testBit c) + (if c = a then 1 else 0) + (if c = b then 1 else 0) + (if c = 0 then 1 else 0)) ≤
      sumTo G.length (fun c => b1 ((gn G 0).testBit c) + b1 ((gn G a).testBit c && (gn G b).testBit c)) := sumTo_le fun c hc => by
    by_cases q1 : c = a
    · subst q1
      rw [(hG.2.2 c ha).2.1, (hG.2.2 b hb).2.2 c ha, fb2, hba, if_pos rfl, if_neg hab, if_neg ha0]; simp [b1]
    · by_cases q2 : c = b
      · subst q2
        rw [(hG.2.2 c hb).2.1, fb2, fb1, if_neg q1, if_pos rfl, if_neg hb0]; simp [b1]
      · by_cases q3 : c = 0
        · subst q3
          rw [(hG.2.2 0 h0).2.1, (hG.2.2 a ha).2.2 0 h0, (hG.2.2 b hb).2.2 0 h0, hba, fb1, if_neg q1, if_neg q2, if_pos rfl]; simp [b1]
        · rw [if_neg q1, if_neg q2, if_neg q3]
          cases (gn G 0).testBit c <;> cases (gn G a).testBit c <;> cases (gn G b).testBit c <;> simp [b1]
  simp only [sumTo_add] at key
  rw [c1, c2, c3, r0, sumTo_ind ha, sumTo_ind hb, sumTo_ind h0] at key
  omega

/-- Nodes of a graph without triangles, far from node 0. -/
theorem num_c7 {G : List Nat} (hG : Gr G) {k m : Nat} (hn : Num G k 0 m) (h : m + 2 ≤ k) : 2 * m + 1 ≤ k := by
  have h0 := zero_lt hG
  have hk := hn.2.2.1
  obtain ⟨y, hy, hy0, by0⟩ := two_pop hG.2.1 (hG.2.2 0 h0).1 h0 (by rw [hk 0 h0]; exact hn.2.1)
  have cy := num_and hG hn h0 hy (fun e => hy0 e.symm)
  rw [by0, if_neg (by simp), ← and_sum hG h0] at cy
  have r0 := row_sum hG h0
  rw [hk 0 h0] at r0
  have ry := row_sum hG hy
  rw [hk y hy] at ry
  have s : sumTo G.length (fun c => b1 ((gn G y).testBit c && !(gn G 0).testBit c)) = k - m := by
    have : sumTo G.length (fun c => b1 ((gn G y).testBit c && !(gn G 0).testBit c) + b1 ((gn G 0).testBit c && (gn G y).testBit c)) = sumTo G.length (fun c => b1 ((gn G y).testBit c)) := sumTo_congr fun c _ => by
      cases (gn G 0).testBit c <;> cases (gn G y).testBit c <;> rfl
    rw [sumTo_add, cy, ry] at this
    omega
  obtain ⟨a, b, ha, hb, hab, fa, fb⟩ := sumTo_two (fun j _ => b1_le _) (show 2 ≤ sumTo G.length (fun c => b1 ((gn G y).testBit c && !(gn G 0).testBit c)) by omega)
  have fa := b1_pos fa
  have fb := b1_pos fb
  rw [Bool.and_eq_true, Bool.not_eq_true'] at fa fb
  obtain ⟨ya, a0⟩ := fa
  obtain ⟨yb, b0⟩ := fb
  have apart : ∀ d, d < G.length → (gn G y).testBit d = true → ∀ c, c < G.length → ((gn G y).testBit c && (gn G d).testBit c) = false := by
    intro d hd hyd c hc
    have hdy : y ≠ d := by rintro rfl; rw [(hG.2.2 y hy).2.1] at hyd; cases hyd
    have := num_and hG hn hy hd hdy
    rw [hyd, if_pos rfl, ← and_sum hG hy] at this
    have le := le_sumTo (f := fun c => b1 ((gn G y).testBit c && (gn G d).testBit c)) hc
    rw [this] at le
    cases q : ((gn G y).testBit c && (gn G d).testBit c) with
    | false => rfl
    | true => simp only [q] at le; simp [b1] at le
  have ne0 : ∀ d, d < G.length → (gn G y).testBit d = true → d ≠ 0 := by
    rintro d hd hyd rfl
    rw [(hG.2.2 y hy).2.2 0 h0, by0] at hyd; cases hyd
  have hab2 : (gn G a).testBit b = false := by
    have := apart a ha ya b hb
    rw [yb] at this; simpa using this
  have ca := num_and hG hn h0 ha (fun e => ne0 a ha ya e.symm)
  rw [a0, if_neg (by simp), ← and_sum hG h0] at ca
  have cb := num_and hG hn h0 hb (fun e => ne0 b hb yb e.symm)
  rw [b0, if_neg (by simp), ← and_sum hG h0] at cb
  have cab := num_and hG hn ha hb hab
  rw [hab2, if_neg (by simp), ← and_sum hG ha] at cab
  have key : sumTo G.length (fun c => b1 ((gn G 0).testBit c && (gn G y).testBit c) + b1 ((gn G 0).testBit c && (gn G a).testBit c) + b1 ((gn G 0).testBit c && (gn G b).testBit c) + (if c = y then 1 else 0)) ≤
      sumTo G.length (fun c => b1 ((gn G 0).testBit c) + b1 ((gn G a).testBit c && (gn G b).testBit c)) := sumTo_le fun c hc => by
    by_cases q : c = y
    · subst q
      rw [by0, if_pos rfl, (hG.2.2 a ha).2.2 c hy, (hG.2.2 b hb).2.2 c hy, ya, yb]; simp [b1]
    · rw [if_neg q]
      have p1 := apart a ha ya c hc
      have p2 := apart b hb yb c hc
      revert p1 p2
      cases (gn G 0).testBit c <;> cases (gn G y).testBit c <;> cases (gn G a).testBit c <;> cases (gn G b).testBit c <;> simp [b1]
  simp only [sumTo_add] at key
  rw [cy, ca, cb, cab, r0, sumTo_ind hy] at key
  omega

/-- A graph of cliques. -/
theorem num_c6 {G : List Nat} (hG : Gr G) {k l : Nat} (hn : Num G k l 0) : ∃ t, G.length = t * (k + 1) := by
  have hk := hn.2.2.1
  have trans : ∀ i j c, i < G.length → j < G.length → c < G.length → i ≠ c → (gn G i).testBit j = true → (gn G j).testBit c = true → (gn G i).testBit c = true := by
    intro i j c hi hj hc hic h1 h2
    cases q : (gn G i).testBit c with
    | true => rfl
    | false =>
      have := num_and hG hn hi hc hic
      rw [q, if_neg (by simp), ← and_sum hG hi] at this
      have le := le_sumTo (f := fun d => b1 ((gn G i).testBit d && (gn G c).testBit d)) hj
      rw [this, h1, (hG.2.2 c hc).2.2 j hj, h2] at le
      simp [b1] at le
  let near : Nat → Nat → Bool := fun i j => decide (i = j) || (gn G i).testBit j
  let lead : Nat → Bool := fun i => (List.range i).all fun j => !(gn G i).testBit j
  have leadP : ∀ i j, lead i = true → j < i → (gn G i).testBit j = false := by
    intro i j h hj
    simp only [lead, List.all_eq_true, List.mem_range, Bool.not_eq_true'] at h
    exact h j hj
  have one : ∀ j, j < G.length → ∃ i, i < G.length ∧ lead i = true ∧ near i j = true := by
    intro j hj
    obtain ⟨i, hi, hmin⟩ : ∃ i, (i < G.length ∧ near i j = true) ∧ ∀ i', i' < i → ¬ (i' < G.length ∧ near i' j = true) := by
      have : ∀ d, ∀ i, i ≤ d → (i < G.length ∧ near i j = true) → ∃ i, (i < G.length ∧ near i j = true) ∧ ∀ i', i' < i → ¬ (i' < G.length ∧ near i' j = true) := by
        intro d; induction d with
        | zero => intro i hi h; exact ⟨i, h, fun i' hi' => by omega⟩
        | succ d ih =>
          intro i hi h
          by_cases q : ∃ i', i' < i ∧ (i' < G.length ∧ near i' j = true)
          · obtain ⟨i', h1, h2⟩ := q; exact ih i' (by omega) h2
          · exact ⟨i, h, fun i' hi' hh => q ⟨i', hi', hh⟩⟩
      exact this j j (Nat.le_refl _) ⟨hj, by simp [near]⟩
    refine ⟨i, hi.1, ?_, hi.2⟩
    simp only [lead, List.all_eq_true, List.mem_range, Bool.not_eq_true']
    intro c hc
    cases q : (gn G i).testBit c with
    | false => rfl
    | true =>
      exfalso
      refine hmin c hc ⟨by omega, ?_⟩
      by_cases e : c = j
      · simp [near, e]
      · have hci : (gn G c).testBit i = true := by rw [(hG.2.2 c (by omega)).2.2 i hi.1]; exact q
        have hij := hi.2
        simp only [near, Bool.or_eq_true, decide_eq_true_eq] at hij ⊢
        rcases hij with rfl | hij
        · exact .inr hci
        · exact .inr (trans c i j (by omega) hi.1 hj e hci hij)
  have uniq : ∀ i i' j, i < G.length → i' < G.length → j < G.length → lead i = true → lead i' = true → near i j = true → near i' j = true → i = i' := by
    intro i i' j hi hi' hj h1 h2 h3 h4
    by_cases e : i = i'
    · exact e
    exfalso
    have adj : (gn G i).testBit i' = true := by
      simp only [near, Bool.or_eq_true, decide_eq_true_eq] at h3 h4
      rcases h3 with rfl | h3
      · rcases h4 with rfl | h4
        · exact absurd rfl e
        · rw [(hG.2.2 i hi).2.2 i' hi']; exact h4
      · rcases h4 with rfl | h4
        · exact h3
        · exact trans i j i' hi hj hi' e h3 (by rw [(hG.2.2 j hj).2.2 i' hi']; exact h4)
    rcases Nat.lt_or_gt_of_ne e with q | q
    · have := leadP i' i h2 q
      rw [(hG.2.2 i' hi').2.2 i hi, adj] at this; cases this
    · have := leadP i i' h1 q
      rw [adj] at this; cases this
  have cols : sumTo G.length (fun j => sumTo G.length fun i => b1 (lead i && near i j)) = G.length := by
    rw [show sumTo G.length (fun j => sumTo G.length fun i => b1 (lead i && near i j)) = sumTo G.length (fun _ => 1) from sumTo_congr fun j hj => by
      obtain ⟨d, hd, h1, h2⟩ := one j hj
      rw [← sumTo_ind hd]
      refine sumTo_congr fun i hi => ?_
      by_cases q : i = d
      · subst q; rw [h1, h2, if_pos rfl]; rfl
      · rw [if_neg q]
        cases p : (lead i && near i j) with
        | false => rfl
        | true =>
          rw [Bool.and_eq_true] at p
          exact absurd (uniq i d j hi hd hj p.1 h1 p.2 h2) q]
    exact sumTo_one _
  rw [sum_swap] at cols
  refine ⟨sumTo G.length (fun i => b1 (lead i)), ?_⟩
  rw [Nat.mul_comm, ← sum_mul]
  refine cols.symm.trans (sumTo_congr fun i hi => ?_)
  cases p : lead i with
  | false => simp [b1]; exact sumTo_zero _
  | true =>
    have e : sumTo G.length (fun j => b1 (true && near i j)) = sumTo G.length (fun j => (if j = i then 1 else 0) + b1 ((gn G i).testBit j)) := sumTo_congr fun j hj => by
      by_cases q : j = i
      · subst q; rw [(hG.2.2 j hj).2.1]; simp [near, b1]
      · have q' : ¬ i = j := fun z => q z.symm
        simp [near, q, q']
    rw [e, sumTo_add, sumTo_ind hi, row_sum hG hi, hk i hi]
    simp [b1]; omega
end Go.Proofs.Ytijnpcehjnaaiaa
