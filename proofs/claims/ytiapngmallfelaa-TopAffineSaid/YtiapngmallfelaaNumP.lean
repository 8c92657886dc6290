
/- Plain: the program's way to gather a graph's numbers finds just those that the document asks for. -/
import Derived.Test.YtiapngmallfelaaNumb
namespace Go.Proofs.Ytiapngmallfelaa
open Go.RowKit

/-- k, l, m are the numbers of the graph G. -/
def Num (G : List Nat) (k l m : Nat) : Prop :=
  1 ≤ k ∧ k + 2 ≤ G.length ∧ (∀ i, i < G.length → pop (gn G i) = k) ∧
  (∀ i j, i < G.length → j < i → (gn G i).testBit j = true → pop (gn G i &&& gn G j) = l) ∧
  (∀ i j, i < G.length → j < i → (gn G i).testBit j = false → pop (gn G i &&& gn G j) = m)

theorem sumTo_ind {d : Nat} : ∀ {n}, d < n → sumTo n (fun j => if j = d then 1 else 0) = 1 := by
  intro n hd
  have h := sumTo_drop (f := fun j => if j = d then 1 else 0) (g := fun _ => 0) (d := d) (n := n) (fun j _ hj => by simp [hj]) hd
  rw [sumTo_zero] at h; simpa using h
theorem pop_some {x j : Nat} (hx : x < 65536) (h : x.testBit j = true) : 1 ≤ pop x := by
  have hj : j < 16 := by
    rcases Nat.lt_or_ge j 16 with h' | h'
    · exact h'
    · rw [Nat.testBit_lt_two_pow (Nat.lt_of_lt_of_le (m := 2 ^ 16) hx (Nat.pow_le_pow_right (by omega) h'))] at h; cases h
  have := le_sumTo (f := bt x) hj
  rw [← pop_sum, bt_test, h] at this; simpa using this
theorem some_pop {x n : Nat} (hn : n ≤ 16) (hx : x < 2 ^ n) (h : 1 ≤ pop x) : ∃ j, j < n ∧ x.testBit j = true := by
  rw [pop_below hn hx] at h
  obtain ⟨j, hj, hb⟩ := sumTo_pos h
  refine ⟨j, hj, ?_⟩
  rw [bt_test] at hb
  cases e : x.testBit j with
  | true => rfl
  | false => rw [e] at hb; simp at hb
theorem pop_two {x n i j : Nat} (hn : n ≤ 16) (hx : x < 2 ^ n) (hi : i < n) (hj : j < n) (hij : i ≠ j) (bi : x.testBit i = false) (bj : x.testBit j = false) : pop x + 2 ≤ n := by
  have h : sumTo n (fun q => (bt x q + if q = i then 1 else 0) + if q = j then 1 else 0) ≤ sumTo n (fun _ => 1) := sumTo_le fun q _ => by
    by_cases e : q = i
    · subst e; rw [bt_test, bi]; simp [hij]
    · by_cases e2 : q = j
      · subst e2; rw [bt_test, bj]; simp [e]
      · have := bt_le x q; simp [e, e2]; omega
  rw [sumTo_add, sumTo_add, sumTo_ind hi, sumTo_ind hj, sumTo_one, ← pop_below hn hx] at h
  exact h
theorem two_pop {x n i : Nat} (hn : n ≤ 16) (hx : x < 2 ^ n) (hi : i < n) (h : pop x + 2 ≤ n) : ∃ j, j < n ∧ j ≠ i ∧ x.testBit j = false := by
  refine Classical.byContradiction fun hno => ?_
  have h2 : sumTo n (fun _ => 1) ≤ sumTo n (fun q => bt x q + if q = i then 1 else 0) := sumTo_le fun q hq => by
    by_cases e : q = i
    · simp [e]
    · cases eb : x.testBit q with
      | false => exact absurd ⟨q, hq, e, eb⟩ hno
      | true => rw [bt_test, eb]; simp
  rw [sumTo_add, sumTo_ind hi, sumTo_one, ← pop_below hn hx] at h2
  omega

/-! ### once, as a fold -/
theorem fold_fail : ∀ (ls : List Nat) (n : Int), (ls.foldl (fun (s : Once) (v : Nat) => tellSt s (v : Int)) (n, true, true)).2.2 = true := by
  intro ls; induction ls with
  | nil => intro n; rfl
  | cons v ls ih => intro n; simp only [List.foldl_cons]; exact ih _
theorem fold_ok : ∀ (ls : List Nat) (n : Int), (∀ x ∈ ls, (x : Int) = n) → ls.foldl (fun (s : Once) (v : Nat) => tellSt s (v : Int)) (n, true, false) = (n, true, false) := by
  intro ls; induction ls with
  | nil => intro n _; rfl
  | cons v ls ih =>
    intro n h
    have hv := h v (by simp)
    simp only [List.foldl_cons]
    rw [show tellSt (n, true, false) (v : Int) = (n, true, false) by simp [tellSt, hv]]
    exact ih n fun x hx => h x (by simp [hx])
theorem fold_all : ∀ (ls : List Nat) (n : Int), (ls.foldl (fun (s : Once) (v : Nat) => tellSt s (v : Int)) (n, true, false)).2.2 = false → ∀ x ∈ ls, (x : Int) = n := by
  intro ls; induction ls with
  | nil => intro n _ x hx; cases hx
  | cons v ls ih =>
    intro n h x hx
    simp only [List.foldl_cons] at h
    by_cases hv : (v : Int) = n
    · rw [show tellSt (n, true, false) (v : Int) = (n, true, false) by simp [tellSt, hv]] at h
      rcases List.mem_cons.1 hx with rfl | hx
      · exact hv
      · exact ih n h x hx
    · rw [show tellSt (n, true, false) (v : Int) = ((v : Int), true, true) by simp [tellSt, Ne.symm hv]] at h
      rw [fold_fail] at h; cases h
theorem st_ok {ls : List Nat} {c : Nat} (h : ∀ x ∈ ls, x = c) (h0 : ls ≠ []) : stL ls = ((c : Int), true, false) := by
  cases ls with
  | nil => exact absurd rfl h0
  | cons v ls =>
    have hv := h v (by simp); subst hv
    simp only [stL, List.foldl_cons]
    rw [show tellSt (0, false, false) (v : Int) = ((v : Int), true, false) by simp [tellSt]]
    exact fold_ok ls _ fun x hx => by have := h x (by simp [hx]); omega
/-- What was told without failing: all alike, and that is the number. -/
theorem st_true {ls : List Nat} (h1 : (stL ls).2.1 = true) (h2 : (stL ls).2.2 = false) : ls ≠ [] ∧ ∃ c, (∀ x ∈ ls, x = c) ∧ stL ls = ((c : Int), true, false) := by
  cases ls with
  | nil => simp [stL] at h1
  | cons v ls =>
    refine ⟨by simp, v, ?_⟩
    have hall : ∀ x ∈ v :: ls, x = v := by
      simp only [stL, List.foldl_cons] at h2
      rw [show tellSt (0, false, false) (v : Int) = ((v : Int), true, false) by simp [tellSt]] at h2
      intro x hx
      rcases List.mem_cons.1 hx with rfl | hx
      · rfl
      · have := fold_all ls _ h2 x hx; omega
    exact ⟨hall, st_ok hall (by simp)⟩

theorem mem_prs {n a b : Nat} : (a, b) ∈ prs n 0 ↔ a < n ∧ b < a := by
  simp only [prs, List.range_zero, List.map_nil, List.append_nil, List.mem_flatMap, List.mem_range, List.mem_map, Prod.mk.injEq]
  constructor
  · rintro ⟨a', h1, b', h2, rfl, rfl⟩; exact ⟨h1, h2⟩
  · rintro ⟨h1, h2⟩; exact ⟨a, h1, b, h2, rfl, rfl⟩
theorem mem_Ll {G : List Nat} {bb : Bool} {n x : Nat} : x ∈ Ll G bb (prs n 0) ↔ ∃ i j, i < n ∧ j < i ∧ (gn G i).testBit j = bb ∧ x = pop (gn G i &&& gn G j) := by
  simp only [Ll, List.mem_map, List.mem_filter, beq_iff_eq, Prod.exists]
  constructor
  · rintro ⟨a, b, ⟨h1, h2⟩, rfl⟩; rw [mem_prs] at h1; exact ⟨a, b, h1.1, h1.2, h2, rfl⟩
  · rintro ⟨a, b, h1, h2, h3, rfl⟩; exact ⟨a, b, ⟨mem_prs.2 ⟨h1, h2⟩, h3⟩, rfl⟩
theorem mem_Kl {G : List Nat} {n x : Nat} : x ∈ Kl G n ↔ ∃ i, i < n ∧ x = pop (gn G i) := by
  simp only [Kl, List.mem_map, List.mem_range]
  constructor
  · rintro ⟨a, h, rfl⟩; exact ⟨a, h, rfl⟩
  · rintro ⟨a, h, rfl⟩; exact ⟨a, h, rfl⟩
theorem nonempty_mem {ls : List Nat} (h : ls ≠ []) : ∃ x, x ∈ ls := by cases ls with | nil => exact absurd rfl h | cons x _ => exact ⟨x, by simp⟩
theorem mem_nonempty {ls : List Nat} {x : Nat} (h : x ∈ ls) : ls ≠ [] := by rintro rfl; cases h

/-- There is an edge, and a pair that is none. -/
theorem Gr.edge {G : List Nat} (hG : Gr G) {k : Nat} (hk : pop (gn G 0) = k) (h1 : 1 ≤ k) : ∃ i j, i < G.length ∧ j < i ∧ (gn G i).testBit j = true := by
  obtain ⟨p0, p1, p2⟩ := hG.2.2 0 hG.1
  obtain ⟨j, hj, hb⟩ := some_pop hG.2.1 p0 (by omega)
  have hj0 : j ≠ 0 := by rintro rfl; rw [p1] at hb; cases hb
  exact ⟨j, 0, hj, by omega, by rw [← p2 j hj]; exact hb⟩
theorem Gr.gap {G : List Nat} (hG : Gr G) {k : Nat} (hk : pop (gn G 0) = k) (h1 : k + 2 ≤ G.length) : ∃ i j, i < G.length ∧ j < i ∧ (gn G i).testBit j = false := by
  obtain ⟨p0, p1, p2⟩ := hG.2.2 0 hG.1
  obtain ⟨j, hj, hj0, hb⟩ := two_pop hG.2.1 p0 hG.1 (by omega)
  exact ⟨j, 0, hj, by omega, by rw [← p2 j hj]; exact hb⟩

theorem ok_num {G : List Nat} (hG : Gr G) (h : okB (stL (Kl G G.length)) (stL (Ll G true (prs G.length 0))) (stL (Ll G false (prs G.length 0))) = true) :
    ∃ k l m : Nat, Num G k l m ∧ (stL (Kl G G.length)).1 = k ∧ (stL (Ll G true (prs G.length 0))).1 = l ∧ (stL (Ll G false (prs G.length 0))).1 = m := by
  simp only [okB, Bool.and_eq_true, Bool.not_eq_true'] at h
  obtain ⟨⟨⟨⟨h1, h2⟩, h3⟩, h4⟩, h5⟩ := h
  have hK0 : Kl G G.length ≠ [] := mem_nonempty (mem_Kl.2 ⟨0, hG.1, rfl⟩)
  have h6 : (stL (Kl G G.length)).2.1 = true := by
    cases e : Kl G G.length with
    | nil => exact absurd e hK0
    | cons v ls =>
      have : ∀ (ls : List Nat) (n : Int) (f : Bool), (ls.foldl (fun (s : Once) (v : Nat) => tellSt s (v : Int)) (n, true, f)).2.1 = true := by
        intro ls; induction ls with
        | nil => intro n f; rfl
        | cons v ls ih => intro n f; simp only [List.foldl_cons]; exact ih _ _
      simp only [stL, List.foldl_cons]; exact this _ _ _
  obtain ⟨_, k, hk, ek⟩ := st_true h6 h3
  obtain ⟨n1, l, hl, el⟩ := st_true h1 h4
  obtain ⟨n2, m, hm, em⟩ := st_true h2 h5
  have hkk : ∀ i, i < G.length → pop (gn G i) = k := fun i hi => hk _ (mem_Kl.2 ⟨i, hi, rfl⟩)
  refine ⟨k, l, m, ⟨?_, ?_, hkk, fun i j hi hj hb => hl _ (mem_Ll.2 ⟨i, j, hi, hj, hb, rfl⟩), fun i j hi hj hb => hm _ (mem_Ll.2 ⟨i, j, hi, hj, hb, rfl⟩)⟩, by rw [ek], by rw [el], by rw [em]⟩
  · obtain ⟨x, hx⟩ := nonempty_mem n1
    obtain ⟨i, j, hi, hj, hb, _⟩ := mem_Ll.1 hx
    rw [← hkk i hi]
    exact pop_some (gn_lt hG.small (by omega) i) hb
  · obtain ⟨x, hx⟩ := nonempty_mem n2
    obtain ⟨i, j, hi, hj, hb, _⟩ := mem_Ll.1 hx
    obtain ⟨p0, p1, p2⟩ := hG.2.2 i hi
    rw [← hkk i hi]
    exact pop_two hG.2.1 p0 hi (show j < G.length by omega) (by omega) p1 hb

theorem num_ok {G : List Nat} (hG : Gr G) {k l m : Nat} (h : Num G k l m) :
    stL (Kl G G.length) = ((k : Int), true, false) ∧ stL (Ll G true (prs G.length 0)) = ((l : Int), true, false) ∧ stL (Ll G false (prs G.length 0)) = ((m : Int), true, false) := by
  obtain ⟨h1, h2, h3, h4, h5⟩ := h
  have hk0 := h3 0 hG.1
  refine ⟨st_ok (fun x hx => ?_) (mem_nonempty (mem_Kl.2 ⟨0, hG.1, rfl⟩)), st_ok (fun x hx => ?_) ?_, st_ok (fun x hx => ?_) ?_⟩
  · obtain ⟨i, hi, rfl⟩ := mem_Kl.1 hx; exact h3 i hi
  · obtain ⟨i, j, hi, hj, hb, rfl⟩ := mem_Ll.1 hx; exact h4 i j hi hj hb
  · obtain ⟨i, j, hi, hj, hb⟩ := hG.edge hk0 h1
    exact mem_nonempty (mem_Ll.2 ⟨i, j, hi, hj, hb, rfl⟩)
  · obtain ⟨i, j, hi, hj, hb, rfl⟩ := mem_Ll.1 hx; exact h5 i j hi hj hb
  · obtain ⟨i, j, hi, hj, hb⟩ := hG.gap hk0 h2
    exact mem_nonempty (mem_Ll.2 ⟨i, j, hi, hj, hb, rfl⟩)
theorem ok_iff {G : List Nat} (hG : Gr G) : okB (stL (Kl G G.length)) (stL (Ll G true (prs G.length 0))) (stL (Ll G false (prs G.length 0))) = true ↔ ∃ k l m, Num G k l m := by
  constructor
  · intro h; obtain ⟨k, l, m, h, _⟩ := ok_num hG h; exact ⟨k, l, m, h⟩
  · rintro ⟨k, l, m, h⟩
    obtain ⟨e1, e2, e3⟩ := num_ok hG h
    rw [e1, e2, e3]; rfl
theorem Num.unique {G : List Nat} (hG : Gr G) {k l m k' l' m' : Nat} (h : Num G k l m) (h' : Num G k' l' m') : k = k' ∧ l = l' ∧ m = m' := by
  obtain ⟨e1, e2, e3⟩ := num_ok hG h
  obtain ⟨f1, f2, f3⟩ := num_ok hG h'
  rw [e1] at f1; rw [e2] at f2; rw [e3] at f3
  simp only [Prod.mk.injEq] at f1 f2 f3; omega

end Go.Proofs.Ytiapngmallfelaa
