/- Chapter 9, plain: prices that bound. -/
import Derived.Test.YtcmakddnjmeklaaWm
import Derived.Test.YtcmakddnjmeklaaLEq
namespace Go.Proofs.Ytcmakddnjmeklaa

theorem tel_scale {a b : Int} {x : Ac} {l N : Nat → Int} {d D : Int} (h : ∀ k, k < x.o.length → l k * D = N k * d) : tel a b x l d * D = tel a b x N D * d := by
  unfold tel
  have e : D * sumN (fun k => nth x.o k * l k) x.o.length = d * sumN (fun k => nth x.o k * N k) x.o.length := by
    rw [← sumN_mul, ← sumN_mul]
    refine sumN_congr fun k hk => ?_
    have := h k hk
    grind
  generalize sumN (fun k => nth x.o k * l k) x.o.length = A at *
  generalize sumN (fun k => nth x.o k * N k) x.o.length = B at *
  grind
theorem chk_bound {W : Wd} {p l : List Int} {d : Int} (h : isPlanB W p = true) (ho : Opt W p) (hw : WholeOf (worthF W p) (wD W.a W.b (planActs W.acts p)) l d) : chkB W l d = true := by
  obtain ⟨_, _, _, ⟨hn1, _⟩, hv⟩ := plan_parts h
  have hd := (wD_pos (okX_plan h)).1
  have hl : l.length = W.acts.length := by rw [hw.2.2.1, worthF_len]
  unfold chkB
  rw [Bool.and_eq_true]
  refine ⟨decide_eq_true ⟨hl, fun e he => ?_, ?_⟩, ?_⟩
  · obtain ⟨i, hi, rfl⟩ := List.mem_iff_getElem.1 he
    have := whole_36 h hw (s := i) (by omega)
    rw [nth_of_lt hi] at this
    omega
  · have := whole_36 h hw (s := 0) (by omega)
    omega
  · rw [List.all_eq_true]
    intro s hs
    have hs := List.mem_range.1 hs
    unfold chkS
    rw [List.all_eq_true]
    intro i hi
    have hi := List.mem_range.1 hi
    refine decide_eq_true ?_
    have hvx := (hv s hs).2.2 i hi
    have hol := (vAc_at hvx).2.2.1
    have h1 := ho s hs i hi
    rw [tlW_eq hvx] at h1
    have h2 := tel_scale (a := W.a) (b := W.b) (x := ac (acl W.acts s) i) (l := nth l) (N := wN W.a W.b (planActs W.acts p)) fun k hk => whole_worth h hw (s := k) (by omega)
    have h3 := whole_worth h hw hs
    have h4 := Int.mul_le_mul_of_nonneg_right h1 (Int.le_of_lt hw.1)
    refine Int.le_of_mul_le_mul_right (a := wD W.a W.b (planActs W.acts p)) ?_ hd
    rw [h2]
    generalize isum (ac (acl W.acts s) i).o = S at *
    generalize wN W.a W.b (planActs W.acts p) s = N at *
    generalize wD W.a W.b (planActs W.acts p) = D at *
    refine Int.le_trans h4 (Int.le_of_eq ?_)
    have : W.b * S * nth l s * D = W.b * S * (nth l s * D) := by grind
    rw [this, h3]; grind
theorem sumN_set {o l : List Int} {s : Nat} {v : Int} {n : Nat} (hs : s < l.length) (hn : n ≤ l.length) : sumN (fun k => nth o k * nth (l.set s v) k) n = sumN (fun k => nth o k * nth l k) n + (if s < n then nth o s * (v - nth l s) else 0) := by
  induction n with
  | zero => simp [sumN]
  | succ n ih =>
    show sumN (fun k => nth o k * nth (l.set s v) k) n + nth o n * nth (l.set s v) n = sumN (fun k => nth o k * nth l k) n + nth o n * nth l n + _
    rw [ih (by omega), nth_set]
    by_cases q : s = n
    · subst q
      rw [if_pos (show s = s ∧ s < l.length from ⟨rfl, hs⟩), if_neg (show ¬ s < s by omega), if_pos (show s < s + 1 by omega)]; grind
    · rw [if_neg (show ¬ (s = n ∧ n < l.length) from fun e => q e.1)]
      by_cases q2 : s < n
      · rw [if_pos q2, if_pos (show s < n + 1 by omega)]; grind
      · rw [if_neg q2, if_neg (show ¬ s < n + 1 by omega)]; grind
theorem chk_less {W : Wd} {p l : List Int} {d : Int} (h : isPlanB W p = true) (hw : WholeOf (worthF W p) (wD W.a W.b (planActs W.acts p)) l d) {s : Nat} (hs : s < W.acts.length) : chkB W (l.set s (nth l s - 1)) d = false := by
  obtain ⟨_, _, hpa, ⟨_, _, ha, hab, _⟩, hv⟩ := plan_parts h
  have hl : l.length = W.acts.length := by rw [hw.2.2.1, worthF_len]
  obtain ⟨h0, h1⟩ := hpa s hs
  have htel := whole_tel h hw hs
  have hvx := vAc_pact h hs
  obtain ⟨_, _, hol, hor, hS, _⟩ := vAc_at hvx
  have hle : nth (pact W.acts p s).o s ≤ isum (pact W.acts p s).o := by
    rw [isum_sumN, hol]
    have hnn : ∀ k, k < W.acts.length → 0 ≤ nth (pact W.acts p s).o k := fun k hk => (hor _ (nth_mem (by omega))).1
    clear htel hv hvx
    revert hs hnn
    generalize W.acts.length = n
    intro hs hnn
    have key : ∀ (f : Nat → Int) (m : Nat), (∀ k, k < m → 0 ≤ f k) → ∀ s, s < m → f s ≤ sumN f m := by
      intro f m
      induction m with
      | zero => intro _ s hs; omega
      | succ m ih =>
        intro hf s hs
        show f s ≤ sumN f m + f m
        have h1 := sumN_nonneg (f := f) (n := m) fun k hk => hf k (by omega)
        by_cases q : s = m
        · subst q; omega
        · have := ih (fun k hk => hf k (by omega)) s (by omega)
          have := hf m (by omega)
          omega
    exact key _ n hnn s hs
  have hno : 0 ≤ nth (pact W.acts p s).o s := (hor _ (nth_mem (by omega))).1
  unfold chkB
  rw [Bool.and_eq_false_iff]
  refine Or.inr ?_
  rw [List.all_eq_false]
  refine ⟨s, List.mem_range.2 hs, ?_⟩
  unfold chkS
  intro hall
  rw [List.all_eq_true] at hall
  have hx := of_decide_eq_true (hall (nth p s).toNat (List.mem_range.2 (by omega)))
  have e : ac (acl W.acts s) (nth p s).toNat = pact W.acts p s := rfl
  rw [e, nth_set, if_pos ⟨rfl, by omega⟩] at hx
  generalize pact W.acts p s = P at *
  unfold tel at hx htel
  rw [sumN_set (by omega) (by omega), if_pos (by omega)] at hx
  generalize sumN (fun k => nth P.o k * nth l k) P.o.length = A at *
  generalize isum P.o = S at *
  generalize nth P.o s = o at *
  generalize nth l s = L at *
  have e1 : W.b * S * (L - 1) = L * W.b * S - W.b * S := by grind
  have e2 : W.a * (A + o * (L - 1 - L)) = W.a * A - W.a * o := by grind
  rw [e1, e2, htel] at hx
  have e3 : W.a * o ≤ W.a * S := Int.mul_le_mul_of_nonneg_left hle (by omega)
  have e4 : W.a * S < W.b * S := Int.mul_lt_mul_of_pos_right hab (by omega)
  omega
theorem chk_ge {W : Wd} {p l : List Int} {d : Int} (h : isPlanB W p = true) (hc : chkB W l d = true) {s : Nat} (hs : s < W.acts.length) :
    (fr (worthF W p) s).n * d ≤ nth l s * (fr (worthF W p) s).d := by
  obtain ⟨_, _, hpa, _, hv⟩ := plan_parts h
  unfold chkB at hc
  rw [Bool.and_eq_true, List.all_eq_true] at hc
  obtain ⟨h1, h2⟩ := hc
  have hh := of_decide_eq_true h1
  have hX := okX_plan h
  have hl := planActs_len W.acts p
  have hw : ∀ s, s < (planActs W.acts p).length → tel W.a W.b (ac (planActs W.acts p) s) (nth l) d ≤ W.b * isum (ac (planActs W.acts p) s).o * nth l s := by
    intro t ht
    rw [hl] at ht
    rw [planActs_at ht]
    have h3 := h2 t (List.mem_range.2 ht)
    unfold chkS at h3
    rw [List.all_eq_true] at h3
    have := hpa t ht
    exact of_decide_eq_true (h3 (nth p t).toNat (List.mem_range.2 (by omega)))
  have hd := (wD_pos hX).1
  have h5 := worth_le hX (by have := hh.2.2; omega) hw s (by rw [hl]; exact hs)
  unfold worthF
  rw [fracsL_at (by rw [wNs_len, hl]; exact hs), wNs_at (by rw [hl]; exact hs)]
  generalize wN W.a W.b (planActs W.acts p) s = N at *
  generalize wD W.a W.b (planActs W.acts p) = D at *
  have e1 := frq_mul (a := N) hd
  have p1 := frq_pos ((N : Rat) / (D : Rat))
  generalize toFr ((N : Rat) / (D : Rat)) = x at *
  refine Int.le_of_mul_le_mul_right (a := D) ?_ hd
  have e2 : x.n * d * D = N * d * x.d := by grind
  have e3 : nth l s * x.d * D = nth l s * D * x.d := by grind
  rw [e2, e3]
  exact Int.mul_le_mul_of_nonneg_right h5 (by omega)
/-- By whole parts: what a comparison of p / q with n / d reckons. -/
theorem parts_le {p q n d : Int} (hq : 1 ≤ q) (hd : 1 ≤ d) (h : n * q ≤ p * d) (a b : Int) (hab : p = a * q + b) (hb : b < q) : n - a * d ≤ d ∧ (0 < n - a * d → (n - a * d) * q ≤ b * d) := by
  have h1 : (n - a * d) * q ≤ b * d := by subst hab; grind
  refine ⟨?_, fun _ => h1⟩
  refine Int.not_lt.1 fun hlt => ?_
  have h2 : d * q < (n - a * d) * q := Int.mul_lt_mul_of_pos_right hlt (by omega)
  have h3 : b * d < q * d := Int.mul_lt_mul_of_pos_right hb (by omega)
  rw [Int.mul_comm q d] at h3
  omega
end Go.Proofs.Ytcmakddnjmeklaa
