/- Chapter 9, plain: chains of better plans, the first best plan, prices that bound. -/
import Derived.Test.YtcmakddnjmeklaaWq
namespace Go.Proofs.Ytcmakddnjmeklaa

theorem fr_ltW {W1 W2 : Wd} {p q : List Int} (h1 : isPlanB W1 p = true) (h2 : isPlanB W2 q = true) {s t : Nat} (hs : s < W1.acts.length) (ht : t < W2.acts.length) :
    ((fr (worthF W1 p) s).n * (fr (worthF W2 q) t).d < (fr (worthF W2 q) t).n * (fr (worthF W1 p) s).d) ↔
    wN W1.a W1.b (planActs W1.acts p) s * wD W2.a W2.b (planActs W2.acts q) < wN W2.a W2.b (planActs W2.acts q) t * wD W1.a W1.b (planActs W1.acts p) := by
  have hl1 := planActs_len W1.acts p
  have hl2 := planActs_len W2.acts q
  have d1 := (wD_pos (okX_plan h1)).1
  have d2 := (wD_pos (okX_plan h2)).1
  unfold worthF
  rw [fracsL_at (by rw [wNs_len, hl1]; exact hs), wNs_at (by rw [hl1]; exact hs), fracsL_at (by rw [wNs_len, hl2]; exact ht), wNs_at (by rw [hl2]; exact ht)]
  generalize wN W1.a W1.b (planActs W1.acts p) s = N1 at *
  generalize wN W2.a W2.b (planActs W2.acts q) t = N2 at *
  generalize wD W1.a W1.b (planActs W1.acts p) = D1 at *
  generalize wD W2.a W2.b (planActs W2.acts q) = D2 at *
  have e1 := frq_mul (a := N1) d1
  have e2 := frq_mul (a := N2) d2
  have p1 := frq_pos ((N1 : Rat) / (D1 : Rat))
  have p2 := frq_pos ((N2 : Rat) / (D2 : Rat))
  generalize toFr ((N1 : Rat) / (D1 : Rat)) = x at *
  generalize toFr ((N2 : Rat) / (D2 : Rat)) = y at *
  have hD : 0 < D1 * D2 := Int.mul_pos d1 d2
  have hd : 0 < x.d * y.d := Int.mul_pos (by omega) (by omega)
  have k1 : (x.n * y.d) * (D1 * D2) = (N1 * D2) * (x.d * y.d) := by grind
  have k2 : (y.n * x.d) * (D1 * D2) = (N2 * D1) * (x.d * y.d) := by grind
  constructor
  · intro h
    have := Int.mul_lt_mul_of_pos_right h hD
    rw [k1, k2] at this
    exact Int.lt_of_mul_lt_mul_right this (Int.le_of_lt hd)
  · intro h
    have := Int.mul_lt_mul_of_pos_right h hd
    rw [← k1, ← k2] at this
    exact Int.lt_of_mul_lt_mul_right this (Int.le_of_lt hD)
theorem allP_len : ∀ {A : List (List Ac)}, (∀ s, s < A.length → (acl A s).length ≤ 3) → (allP A).length ≤ 3 ^ A.length := by
  intro A; induction A with
  | nil => intro _; simp [allP]
  | cons l A ih =>
    intro h
    have h0 : l.length ≤ 3 := by simpa [acl] using h 0 (by simp)
    have ih := ih fun s hs => by have := h (s + 1) (by simpa using hs); simpa [acl] using this
    have e : (allP (l :: A)).length = l.length * (allP A).length := by
      simp [allP, List.length_flatMap, List.map_const', List.sum_replicate_nat]
    rw [e, List.length_cons, Nat.pow_succ]
    have := Nat.mul_le_mul h0 ih
    omega
theorem mu_le {W : Wd} {p : List Int} (h : isPlanB W p = true) : mu W p ≤ 81 := by
  obtain ⟨_, _, _, ⟨h1, h4, _⟩, hv⟩ := plan_parts h
  have h2 := allP_len (A := W.acts) fun s hs => (hv s hs).2.1
  have h3 : mu W p ≤ (allP W.acts).length := by unfold mu; exact List.countP_le_length
  have h5 : (3 : Nat) ^ W.acts.length ≤ 3 ^ 4 := Nat.pow_le_pow_right (by omega) h4
  omega
theorem least {p : Nat → Bool} : ∀ {i : Nat}, p i = true → ∃ k, k ≤ i ∧ p k = true ∧ ∀ j, j < k → p j = false := by
  intro i
  induction i using Nat.strongRecOn with
  | ind i ih =>
    intro h
    by_cases q : ∃ j, j < i ∧ p j = true
    · obtain ⟨j, hj, hp⟩ := q
      obtain ⟨k, h1, h2, h3⟩ := ih j hj hp
      exact ⟨k, by omega, h2, h3⟩
    · exact ⟨i, Nat.le_refl _, h, fun j hj => by
        cases hp : p j with
        | false => rfl
        | true => exact absurd ⟨j, hj, hp⟩ q⟩
theorem first_hit {W : Wd} {p : List Int} (h : isPlanB W p = true) {s : Nat} (hs : s < W.acts.length) :
    ∃ i : Nat, firstIx (hitB W p s) (acl W.acts s).length = i ∧ i < (acl W.acts s).length ∧ hitB W p s i = true ∧ i ≤ (nth p s).toNat ∧ ∀ j, j < i → hitB W p s j = false := by
  obtain ⟨_, _, hpa, _⟩ := plan_parts h
  obtain ⟨h0, h1⟩ := hpa s hs
  have ho : hitB W p s (nth p s).toNat = true := by
    unfold hitB; rw [beq_iff_eq]; exact tl_own h hs
  obtain ⟨k, hk, hk2, hk3⟩ := least ho
  exact ⟨k, firstIx_hit (by omega) hk2 hk3, by omega, hk2, hk, hk3⟩
theorem first_plan {W : Wd} {p : List Int} (h : isPlanB W p = true) : isPlanB W (firstP W p) = true := by
  unfold isPlanB
  rw [(plan_parts h).1, Bool.true_and]
  refine planOk_yes firstP_len fun s hs => ?_
  rw [firstP_at hs]
  obtain ⟨i, hi, hi2, _⟩ := first_hit h hs
  omega
theorem first_tl {W : Wd} {p : List Int} (h : isPlanB W p = true) {s : Nat} (hs : s < W.acts.length) :
    tlW W p (pact W.acts (firstP W p) s) = W.b * isum (pact W.acts (firstP W p) s).o * wN W.a W.b (planActs W.acts p) s := by
  obtain ⟨i, hi, hi2, hi3, _⟩ := first_hit h hs
  unfold hitB at hi3
  rw [beq_iff_eq] at hi3
  have e : pact W.acts (firstP W p) s = ac (acl W.acts s) i := by unfold pact; rw [firstP_at hs, hi]; rfl
  rw [e]; exact hi3
theorem vAc_pact {W : Wd} {p : List Int} (h : isPlanB W p = true) {s : Nat} (hs : s < W.acts.length) : vAc W.acts.length (pact W.acts p s) = true := by
  obtain ⟨_, _, hpa, _, hv⟩ := plan_parts h
  have := hpa s hs
  exact (hv s hs).2.2 _ (by omega)
theorem same_worth {W : Wd} {p q : List Int} (h : isPlanB W p = true) (hq : isPlanB W q = true) (ht : ∀ s, s < W.acts.length → tlW W p (pact W.acts q s) = W.b * isum (pact W.acts q s).o * wN W.a W.b (planActs W.acts p) s) : worthF W q = worthF W p := by
  have hX := okX_plan hq
  have hl := planActs_len W.acts q
  have hv : ∀ s, s < (planActs W.acts q).length → W.b * isum (ac (planActs W.acts q) s).o * wN W.a W.b (planActs W.acts p) s = tel W.a W.b (ac (planActs W.acts q) s) (wN W.a W.b (planActs W.acts p)) (wD W.a W.b (planActs W.acts p)) := by
    intro s hs
    rw [hl] at hs
    rw [planActs_at hs, ← tlW_eq (vAc_pact hq hs), ht s hs]
  have hd := (wD_pos (okX_plan h)).1
  have h1 : ∀ s, s < W.acts.length → wN W.a W.b (planActs W.acts q) s * wD W.a W.b (planActs W.acts p) = wN W.a W.b (planActs W.acts p) s * wD W.a W.b (planActs W.acts q) :=
    fun s hs => worth_same hX hd hv (by rw [hl]; exact hs)
  exact opt_same hq h (fun s hs => Int.le_of_eq (h1 s hs)) (fun s hs => Int.le_of_eq (h1 s hs).symm)
theorem first_same {W : Wd} {p : List Int} (h : isPlanB W p = true) : worthF W (firstP W p) = worthF W p := same_worth h (first_plan h) fun _ hs => first_tl h hs
/-! ### The chain -/
theorem chain_ge {W : Wd} {p : List Int} (h : isPlanB W p = true) {s : Nat} (hs : s < W.acts.length) :
    decide ((fr (worthF W (nextP W p)) s).n * (fr (worthF W p) s).d < (fr (worthF W p) s).n * (fr (worthF W (nextP W p)) s).d) = false := by
  refine decide_eq_false fun hlt => ?_
  have := (fr_ltW (next_plan h) h hs hs).1 hlt
  have := next_ge h s hs
  omega
theorem chain_opt {W : Wd} {p q : List Int} (h : isPlanB W p = true) (ho : Opt W p) (hq : isPlanB W q = true) {s : Nat} (hs : s < W.acts.length) :
    decide ((fr (worthF W p) s).n * (fr (worthF W q) s).d < (fr (worthF W q) s).n * (fr (worthF W p) s).d) = false := by
  refine decide_eq_false fun hlt => ?_
  have := (fr_ltW h hq hs hs).1 hlt
  have := opt_ge h hq ho s hs
  omega
theorem chain_gt {W : Wd} {p : List Int} (h : isPlanB W p = true) (hf : foundP W p = true) : ∃ s, s < W.acts.length ∧
    decide ((fr (worthF W p) s).n * (fr (worthF W (nextP W p)) s).d < (fr (worthF W (nextP W p)) s).n * (fr (worthF W p) s).d) = true := by
  obtain ⟨_, s, hs, hlt⟩ := next_gt h hf
  exact ⟨s, hs, decide_eq_true ((fr_ltW h (next_plan h) hs hs).2 hlt)⟩
theorem chain_end {W : Wd} {p q : List Int} (h : isPlanB W p = true) (ho : Opt W p) (hq : isPlanB W q = true) (hf : foundP W q = false) : worthF W q = worthF W p := opt_opt hq h (next_no hq hf).2 ho
theorem chain_mu {W : Wd} {p : List Int} (h : isPlanB W p = true) (hf : foundP W p = true) : mu W (nextP W p) < mu W p := mu_lt h (next_plan h) (next_gt h hf)
end Go.Proofs.Ytcmakddnjmeklaa
