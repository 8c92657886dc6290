/- Chapter 9, plain: the numbers of the rest. -/
import Derived.Test.YtcmakddnjmeklaaPr
import Derived.Test.YtcmakddnjmeklaaPm
namespace Go.Proofs.Ytcmakddnjmeklaa
open Go.RowKit

theorem gN_app {A B : List Nat} {i : Nat} : gN (A ++ B) i = if i < A.length then gN A i else gN B (i - A.length) := by
  unfold gN
  rw [List.getD_eq_getElem?_getD, List.getD_eq_getElem?_getD, List.getD_eq_getElem?_getD]
  split
  · rw [List.getElem?_append_left (by omega)]
  · rw [List.getElem?_append_right (by omega)]
/-- The place of a state. -/
def ix (X s : Nat) : Nat := (stL X s).length
theorem ix_succ (X s : Nat) : ix X (s + 1) = ix X s + (if X.testBit s then 1 else 0) := by
  unfold ix
  rw [stL_succ, List.length_append]
  cases X.testBit s <;> rfl
theorem ix_mono {X s t : Nat} (h : s ≤ t) : ix X s ≤ ix X t := by
  induction t with
  | zero => obtain rfl : s = 0 := by omega
            exact Nat.le_refl _
  | succ t ih =>
    by_cases e : s = t + 1
    · subst e; exact Nat.le_refl _
    · have := ih (by omega); rw [ix_succ]; omega
theorem ix_lt {X s n : Nat} (h : s < n) (hb : X.testBit s = true) : ix X s < ix X n := by
  have h1 := ix_mono (X := X) (show s + 1 ≤ n from h)
  rw [ix_succ, hb] at h1
  simp at h1; omega
theorem gN_ix {X s : Nat} : ∀ n, s < n → X.testBit s = true → gN (stL X n) (ix X s) = s
  | 0, h, _ => by omega
  | n + 1, h, hb => by
    rw [stL_succ, gN_app]
    by_cases e : s = n
    · subst e
      rw [if_neg (by unfold ix; omega), hb]
      unfold ix
      rw [Nat.sub_self]; rfl
    · rw [if_pos (show ix X s < (stL X n).length from ix_lt (by omega) hb)]
      exact gN_ix n (by omega) hb
theorem ix_gN {X n i : Nat} (hi : i < (stL X n).length) : gN (stL X n) i < n ∧ X.testBit (gN (stL X n) i) = true ∧ ix X (gN (stL X n) i) = i := by
  induction n with
  | zero => simp [stL] at hi
  | succ n ih =>
    rw [stL_succ] at hi ⊢
    rw [List.length_append] at hi
    rw [gN_app]
    by_cases h : i < (stL X n).length
    · rw [if_pos h]
      obtain ⟨h1, h2⟩ := ih h
      exact ⟨by omega, h2⟩
    · rw [if_neg h]
      cases hb : X.testBit n with
      | false => rw [hb] at hi; simp at hi; omega
      | true =>
        rw [hb] at hi
        simp at hi
        have e : i - (stL X n).length = 0 := by omega
        rw [e]
        show n < n + 1 ∧ X.testBit n = true ∧ ix X n = i
        exact ⟨by omega, hb, by unfold ix; omega⟩
theorem stL_sum (X : Nat) (g : Nat → Nat → Int) : ∀ n, sumN (fun i => g i (gN (stL X n) i)) (stL X n).length = sumN (fun s => if X.testBit s then g (ix X s) s else 0) n
  | 0 => rfl
  | n + 1 => by
    have ih := stL_sum X g n
    show _ = sumN (fun s => if X.testBit s then g (ix X s) s else 0) n + (if X.testBit n then g (ix X n) n else 0)
    rw [← ih, stL_succ]
    cases hb : X.testBit n with
    | false => simp
    | true =>
      simp only [if_true, List.length_append, List.length_singleton]
      show sumN _ (stL X n).length + _ = _
      rw [sumN_congr (g := fun i => g i (gN (stL X n) i)) fun i hi => by rw [gN_app, if_pos hi]]
      show _ + g (stL X n).length (gN (stL X n ++ [n]) (stL X n).length) = _
      rw [gN_app, if_neg (Nat.lt_irrefl _), Nat.sub_self]
      rfl
/-! ### the rest's numbers -/
def qF (W : Wd) (p : List Int) (L : List Nat) (i j : Nat) : Int := nth (podds W p (gN L i)) (gN L j)
section
variable {W : Wd} {p : List Int} {f : Nat}
theorem podds_len (h : isPlanB W p = true) {s : Nat} (hs : s < W.acts.length) : (podds W p s).length = W.acts.length := (vAc_at (vAc_pact h hs)).2.2.1
theorem podds_nn (h : isPlanB W p = true) {s k : Nat} (hs : s < W.acts.length) (hk : k < W.acts.length) : 0 ≤ nth (podds W p s) k :=
  ((vAc_at (vAc_pact h hs)).2.2.2.1 _ (nth_mem (l := podds W p s) (k := k) (by rw [podds_len h hs]; exact hk))).1
theorem podds_sum (h : isPlanB W p = true) {s : Nat} (hs : s < W.acts.length) : isum (podds W p s) = sumN (nth (podds W p s)) W.acts.length := by rw [isum_sumN, podds_len h hs]
theorem ag_out (h : isPlanB W p = true) (ho : agOk W p f = true) {s k : Nat} (hs : (agSet W p f).testBit s = true) (hk : k < W.acts.length) (hn : (agSet W p f).testBit k = false) : nth (podds W p s) k = 0 := by
  have h1 := podds_nn h (ag_in hs).1 hk
  by_cases q : 0 < nth (podds W p s) k
  · have h9 : (agSet W p f).testBit k = true := ag_closed ho s k (ag_in hs).1 hk hs q
    rw [hn] at h9; cases h9
  · omega
theorem flow_m (h : isPlanB W p = true) (ho : agOk W p f = true) : FlowM (stL (agSet W p f) W.acts.length).length (flow W p (stL (agSet W p f) W.acts.length)) (qF W p (stL (agSet W p f) W.acts.length)) (fS W p (stL (agSet W p f) W.acts.length)) := by
  have hL : ∀ s ∈ stL (agSet W p f) W.acts.length, s < W.acts.length := fun s hs => stL_lt hs
  have hg : ∀ i, i < (stL (agSet W p f) W.acts.length).length → gN (stL (agSet W p f) W.acts.length) i < W.acts.length := fun i hi => hL _ (gN_mem hi)
  have hsq := flow_sq h hL
  refine ⟨⟨hsq.1, fun k hk => (hsq.2 k hk).1⟩, ?_, fun i j hi hj => podds_nn h (hg i hi) (hg j hj), ?_⟩
  · intro i j hi hj
    show nth (rw_ (fTo W p _ _) i) j = _
    rw [fTo_at hi, if_pos hi, nth_setI (by rw [fRow_len]; exact hj)]
    split
    · rename_i e; subst e
      rw [fRow_at hi]
      show -(nth _ _) + _ = _ - nth _ _
      omega
    · rw [fRow_at hj]
      show -(nth _ _) = 0 - nth _ _
      omega
  · intro i hi
    have hb := (ix_gN hi).2.1
    show isum (podds W p (gN _ i)) = sumN (fun j => nth (podds W p (gN _ i)) (gN _ j)) _
    rw [stL_sum (agSet W p f) (fun _ k => nth (podds W p (gN (stL (agSet W p f) W.acts.length) i)) k), podds_sum h (hg i hi)]
    refine sumN_congr fun k hk => ?_
    split
    · rfl
    · rename_i hn
      exact ag_out h ho hb hk (by simpa using hn)
theorem flow_irr (ho : agOk W p f = true) : Irr (stL (agSet W p f) W.acts.length).length (qF W p (stL (agSet W p f) W.acts.length)) := by
  intro T ⟨s, hs, hT⟩ hc i hi
  have hgs := ix_gN hs
  have hgi := ix_gN hi
  have key := ag_all ho (T := fun u => (agSet W p f).testBit u = true ∧ T (ix (agSet W p f) u)) (fun u v hu hv hTu hp => ?_) hgs.1 hgs.2.1 ⟨hgs.2.1, by rw [hgs.2.2]; exact hT⟩ hgi.2.1
  · have := key.2
    rwa [hgi.2.2] at this
  · have hbv := ag_closed ho u v hu hv hTu.1 hp
    refine ⟨hbv, hc (ix _ u) (ix _ v) (ix_lt hu hTu.1) (ix_lt hv hbv) hTu.2 ?_⟩
    unfold qF
    rw [gN_ix _ hu hTu.1, gN_ix _ hv hbv]
    exact hp
theorem ag_len (h : isPlanB W p = true) (hf : f < W.acts.length) : 1 ≤ (stL (agSet W p f) W.acts.length).length ∧ (stL (agSet W p f) W.acts.length).length ≤ 4 := by
  obtain ⟨_, _, _, ⟨_, hn4, _⟩, _⟩ := plan_parts h
  obtain ⟨i, hi⟩ := ag_nonempty (W := W) (p := p) hf
  have h1 := ix_lt (ag_in hi).1 hi
  have h2 := stL_len (X := agSet W p f) (n := W.acts.length)
  unfold ix at h1
  omega
/-- How often a state comes, by its Odds. -/
def muR (W : Wd) (p : List Int) (f s : Nat) : Int := if (agSet W p f).testBit s then mnr (stL (agSet W p f) W.acts.length).length (flow W p (stL (agSet W p f) W.acts.length)) (ix (agSet W p f) s) else 0
theorem mu_bd (h : isPlanB W p = true) (ho : agOk W p f = true) (hf : f < W.acts.length) {s : Nat} (hs : s < W.acts.length) : 0 ≤ muR W p f s ∧ muR W p f s ≤ 1728 ∧ ((agSet W p f).testBit s = true → 0 < muR W p f s) := by
  have hl := ag_len h hf
  unfold muR
  split
  · rename_i hb
    have h1 := mnr_pos (flow_m h ho) (flow_irr ho) hl.1 hl.2 (ix_lt hs hb)
    have h2 := mnr_le (flow_m h ho) hl.1 hl.2 (fun i hi => (pa_of0 h (stL_lt (gN_mem hi))).2) (ix_lt hs hb)
    unfold ix at *
    exact ⟨by omega, h2, fun _ => h1⟩
  · rename_i hb
    exact ⟨by omega, by omega, fun h => absurd h hb⟩
theorem nTo_at {X : Nat} : ∀ i, i ≤ (stL X W.acts.length).length → ∀ s, s < W.acts.length → nth (nTo W p (stL X W.acts.length) i) s = if X.testBit s = true ∧ ix X s < i then fVal W p (stL X W.acts.length) (ix X s) else 0
  | 0, _, s, hs => by
    rw [if_neg (by omega)]
    show nth (List.replicate _ 0) s = 0
    rw [nth_of_lt (by simpa using hs)]; simp
  | i + 1, hi, s, hs => by
    have ih := nTo_at (X := X) i (by omega) s hs
    have hg := ix_gN (X := X) (n := W.acts.length) (i := i) (by omega)
    show nth ((nTo W p _ i).set _ _) s = _
    rw [nth_setI (by rw [nTo_len]; exact hs)]
    by_cases e : gN (stL X W.acts.length) i = s
    · rw [if_pos e]
      rw [e] at hg
      rw [if_pos ⟨hg.2.1, by omega⟩, hg.2.2]
    · rw [if_neg e, ih]
      by_cases q : X.testBit s = true ∧ ix X s < i
      · rw [if_pos q, if_pos ⟨q.1, by omega⟩]
      · rw [if_neg q, if_neg]
        rintro ⟨h1, h2⟩
        have : ix X s = i := by
          have : ¬ ix X s < i := fun h => q ⟨h1, h⟩
          omega
        exact e (by rw [← this]; exact gN_ix _ hs h1)
theorem dTo_sum {L : List Nat} : ∀ i, dTo W p L i = sumN (fVal W p L) i
  | 0 => rfl
  | i + 1 => by show dTo W p L i + _ = _; rw [dTo_sum i]; rfl
theorem restN_at (_h : isPlanB W p = true) {s : Nat} (hs : s < W.acts.length) : nth (restN W p f) s = muR W p f s * isum (podds W p s) := by
  unfold restN
  rw [nTo_at _ (Nat.le_refl _) s hs]
  unfold muR
  by_cases hb : (agSet W p f).testBit s = true
  · rw [if_pos ⟨hb, ix_lt hs hb⟩, if_pos hb]
    unfold fVal fS mnr
    rw [gN_ix _ hs hb]
  · rw [if_neg (fun c => hb c.1), if_neg hb, Int.zero_mul]
theorem restD_sum (_h : isPlanB W p = true) : restD W p f = sumN (nth (restN W p f)) W.acts.length := by
  unfold restD
  rw [dTo_sum, stL_sum (agSet W p f) (fun i _ => fVal W p (stL (agSet W p f) W.acts.length) i)]
  refine sumN_congr fun s hs => ?_
  unfold restN
  rw [nTo_at _ (Nat.le_refl _) s hs]
  by_cases hb : (agSet W p f).testBit s = true
  · rw [if_pos hb, if_pos ⟨hb, ix_lt hs hb⟩]
  · rw [if_neg hb, if_neg (fun c => hb c.1)]
theorem rest_bd (h : isPlanB W p = true) (ho : agOk W p f = true) (hf : f < W.acts.length) {s : Nat} (hs : s < W.acts.length) : 0 ≤ nth (restN W p f) s ∧ nth (restN W p f) s ≤ 20736 ∧ ((agSet W p f).testBit s = true → 0 < nth (restN W p f) s) ∧ ((agSet W p f).testBit s = false → nth (restN W p f) s = 0) := by
  rw [restN_at h hs]
  have h1 := mu_bd h ho hf hs
  have h2 := pa_of0 h hs
  have h3 := Int.mul_le_mul h1.2.1 h2.2 (by omega) (by omega)
  refine ⟨Int.mul_nonneg h1.1 (by omega), by omega, fun hb => Int.mul_pos (h1.2.2 hb) (by omega), fun hb => ?_⟩
  unfold muR
  rw [hb]; simp
theorem restD_bd (h : isPlanB W p = true) (ho : agOk W p f = true) (hf : f < W.acts.length) : 0 < restD W p f ∧ restD W p f ≤ 82944 := by
  obtain ⟨_, _, _, ⟨_, hn4, _⟩, _⟩ := plan_parts h
  rw [restD_sum h]
  have hb := fun s (hs : s < W.acts.length) => rest_bd h ho hf hs
  obtain ⟨i, hi⟩ := ag_nonempty (W := W) (p := p) hf
  have hin := (ag_in hi).1
  have hp := (hb i hin).2.2.1 hi
  have key : ∀ n, n ≤ W.acts.length → 0 ≤ sumN (nth (restN W p f)) n ∧ sumN (nth (restN W p f)) n ≤ 20736 * n ∧ (i < n → 0 < sumN (nth (restN W p f)) n) := by
    intro n
    induction n with
    | zero => intro _; exact ⟨Int.le_refl _, by simp [sumN], fun h => by omega⟩
    | succ n ih =>
      intro hn
      obtain ⟨k1, k2, k3⟩ := ih (by omega)
      have q := hb n (by omega)
      show 0 ≤ sumN _ n + _ ∧ sumN _ n + _ ≤ _ ∧ (_ → 0 < sumN _ n + _)
      refine ⟨by omega, by omega, fun hin2 => ?_⟩
      by_cases e : i = n
      · subst e; omega
      · have := k3 (by omega); omega
  have := key W.acts.length (Nat.le_refl _)
  exact ⟨this.2.2 hin, by omega⟩
/-- The rest is what a step makes of it. -/
theorem rest_step (h : isPlanB W p = true) (ho : agOk W p f = true) (hf : f < W.acts.length) {k : Nat} (hk : k < W.acts.length) : sumN (fun s => muR W p f s * nth (podds W p s) k) W.acts.length = nth (restN W p f) k := by
  have hl := ag_len h hf
  by_cases hb : (agSet W p f).testBit k = true
  · have hn := mnr_null (flow_m h ho) hl.1 hl.2 (ix_lt hk hb)
    unfold qF at hn
    rw [show (fun i => mnr _ (flow W p (stL (agSet W p f) W.acts.length)) i * nth (podds W p (gN (stL (agSet W p f) W.acts.length) i)) (gN (stL (agSet W p f) W.acts.length) (ix (agSet W p f) k))) = fun i => (fun (i s : Nat) => mnr (stL (agSet W p f) W.acts.length).length (flow W p (stL (agSet W p f) W.acts.length)) i * nth (podds W p s) k) i (gN (stL (agSet W p f) W.acts.length) i) by rw [gN_ix _ hk hb]] at hn
    rw [stL_sum (agSet W p f) (fun (i s : Nat) => mnr (stL (agSet W p f) W.acts.length).length (flow W p (stL (agSet W p f) W.acts.length)) i * nth (podds W p s) k)] at hn
    rw [restN_at h hk]
    have e1 : muR W p f k = mnr (stL (agSet W p f) W.acts.length).length (flow W p (stL (agSet W p f) W.acts.length)) (ix (agSet W p f) k) := by unfold muR; rw [if_pos hb]
    rw [e1]
    have e2 : fS W p (stL (agSet W p f) W.acts.length) (ix (agSet W p f) k) = isum (podds W p k) := by unfold fS; rw [gN_ix _ hk hb]
    rw [e2] at hn
    rw [← hn]
    refine sumN_congr fun s hs => ?_
    unfold muR
    split
    · rfl
    · simp
  · have hb : (agSet W p f).testBit k = false := by simpa using hb
    rw [(rest_bd h ho hf hk).2.2.2 hb]
    have : sumN (fun s => muR W p f s * nth (podds W p s) k) W.acts.length = sumN (fun s => 0 * nth (podds W p s) k) W.acts.length := sumN_congr fun s hs => by
      by_cases hs2 : (agSet W p f).testBit s = true
      · rw [ag_out h ho hs2 hk hb]; simp
      · unfold muR; rw [if_neg hs2]
    rw [this, sumN_mul, Int.zero_mul]
end
end Go.Proofs.Ytcmakddnjmeklaa
