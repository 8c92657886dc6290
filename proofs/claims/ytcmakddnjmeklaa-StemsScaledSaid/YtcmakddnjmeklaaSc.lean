/- Chapter 9, plain: odds multiplied. -/
import Derived.Test.YtcmakddnjmeklaaSb
import Derived.Test.YtcmakddnjmeklaaPq
namespace Go.Proofs.Ytcmakddnjmeklaa
open Go.RowKit

/-! ### reach hangs on which odds are above zero -/
section
variable {W V : Wd} {p : List Int}
theorem sr_back (hr : rch V p = rch W p) (s : Nat) : ∀ k, backB V p s k = backB W p s k
  | 0 => rfl
  | k + 1 => by unfold backB; rw [sr_back hr s k, hr]
theorem sr_agS (hn : V.acts.length = W.acts.length) (hr : rch V p = rch W p) (f : Nat) : ∀ s, agS V p f s = agS W p f s
  | 0 => rfl
  | s + 1 => by unfold agS; rw [sr_agS hn hr f s, hr, sr_back hr, hn]
theorem sr_agSet (hn : V.acts.length = W.acts.length) (hr : rch V p = rch W p) (f : Nat) : agSet V p f = agSet W p f := by unfold agSet; rw [hn]; exact sr_agS hn hr f _
theorem sr_agOk (hn : V.acts.length = W.acts.length) (hr : rch V p = rch W p) (f : Nat) : agOk V p f = agOk W p f := by unfold agOk; rw [hn, sr_agSet hn hr, hr]
theorem rk_pos {o o' : List Int} (h : ∀ k, 0 < nth o' k ↔ 0 < nth o k) (s : Nat) : ∀ k x, rk o' s k x = rk o s k x
  | 0, _ => rfl
  | k + 1, x => by
    unfold rk
    rw [rk_pos h s k x, show decide (0 < nth o' k) = decide (0 < nth o k) from decide_eq_decide.2 (h k)]
theorem rs_pos {A B : Nat → List Int} (h : ∀ s k, 0 < nth (B s) k ↔ 0 < nth (A s) k) (n : Nat) : ∀ s x, rs B n s x = rs A n s x
  | 0, _ => rfl
  | s + 1, x => by unfold rs; rw [rs_pos h n s x, rk_pos (h s)]
theorem rr_pos {A B : Nat → List Int} (h : ∀ s k, 0 < nth (B s) k ↔ 0 < nth (A s) k) (n : Nat) : ∀ r x, rr B n r x = rr A n r x
  | 0, _ => rfl
  | r + 1, x => by unfold rr; rw [rr_pos h n r x, rs_pos h]
end
/-! ### scaled acts -/
def Scs (c : Int) (x x' : Ac) : Prop := 0 < c ∧ x'.g = x.g ∧ x'.o = x.o.map fun o => c * o
theorem Scs.same (x : Ac) : Scs 1 x x := ⟨by omega, rfl, by simp⟩
theorem nth_mapc (c : Int) (l : List Int) (j : Nat) : nth (l.map fun o => c * o) j = c * nth l j := by
  by_cases h : j < l.length
  · rw [nth_map h]
  · unfold nth; rw [List.getD_eq_getElem?_getD, List.getElem?_eq_none (by simp; omega), List.getD_eq_getElem?_getD, List.getElem?_eq_none (by omega)]; simp
theorem isum_mapc (c : Int) (l : List Int) : isum (l.map fun o => c * o) = c * isum l := by
  rw [isum_sumN, isum_sumN, List.length_map, ← sumN_mul]
  exact sumN_congr fun k _ => nth_mapc c l k
theorem Scs.sum {c : Int} {x x' : Ac} (h : Scs c x x') : isum x'.o = c * isum x.o := by rw [h.2.2, isum_mapc]
theorem Scs.len {c : Int} {x x' : Ac} (h : Scs c x x') : x'.o.length = x.o.length := by rw [h.2.2, List.length_map]
theorem Scs.at {c : Int} {x x' : Ac} (h : Scs c x x') (j : Nat) : nth x'.o j = c * nth x.o j := by rw [h.2.2, nth_mapc]
theorem Scs.tel {c : Int} {x x' : Ac} (h : Scs c x x') (a b : Int) (v : Nat → Int) (d : Int) : tel a b x' v d = c * tel a b x v d := by
  unfold Go.Proofs.Ytcmakddnjmeklaa.tel
  rw [h.sum, h.len, h.2.1, sumN_congr (g := fun k => c * (nth x.o k * v k)) fun k _ => by rw [h.at]; grind, sumN_mul]
  grind
structure ScW (W V : Wd) : Prop where
  a : V.a = W.a
  b : V.b = W.b
  n : V.acts.length = W.acts.length
  l : ∀ s, (acl V.acts s).length = (acl W.acts s).length
  x : ∀ s i, ∃ c, Scs c (ac (acl W.acts s) i) (ac (acl V.acts s) i)
section
variable {W V : Wd} {p q : List Int}
theorem ScW.plan (h : ScW W V) (hV : vWd V = true) (hp : isPlanB W q = true) : isPlanB V q = true := by
  obtain ⟨_, hl, hq, _⟩ := plan_parts hp
  unfold isPlanB
  rw [hV, Bool.true_and]
  exact planOk_yes (by rw [h.n]; exact hl) fun s hs => by rw [h.n] at hs; rw [h.l]; exact hq s hs
theorem ScW.plan2 (h : ScW W V) (hW : vWd W = true) (hp : isPlanB V q = true) : isPlanB W q = true := by
  obtain ⟨_, hl, hq, _⟩ := plan_parts hp
  unfold isPlanB
  rw [hW, Bool.true_and]
  exact planOk_yes (by rw [← h.n]; exact hl) fun s hs => by have := hq s (by rw [h.n]; exact hs); rwa [h.l] at this
theorem ScW.pact (h : ScW W V) (p : List Int) (s : Nat) : ∃ c, Scs c (pact W.acts p s) (pact V.acts p s) := h.x s _
theorem ScW.wN (h : ScW W V) (hV : vWd V = true) (hp : isPlanB W p = true) {s : Nat} (hs : s < W.acts.length) :
    wN V.a V.b (planActs V.acts p) s * wD W.a W.b (planActs W.acts p) = wN W.a W.b (planActs W.acts p) s * wD V.a V.b (planActs V.acts p) := by
  have hX := okX_plan hp
  have hX' := okX_plan (h.plan hV hp)
  refine worth_same hX' (wD_pos hX).1 (fun t ht => ?_) (by rw [planActs_len, h.n]; exact hs)
  rw [planActs_len, h.n] at ht
  have hq := worth_eq hX (s := t) (by rw [planActs_len]; exact ht)
  obtain ⟨c, hc⟩ := h.pact p t
  rw [planActs_at ht] at hq
  rw [planActs_at (by rw [h.n]; exact ht), hc.tel, hc.sum, h.a, h.b, ← hq]
  grind
theorem ScW.worth (h : ScW W V) (hV : vWd V = true) (hp : isPlanB W p = true) : worthF V p = worthF W p := by
  refine fr_ext (by rw [worthF_len, worthF_len, h.n]) fun s hs => ?_
  rw [worthF_len, h.n] at hs
  unfold worthF
  have l1 := planActs_len W.acts p
  have l2 := planActs_len V.acts p
  rw [fracsL_at (by rw [wNs_len, l2, h.n]; exact hs), wNs_at (by rw [l2, h.n]; exact hs), fracsL_at (by rw [wNs_len, l1]; exact hs), wNs_at (by rw [l1]; exact hs)]
  have d1 := (wD_pos (okX_plan hp)).1
  have d2 := (wD_pos (okX_plan (h.plan hV hp))).1
  congr 1
  rw [← Rat.divInt_eq_div, ← Rat.divInt_eq_div, Rat.divInt_eq_divInt_iff (by omega) (by omega)]
  exact h.wN hV hp hs
/-- What an act is told, against the worth, is scaled by something above zero. -/
theorem ScW.over (h : ScW W V) (hV : vWd V = true) (hp : isPlanB W p = true) {s i : Nat} (hs : s < W.acts.length) (hi : i < (acl W.acts s).length) :
    ∃ c, 0 < c ∧ (tlW V p (ac (acl V.acts s) i) - V.b * isum (ac (acl V.acts s) i).o * Go.Proofs.Ytcmakddnjmeklaa.wN V.a V.b (planActs V.acts p) s) * wD W.a W.b (planActs W.acts p) = c * (tlW W p (ac (acl W.acts s) i) - W.b * isum (ac (acl W.acts s) i).o * Go.Proofs.Ytcmakddnjmeklaa.wN W.a W.b (planActs W.acts p) s) := by
  obtain ⟨c, hc⟩ := h.x s i
  have d2 := (wD_pos (okX_plan (h.plan hV hp))).1
  have hv := ((plan_parts hp).2.2.2.2 s hs).2.2 i hi
  have hv' := ((plan_parts (h.plan hV hp)).2.2.2.2 s (by rw [h.n]; exact hs)).2.2 i (by rw [h.l]; exact hi)
  have hol := (vAc_at hv).2.2.1
  refine ⟨c * wD V.a V.b (planActs V.acts p), Int.mul_pos hc.1 d2, ?_⟩
  have t := tel_scale (a := W.a) (b := W.b) (x := ac (acl W.acts s) i) (l := Go.Proofs.Ytcmakddnjmeklaa.wN V.a V.b (planActs V.acts p)) (N := Go.Proofs.Ytcmakddnjmeklaa.wN W.a W.b (planActs W.acts p)) (d := wD V.a V.b (planActs V.acts p)) (D := wD W.a W.b (planActs W.acts p)) (fun k hk => h.wN hV hp (by rw [← hol]; exact hk))
  have e := h.wN hV hp hs
  rw [tlW_eq hv, tlW_eq hv', hc.tel, hc.sum, h.a, h.b] at *
  grind
theorem sgn_of {c D x y : Int} (hc : 0 < c) (hD : 0 < D) (h : x * D = c * y) : (x = 0 ↔ y = 0) ∧ (x ≤ 0 ↔ y ≤ 0) := by
  constructor
  · constructor
    · intro e; rw [e, Int.zero_mul] at h
      rcases Int.mul_eq_zero.1 h.symm with q | q
      · omega
      · exact q
    · intro e; rw [e, Int.mul_zero] at h
      rcases Int.mul_eq_zero.1 h with q | q
      · exact q
      · omega
  · constructor
    · intro e
      refine Int.not_lt.1 fun q => ?_
      have := Int.mul_pos hc q
      have := Int.mul_nonpos_of_nonpos_of_nonneg e (Int.le_of_lt hD)
      omega
    · intro e
      refine Int.not_lt.1 fun q => ?_
      have := Int.mul_pos q hD
      have := Int.mul_nonpos_of_nonneg_of_nonpos (Int.le_of_lt hc) e
      omega
theorem ScW.hit (h : ScW W V) (hV : vWd V = true) (hp : isPlanB W p = true) {s i : Nat} (hs : s < W.acts.length) (hi : i < (acl W.acts s).length) : hitB V p s i = hitB W p s i := by
  obtain ⟨c, hc, e⟩ := h.over hV hp hs hi
  have g := (sgn_of hc (wD_pos (okX_plan hp)).1 e).1
  unfold hitB
  rw [Bool.eq_iff_iff, beq_iff_eq, beq_iff_eq]
  omega
theorem ScW.opt (h : ScW W V) (hV : vWd V = true) (hp : isPlanB W p = true) (ho : Opt V p) : Opt W p := fun s hs i hi => by
  obtain ⟨c, hc, e⟩ := h.over hV hp hs hi
  have g := (sgn_of hc (wD_pos (okX_plan hp)).1 e).2
  have h3 := ho s (by rw [h.n]; exact hs) i (by rw [h.l]; exact hi)
  omega
theorem ScW.best (h : ScW W V) (hV : vWd V = true) (hW : vWd W = true) (hp : isPlanB W p = true) (ho : Opt W p) (hq : isPlanB V q = true) (hoq : Opt V q) : firstP V q = firstP W p := by
  have hq2 := h.plan2 hW hq
  rw [opt_first hp hq2 ho (h.opt hV hq2 hoq)]
  unfold firstP
  rw [h.n]
  refine List.map_congr_left fun s hs => ?_
  have hs : s < W.acts.length := by simpa using hs
  rw [h.l]
  exact firstIx_congr fun i hi => h.hit hV hq2 hs hi
/-! ### the rest -/
theorem ScW.rch (h : ScW W V) (p : List Int) : rch V p = rch W p := by
  funext f
  unfold Go.Proofs.Ytcmakddnjmeklaa.rch rchN
  rw [h.n]
  refine rr_pos (fun s k => ?_) _ _ _
  obtain ⟨c, hc⟩ := h.pact p s
  unfold podds
  rw [hc.at]
  exact ⟨fun q => Int.pos_of_mul_pos_right (by simpa using q) hc.1, fun q => Int.mul_pos hc.1 q⟩
def prodN (C : Nat → Int) : Nat → Int
  | 0 => 1
  | k + 1 => prodN C k * C k
theorem prodN_pos {C : Nat → Int} (h : ∀ i, 0 < C i) : ∀ k, 0 < prodN C k
  | 0 => by simp [prodN]
  | k + 1 => Int.mul_pos (prodN_pos h k) (h k)
theorem mnr_scale {K : Nat} {M M' : List (List Int)} {q q' : Nat → Nat → Int} {S S' C : Nat → Int} (h : FlowM K M q S) (h' : FlowM K M' q' S') (hq : ∀ i j, q' i j = C i * q i j) (h1 : 1 ≤ K) (h4 : K ≤ 4) {i : Nat} (hi : i < K) : mnr K M' i * C i = prodN C K * mnr K M i := by
  have hK : K = 1 ∨ K = 2 ∨ K = 3 ∨ K = 4 := by omega
  rcases hK with rfl | rfl | rfl | rfl
  · obtain rfl : i = 0 := by omega
    rw [mnr1, mnr1]; simp [prodN]
  · have hi2 : i = 0 ∨ i = 1 := by omega
    simp only [prodN]
    rcases hi2 with rfl | rfl
    · rw [mnr2_0 h, mnr2_0 h', hq]; grind
    · rw [mnr2_1 h, mnr2_1 h', hq]; grind
  · have hi2 : i = 0 ∨ i = 1 ∨ i = 2 := by omega
    simp only [prodN]
    rcases hi2 with rfl | rfl | rfl
    · rw [mnr3_0 h, mnr3_0 h']; simp only [hq]; unfold tr2; grind
    · rw [mnr3_1 h, mnr3_1 h']; simp only [hq]; unfold tr2; grind
    · rw [mnr3_2 h, mnr3_2 h']; simp only [hq]; unfold tr2; grind
  · have hi2 : i = 0 ∨ i = 1 ∨ i = 2 ∨ i = 3 := by omega
    simp only [prodN]
    rcases hi2 with rfl | rfl | rfl | rfl
    · rw [mnr4_0 h, mnr4_0 h']; simp only [hq]; unfold tr3; grind
    · rw [mnr4_1 h, mnr4_1 h']; simp only [hq]; unfold tr3; grind
    · rw [mnr4_2 h, mnr4_2 h']; simp only [hq]; unfold tr3; grind
    · rw [mnr4_3 h, mnr4_3 h']; simp only [hq]; unfold tr3; grind
theorem ScW.restN (h : ScW W V) (hV : vWd V = true) (hp : isPlanB W p = true) {f : Nat} (ho : agOk W p f = true) (hf : f < W.acts.length) :
    ∃ P, 0 < P ∧ ∀ s, s < W.acts.length → nth (restN V p f) s = P * nth (Go.Proofs.Ytcmakddnjmeklaa.restN W p f) s := by
  have hC := fun s => (h.pact p s).choose_spec
  generalize hCe : (fun s => (h.pact p s).choose) = C at *
  have hC : ∀ s, Scs (C s) (Go.Proofs.Ytcmakddnjmeklaa.pact W.acts p s) (Go.Proofs.Ytcmakddnjmeklaa.pact V.acts p s) := fun s => by rw [← hCe]; exact hC s
  have hpV := h.plan hV hp
  have hag := sr_agSet h.n (h.rch p) f
  have hoV : agOk V p f = true := by rw [sr_agOk h.n (h.rch p)]; exact ho
  have hm := flow_m hp ho
  have hm' := flow_m hpV hoV
  have hL := ag_len hp hf
  refine ⟨prodN (fun i => C (gN (stL (agSet W p f) W.acts.length) i)) (stL (agSet W p f) W.acts.length).length, prodN_pos (fun i => (hC _).1) _, fun s hs => ?_⟩
  rw [restN_at hp hs, restN_at hpV (by rw [h.n]; exact hs)]
  unfold muR
  rw [hag, h.n] at *
  have hsm : isum (podds V p s) = C s * isum (podds W p s) := (hC s).sum
  rw [hsm]
  by_cases hb : (agSet W p f).testBit s = true
  · rw [if_pos hb, if_pos hb]
    have e := mnr_scale (C := fun i => C (gN (stL (agSet W p f) W.acts.length) i)) hm hm' (fun i j => (hC _).at _) hL.1 hL.2 (i := ix (agSet W p f) s) (by have := ix_lt hs hb; exact this)
    have e2 : C (gN (stL (agSet W p f) W.acts.length) (ix (agSet W p f) s)) = C s := by rw [gN_ix _ hs hb]
    rw [e2] at e
    grind
  · rw [if_neg hb, if_neg hb]; simp
theorem ScW.rest (h : ScW W V) (hV : vWd V = true) (hp : isPlanB W p = true) {f : Nat} (ho : agOk W p f = true) (hf : f < W.acts.length) : restF V p f = restF W p f ∧ yF V p f = yF W p f := by
  obtain ⟨P, hP, hN⟩ := h.restN hV hp ho hf
  have hpV := h.plan hV hp
  have hoV : agOk V p f = true := by rw [sr_agOk h.n (h.rch p)]; exact ho
  have hD : restD V p f = P * restD W p f := by
    rw [restD_sum hp, restD_sum hpV, h.n, ← sumN_mul]
    exact sumN_congr hN
  have d1 := (restD_bd hp ho hf).1
  have d2 := (restD_bd hpV hoV (by rw [h.n]; exact hf)).1
  have hq : ∀ n : Int, (((P * n : Int) : Rat) / ((restD V p f : Int) : Rat)) = ((n : Int) : Rat) / ((restD W p f : Int) : Rat) := fun n => by
    rw [← Rat.divInt_eq_div, ← Rat.divInt_eq_div, Rat.divInt_eq_divInt_iff (by omega) (by omega), hD]
    grind
  refine ⟨fr_ext (by rw [restF_len, restF_len, h.n]) fun s hs => ?_, ?_⟩
  · rw [restF_len, h.n] at hs
    rw [restF_at hs, restF_at (by rw [h.n]; exact hs), hN s hs]
    congr 1
    exact hq _
  · have hy : yN V p f = P * yN W p f := by
      unfold yN
      rw [h.n, ← sumN_mul]
      refine sumN_congr fun s hs => ?_
      obtain ⟨c, hc⟩ := h.pact p s
      rw [hN s hs, show gainP V p s = gainP W p s from hc.2.1]
      grind
    unfold yF
    rw [hy]
    congr 1
    exact hq _
end
end Go.Proofs.Ytcmakddnjmeklaa
