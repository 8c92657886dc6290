/- Chapter 9, plain: all gains shifted. -/
import Derived.Test.YtcmakddnjmeklaaSa
import Derived.Test.YtcmakddnjmeklaaVg
import Derived.Test.YtcmakddnjmeklaaWr
namespace Go.Proofs.Ytcmakddnjmeklaa
open Go.RowKit

/-! ### what hangs on the odds alone -/
section
variable {W V : Wd} {p : List Int}
theorem so_rch (hn : V.acts.length = W.acts.length) (ho : podds V p = podds W p) : rch V p = rch W p := by funext f; unfold rch; rw [hn, ho]
theorem so_back (hn : V.acts.length = W.acts.length) (ho : podds V p = podds W p) (s : Nat) : ∀ k, backB V p s k = backB W p s k
  | 0 => rfl
  | k + 1 => by unfold backB; rw [so_back hn ho s k, so_rch hn ho]
theorem so_agS (hn : V.acts.length = W.acts.length) (ho : podds V p = podds W p) (f : Nat) : ∀ s, agS V p f s = agS W p f s
  | 0 => rfl
  | s + 1 => by unfold agS; rw [so_agS hn ho f s, so_rch hn ho, so_back hn ho, hn]
theorem so_agSet (hn : V.acts.length = W.acts.length) (ho : podds V p = podds W p) (f : Nat) : agSet V p f = agSet W p f := by unfold agSet; rw [hn]; exact so_agS hn ho f _
theorem so_agOk (hn : V.acts.length = W.acts.length) (ho : podds V p = podds W p) (f : Nat) : agOk V p f = agOk W p f := by unfold agOk; rw [hn, so_agSet hn ho, so_rch hn ho]
theorem so_fRow (ho : podds V p = podds W p) (L : List Nat) (s : Nat) : fRow V p L s = fRow W p L s := by unfold fRow; rw [ho]
theorem so_fS (ho : podds V p = podds W p) (L : List Nat) (s : Nat) : fS V p L s = fS W p L s := by unfold fS; rw [ho]
theorem so_flow (ho : podds V p = podds W p) (L : List Nat) : flow V p L = flow W p L := by
  unfold flow fTo
  refine List.map_congr_left fun k _ => ?_
  rw [so_fRow ho, so_fS ho]
theorem so_fVal (ho : podds V p = podds W p) (L : List Nat) (i : Nat) : fVal V p L i = fVal W p L i := by unfold fVal; rw [so_flow ho, so_fS ho]
theorem so_nTo (hn : V.acts.length = W.acts.length) (ho : podds V p = podds W p) (L : List Nat) : ∀ i, nTo V p L i = nTo W p L i
  | 0 => by unfold nTo; rw [hn]
  | i + 1 => by unfold nTo; rw [so_nTo hn ho L i, so_fVal ho]
theorem so_dTo (ho : podds V p = podds W p) (L : List Nat) : ∀ i, dTo V p L i = dTo W p L i
  | 0 => rfl
  | i + 1 => by unfold dTo; rw [so_dTo ho L i, so_fVal ho]
theorem so_restF (hn : V.acts.length = W.acts.length) (ho : podds V p = podds W p) (f : Nat) : restF V p f = restF W p f := by
  unfold restF restN restD
  rw [hn, so_agSet hn ho, so_nTo hn ho, so_dTo ho]
end
/-! ### shifted gains -/
section
variable {W : Wd} {p q : List Int} {y : Int}
theorem sh_podds : podds (shW y W) p = podds W p := by
  funext s
  unfold podds pact
  by_cases hs : s < W.acts.length
  · rw [shW_at hs]
    by_cases hi : (nth p s).toNat < (acl W.acts s).length
    · rw [shAs_at hi, if_pos hi]; rfl
    · rw [show ∀ A : List Ac, ¬ (nth p s).toNat < A.length → ac A (nth p s).toNat = ⟨0, []⟩ from fun A h => by simp [ac, h]] 
      · rw [show ∀ A : List Ac, ¬ (nth p s).toNat < A.length → ac A (nth p s).toNat = ⟨0, []⟩ from fun A h => by simp [ac, h]]
        exact hi
      · rw [shAs_len]; exact hi
  · rw [show acl (shW y W).acts s = [] by unfold acl; rw [List.getD_eq_getElem?_getD, List.getElem?_eq_none (by rw [shW_len]; omega)]; rfl, show acl W.acts s = [] by unfold acl; rw [List.getD_eq_getElem?_getD, List.getElem?_eq_none (by omega)]; rfl]
theorem sh_plan (hV : vWd (shW y W) = true) (h : isPlanB W q = true) : isPlanB (shW y W) q = true := by
  obtain ⟨_, hl, hp, _⟩ := plan_parts h
  unfold isPlanB
  rw [hV, Bool.true_and]
  exact planOk_yes (by rw [shW_len]; exact hl) fun s hs => by rw [shW_len] at hs; rw [shW_lenAt hs]; exact hp s hs
theorem sh_plan2 (hW : vWd W = true) (h : isPlanB (shW y W) q = true) : isPlanB W q = true := by
  obtain ⟨_, hl, hp, _⟩ := plan_parts h
  unfold isPlanB
  rw [hW, Bool.true_and]
  exact planOk_yes (by rw [← shW_len (y := y)]; exact hl) fun s hs => by have := hp s (by rw [shW_len]; exact hs); rwa [shW_lenAt hs] at this
theorem sh_pact (h : isPlanB W p = true) {s : Nat} (hs : s < W.acts.length) : pact (shW y W).acts p s = shAc y (pact W.acts p s) := by
  have := (plan_parts h).2.2.1 s hs
  unfold pact
  exact shW_ac hs (by omega)
theorem sh_mat (h : isPlanB W p = true) : mMat W.a W.b (planActs (shW y W).acts p) = mMat W.a W.b (planActs W.acts p) := by
  unfold mMat
  rw [planActs_len, planActs_len, shW_len]
  refine List.map_congr_left fun s hs => ?_
  have hs : s < W.acts.length := by simpa using hs
  rw [planActs_at (by rw [shW_len]; exact hs), planActs_at hs, sh_pact h hs]
  rfl
theorem sh_wD (h : isPlanB W p = true) : wD W.a W.b (planActs (shW y W).acts p) = wD W.a W.b (planActs W.acts p) := by
  unfold wD
  rw [sh_mat h, planActs_len, planActs_len, shW_len]
/-- The worth's numerators under shifted gains, times b - a. -/
theorem sh_tel (x : Ac) (N M : Nat → Int) (D a b : Int) (hM : ∀ k, k < x.o.length → M k * (b - a) = N k * (b - a) + y * b * D) :
    tel a b (shAc y x) M D * (b - a) = tel a b x N D * (b - a) + b * isum x.o * (y * b * D) := by
  unfold tel
  show (b * isum x.o * D * (x.g + y) + a * sumN (fun k => nth x.o k * M k) x.o.length) * (b - a) = _
  have e : sumN (fun k => nth x.o k * M k) x.o.length * (b - a) = sumN (fun k => nth x.o k * N k) x.o.length * (b - a) + isum x.o * (y * b * D) := by
    rw [Int.mul_comm, ← sumN_mul, sumN_congr (g := fun k => (b - a) * (nth x.o k * N k) + (y * b * D) * nth x.o k) fun k hk => by
      have := hM k hk
      have e2 : (b - a) * (nth x.o k * M k) = nth x.o k * (M k * (b - a)) := by grind
      rw [e2, this]; grind, sumN_add, sumN_mul, sumN_mul, ← isum_sumN]
    grind
  have e3 : (b * isum x.o * D * (x.g + y) + a * sumN (fun k => nth x.o k * M k) x.o.length) * (b - a) = b * isum x.o * D * (x.g + y) * (b - a) + a * (sumN (fun k => nth x.o k * M k) x.o.length * (b - a)) := by grind
  rw [e3, e]
  grind
theorem sh_wN (hV : vWd (shW y W) = true) (h : isPlanB W p = true) {s : Nat} (hs : s < W.acts.length) :
    wN W.a W.b (planActs (shW y W).acts p) s * (W.b - W.a) = wN W.a W.b (planActs W.acts p) s * (W.b - W.a) + y * W.b * wD W.a W.b (planActs W.acts p) := by
  have hX := okX_plan h
  have hX' : OkX W.a W.b (planActs (shW y W).acts p) := okX_plan (sh_plan hV h)
  have hab := (plan_parts h).2.2.2.1
  have hD := (wD_pos hX).1
  have hd : 0 < wD W.a W.b (planActs W.acts p) * (W.b - W.a) := Int.mul_pos hD (by omega)
  have hl' : (planActs (shW y W).acts p).length = W.acts.length := by rw [planActs_len, shW_len]
  have hl : (planActs W.acts p).length = W.acts.length := planActs_len ..
  have q := worth_same hX' (v := fun k => wN W.a W.b (planActs W.acts p) k * (W.b - W.a) + y * W.b * wD W.a W.b (planActs W.acts p)) hd (fun t ht => by
    rw [hl'] at ht
    have hq := worth_eq hX (s := t) (by rw [hl]; exact ht)
    rw [planActs_at ht] at hq
    rw [planActs_at (by rw [shW_len]; exact ht), sh_pact h ht]
    show W.b * isum (pact W.acts p t).o * _ = _
    generalize pact W.acts p t = x at *
    generalize wD W.a W.b (planActs W.acts p) = D at *
    generalize wN W.a W.b (planActs W.acts p) = N at *
    show _ = W.b * isum x.o * (D * (W.b - W.a)) * (x.g + y) + W.a * sumN (fun k => nth x.o k * (N k * (W.b - W.a) + y * W.b * D)) x.o.length
    rw [sumN_congr (g := fun k => (W.b - W.a) * (nth x.o k * N k) + (y * W.b * D) * nth x.o k) fun k _ => by grind, sumN_add, sumN_mul, sumN_mul, ← isum_sumN]
    unfold tel at hq
    have e : W.b * isum x.o * (N t * (W.b - W.a) + y * W.b * D) = (W.b * isum x.o * N t) * (W.b - W.a) + W.b * isum x.o * (y * W.b * D) := by grind
    rw [e, hq]
    grind) (s := s) (by rw [hl']; exact hs)
  rw [sh_wD h] at q
  refine Int.eq_of_mul_eq_mul_right (a := wD W.a W.b (planActs W.acts p)) (by omega) ?_
  have e : wN W.a W.b (planActs (shW y W).acts p) s * (W.b - W.a) * wD W.a W.b (planActs W.acts p) = wN W.a W.b (planActs (shW y W).acts p) s * (wD W.a W.b (planActs W.acts p) * (W.b - W.a)) := by grind
  rw [e, q]
/-- What an act is told beyond the worth, times b - a, is the same. -/
theorem sh_over (hV : vWd (shW y W) = true) (h : isPlanB W p = true) {s i : Nat} (hs : s < W.acts.length) (hi : i < (acl W.acts s).length) :
    (tlW (shW y W) p (ac (acl (shW y W).acts s) i) - W.b * isum (ac (acl (shW y W).acts s) i).o * wN W.a W.b (planActs (shW y W).acts p) s) * (W.b - W.a) = (tlW W p (ac (acl W.acts s) i) - W.b * isum (ac (acl W.acts s) i).o * wN W.a W.b (planActs W.acts p) s) * (W.b - W.a) := by
  have hv := ((plan_parts h).2.2.2.2 s hs).2.2 i hi
  have hv' : vAc (shW y W).acts.length (shAc y (ac (acl W.acts s) i)) = true := by
    have := ((plan_parts (sh_plan hV h)).2.2.2.2 s (by rw [shW_len]; exact hs)).2.2 i (by rw [shW_lenAt hs]; exact hi)
    rwa [shW_ac hs hi] at this
  have hol := (vAc_at hv).2.2.1
  rw [shW_ac hs hi, tlW_eq hv, tlW_eq hv']
  show (tel W.a W.b (shAc y (ac (acl W.acts s) i)) (wN W.a W.b (planActs (shW y W).acts p)) (wD W.a W.b (planActs (shW y W).acts p)) - W.b * isum (ac (acl W.acts s) i).o * _) * (W.b - W.a) = _
  rw [sh_wD h]
  have h1 := sh_tel (y := y) (ac (acl W.acts s) i) (wN W.a W.b (planActs W.acts p)) (wN W.a W.b (planActs (shW y W).acts p)) (wD W.a W.b (planActs W.acts p)) W.a W.b (fun k hk => sh_wN hV h (by rw [← hol]; exact hk))
  have h2 := sh_wN hV h hs
  rw [Int.sub_mul, h1, Int.sub_mul, Int.mul_assoc (W.b * _), h2]
  grind
theorem sh_hit (hV : vWd (shW y W) = true) (h : isPlanB W p = true) {s i : Nat} (hs : s < W.acts.length) (hi : i < (acl W.acts s).length) : hitB (shW y W) p s i = hitB W p s i := by
  have h1 := sh_over hV h hs hi
  have hab := (plan_parts h).2.2.2.1
  have h2 := Int.eq_of_mul_eq_mul_right (show W.b - W.a ≠ 0 by omega) h1
  unfold hitB
  show (_ == W.b * _ * wN W.a W.b _ s) = _
  rw [Bool.eq_iff_iff, beq_iff_eq, beq_iff_eq]
  omega
theorem sh_opt (hV : vWd (shW y W) = true) (h : isPlanB W p = true) (ho : Opt (shW y W) p) : Opt W p := fun s hs i hi => by
  have h1 := sh_over hV h hs hi
  have hab := (plan_parts h).2.2.2.1
  have h2 := Int.eq_of_mul_eq_mul_right (show W.b - W.a ≠ 0 by omega) h1
  have h3 := ho s (by rw [shW_len]; exact hs) i (by rw [shW_lenAt hs]; exact hi)
  have h4 : tlW (shW y W) p (ac (acl (shW y W).acts s) i) ≤ W.b * isum (ac (acl (shW y W).acts s) i).o * wN W.a W.b (planActs (shW y W).acts p) s := h3
  omega
theorem firstIx_congr {f g : Nat → Bool} {n : Nat} (h : ∀ i, i < n → f i = g i) : firstIx f n = firstIx g n := by
  unfold firstIx
  rw [show (List.range n).find? f = (List.range n).find? g from by
    have : ∀ l : List Nat, (∀ x ∈ l, f x = g x) → l.find? f = l.find? g := fun l => by
      induction l with
      | nil => intro _; rfl
      | cons a l ih => intro hl; rw [List.find?_cons, List.find?_cons, hl a (by simp), ih fun x hx => hl x (by simp [hx])]
    exact this _ fun x hx => h x (by simpa using hx)]
theorem opt_first (h : isPlanB W p = true) (hq : isPlanB W q = true) (ho : Opt W p) (ho2 : Opt W q) : firstP W p = firstP W q := by
  have g1 := opt_ge h hq ho
  have g2 := opt_ge hq h ho2
  have e : ∀ s, s < W.acts.length → wN W.a W.b (planActs W.acts p) s * wD W.a W.b (planActs W.acts q) = wN W.a W.b (planActs W.acts q) s * wD W.a W.b (planActs W.acts p) := fun s hs => Int.le_antisymm (g2 s hs) (g1 s hs)
  have d1 := (wD_pos (okX_plan h)).1
  have d2 := (wD_pos (okX_plan hq)).1
  unfold firstP
  refine List.map_congr_left fun s hs => firstIx_congr fun i hi => ?_
  have hs : s < W.acts.length := by simpa using hs
  have hv := ((plan_parts h).2.2.2.2 s hs).2.2 i hi
  have hol := (vAc_at hv).2.2.1
  have t := tel_scale (a := W.a) (b := W.b) (x := ac (acl W.acts s) i) (l := wN W.a W.b (planActs W.acts p)) (N := wN W.a W.b (planActs W.acts q)) (d := wD W.a W.b (planActs W.acts p)) (D := wD W.a W.b (planActs W.acts q)) (fun k hk => e k (by rw [← hol]; exact hk))
  unfold hitB
  rw [tlW_eq hv, tlW_eq hv, Bool.eq_iff_iff, beq_iff_eq, beq_iff_eq]
  have es := e s hs
  generalize wN W.a W.b (planActs W.acts p) s = N1 at *
  generalize wN W.a W.b (planActs W.acts q) s = N2 at *
  constructor
  · intro hh
    rw [hh] at t
    refine Int.eq_of_mul_eq_mul_right (show wD W.a W.b (planActs W.acts p) ≠ 0 by omega) ?_
    rw [← t]; grind
  · intro hh
    rw [hh] at t
    refine Int.eq_of_mul_eq_mul_right (show wD W.a W.b (planActs W.acts q) ≠ 0 by omega) ?_
    rw [t]; grind
theorem sh_best (hV : vWd (shW y W) = true) (hW : vWd W = true) (h : isPlanB W p = true) (ho : Opt W p) (hq : isPlanB (shW y W) q = true) (hoq : Opt (shW y W) q) : firstP (shW y W) q = firstP W p := by
  have hq2 := sh_plan2 hW hq
  rw [opt_first h hq2 ho (sh_opt hV hq2 hoq)]
  unfold firstP
  rw [shW_len]
  refine List.map_congr_left fun s hs => ?_
  have hs : s < W.acts.length := by simpa using hs
  rw [shW_lenAt hs]
  exact firstIx_congr fun i hi => sh_hit hV hq2 hs hi
theorem sh_worth (hV : vWd (shW y W) = true) (h : isPlanB W p = true) {s : Nat} (hs : s < W.acts.length) :
    ((fr (worthF (shW y W) p) s).n * (fr (worthF W p) s).d - (fr (worthF W p) s).n * (fr (worthF (shW y W) p) s).d) * (W.b - W.a) = y * W.b * (fr (worthF W p) s).d * (fr (worthF (shW y W) p) s).d := by
  have hD := (wD_pos (okX_plan h)).1
  have e1 : fr (worthF W p) s = toFr ((wN W.a W.b (planActs W.acts p) s : Rat) / (wD W.a W.b (planActs W.acts p) : Rat)) := by
    unfold worthF
    rw [fracsL_at (by rw [wNs_len, planActs_len]; exact hs), wNs_at (by rw [planActs_len]; exact hs)]
  have e2 : fr (worthF (shW y W) p) s = toFr ((wN W.a W.b (planActs (shW y W).acts p) s : Rat) / (wD W.a W.b (planActs W.acts p) : Rat)) := by
    unfold worthF
    rw [fracsL_at (by rw [wNs_len, planActs_len, shW_len]; exact hs), wNs_at (by rw [planActs_len, shW_len]; exact hs)]
    show toFr (_ / ((wD W.a W.b (planActs (shW y W).acts p) : Int) : Rat)) = _
    rw [sh_wD h]; rfl
  have m1 := frq_mul (a := wN W.a W.b (planActs W.acts p) s) hD
  have m2 := frq_mul (a := wN W.a W.b (planActs (shW y W).acts p) s) hD
  rw [← e1] at m1
  rw [← e2] at m2
  have hN := sh_wN hV h hs
  generalize fr (worthF W p) s = x at *
  generalize fr (worthF (shW y W) p) s = z at *
  generalize wD W.a W.b (planActs W.acts p) = D at *
  generalize wN W.a W.b (planActs W.acts p) s = N at *
  generalize wN W.a W.b (planActs (shW y W).acts p) s = N' at *
  refine Int.eq_of_mul_eq_mul_right (a := D) (by omega) ?_
  have e3 : (z.n * x.d - x.n * z.d) * (W.b - W.a) * D = ((z.n * D) * x.d - (x.n * D) * z.d) * (W.b - W.a) := by grind
  rw [e3, m1, m2]
  have e4 : (N' * z.d * x.d - N * x.d * z.d) * (W.b - W.a) = (N' * (W.b - W.a) - N * (W.b - W.a)) * (x.d * z.d) := by grind
  rw [e4, hN]
  grind
theorem sh_low (hV : vWd (shW y W) = true) (h : isPlanB W p = true) {s : Nat} (hs : s < W.acts.length) : FrLow (fr (worthF (shW y W) p) s) := worth_low (sh_plan hV h) (by rw [shW_len]; exact hs)
end
end Go.Proofs.Ytcmakddnjmeklaa
