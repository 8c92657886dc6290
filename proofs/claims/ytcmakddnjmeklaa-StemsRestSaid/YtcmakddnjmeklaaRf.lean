/- Chapter 9, the reference: frac, det. -/
import Derived.Test.YtcmakddnjmeklaaWr
namespace Go.Proofs.Ytcmakddnjmeklaa
open Go.RowKit

set_option maxHeartbeats 1000000 in
theorem rfrac_go (w : World) (a b : Int) (ha : -4000000000000000000 ≤ a ∧ a ≤ 4000000000000000000) (hb0 : 0 < b) (hb : b ≤ 4000000000000000000) :
    Calls Try.prog 80 #[.int .i64 a, .int .i64 b] w fun e w' => e = .returned (fv (toFr ((a : Rat) / (b : Rat)))) ∧ Below w.heap.size w w' := by
  have hn := frq_num (a := a) hb0
  have hd := frq_den (a := a) hb0
  have hs := frq_small (a := a) hb0
  have HV := Lib.hid (show fv (toFr ((a : Rat) / (b : Rat))) = .agg #[.int .i64 ((a : Rat) / (b : Rat)).num, .int .i64 (((a : Rat) / (b : Rat)).den : Int)] from rfl)
  have hg0 : (Int.gcd a b : Int) ≠ 0 := by
    have : Int.gcd a b ≠ 0 := fun h => by rw [Int.gcd_eq_zero_iff] at h; omega
    omega
  have hdp : 0 ≤ (((a : Rat) / (b : Rat)).den : Int) := by omega
  generalize ((a : Rat) / (b : Rat)).num = X at *
  generalize (((a : Rat) / (b : Rat)).den : Int) = Y at *
  have w1 : IntKind.i64.wrap X = X := wrap_i64j _ (by omega) (by omega)
  have w2 : IntKind.i64.wrap Y = Y := wrap_i64j _ (by omega) (by omega)
  have q1 : ¬ b < 0 := by omega
  by_cases han : a < 0
  · go_enter Try.func80, Try.ntmps80
    go_wp2
    go_loopw [5, 6] (fun x y wr => ∃ p q : Int, x = .int .i64 p ∧ y = .int .i64 q ∧ Hid (Int.gcd p q = Int.gcd a b) ∧ (0 ≤ p ∧ p ≤ 4000000000000000000) ∧ (0 ≤ q ∧ q ≤ 4000000000000000000) ∧ Hid (∃ m, wr = (w.alloc (.cells #[.int .i64 0, .int .i64 0] 53)).drewN m)) (fun _ y _ => (intOf y).natAbs)
    case atStart => exact ⟨-a, b, rfl, rfl, Lib.hid (by simp), by omega, by omega, Lib.hid ⟨0, rfl⟩⟩
    case round =>
      clear ha
      obtain ⟨p, q, rfl, rfl, HG, hp, hq, HW⟩ := hrel
      by_cases h0 : q = 0
      · subst h0
        have hgp : p = (Int.gcd a b : Int) := by rw [← HG.out, Int.gcd_zero_right]; omega
        obtain ⟨m, rfl⟩ := HW.out
        subst hgp
        clear hp hq HG HW
        generalize (Int.gcd a b : Int) = g at *
        go_wp2
        go_region
        go_wp2
        rw [HV.out]
        exact bodyPost_ret (v := .agg #[.int .i64 X, .int .i64 Y]) (by simp [results, Try.results80, go_sem]) rfl ⟨rfl, below_store (below_store (drewN_below (bal (Below.refl _ _) _)) _) _⟩
      · have t1 : (q != 0) = true := by simpa using h0
        have hb := tmod_lt p q h0
        have hb2 : (p.tmod q).natAbs ≤ p.natAbs := by rw [Int.natAbs_tmod]; exact Nat.mod_le _ _
        have hb3 := Int.tmod_nonneg q hp.1
        have HG2 := Lib.hid (show Int.gcd q (p.tmod q) = Int.gcd a b by rw [gcd_step]; exact HG.out)
        obtain ⟨r, hr⟩ : ∃ r, p.tmod q = r := ⟨_, rfl⟩
        rw [hr] at hb hb2 hb3 HG2
        go_wp2
        go_region
        go_wp2
        go_roundw
        case rel =>
          go_light
          refine ⟨q, r, rfl, by first | rfl | rw [hr], HG2, hq, by omega, Lib.hid ?_⟩
          obtain ⟨m, rfl⟩ := HW.out
          exact ⟨m + 1, rfl⟩
        case measure => go_light; simp [intOf]; omega
  · go_enter Try.func80, Try.ntmps80
    go_wp2
    go_loopw [5, 6] (fun x y wr => ∃ p q : Int, x = .int .i64 p ∧ y = .int .i64 q ∧ Hid (Int.gcd p q = Int.gcd a b) ∧ (0 ≤ p ∧ p ≤ 4000000000000000000) ∧ (0 ≤ q ∧ q ≤ 4000000000000000000) ∧ Hid (∃ m, wr = (w.alloc (.cells #[.int .i64 0, .int .i64 0] 53)).drewN m)) (fun _ y _ => (intOf y).natAbs)
    case atStart => exact ⟨a, b, rfl, rfl, Lib.hid (by simp), by omega, by omega, Lib.hid ⟨0, rfl⟩⟩
    case round =>
      clear ha
      obtain ⟨p, q, rfl, rfl, HG, hp, hq, HW⟩ := hrel
      by_cases h0 : q = 0
      · subst h0
        have hgp : p = (Int.gcd a b : Int) := by rw [← HG.out, Int.gcd_zero_right]; omega
        obtain ⟨m, rfl⟩ := HW.out
        subst hgp
        clear hp hq HG HW
        generalize (Int.gcd a b : Int) = g at *
        go_wp2
        go_region
        go_wp2
        rw [HV.out]
        exact bodyPost_ret (v := .agg #[.int .i64 X, .int .i64 Y]) (by simp [results, Try.results80, go_sem]) rfl ⟨rfl, below_store (below_store (drewN_below (bal (Below.refl _ _) _)) _) _⟩
      · have t1 : (q != 0) = true := by simpa using h0
        have hb := tmod_lt p q h0
        have hb2 : (p.tmod q).natAbs ≤ p.natAbs := by rw [Int.natAbs_tmod]; exact Nat.mod_le _ _
        have hb3 := Int.tmod_nonneg q hp.1
        have HG2 := Lib.hid (show Int.gcd q (p.tmod q) = Int.gcd a b by rw [gcd_step]; exact HG.out)
        obtain ⟨r, hr⟩ : ∃ r, p.tmod q = r := ⟨_, rfl⟩
        rw [hr] at hb hb2 hb3 HG2
        go_wp2
        go_region
        go_wp2
        go_roundw
        case rel =>
          go_light
          refine ⟨q, r, rfl, by first | rfl | rw [hr], HG2, hq, by omega, Lib.hid ?_⟩
          obtain ⟨m, rfl⟩ := HW.out
          exact ⟨m + 1, rfl⟩
        case measure => go_light; simp [intOf]; omega
theorem own_empty (w : World) {base : Nat} (h : base ≤ w.heap.size) : (w.alloc (.cells #[] 3)).ownsRow base 3 1 (.slice (some ⟨w.heap.size, 0, none⟩) 0 0) 0 (([] : List Int).map (Value.int .i64)) :=
  ⟨rfl, .inr ⟨_, 0, #[], rfl, h, new_at w _, Nat.le_refl _, by unfold maxLen; omega, rfl, rfl⟩⟩
set_option maxRecDepth 100000 in
set_option maxHeartbeats 2000000 in
theorem rdet_go (n : Nat) : ∀ (w : World) (x : Option Addr) (c : Nat) (M : List (List Int)), RwSl w x n c M → Sq n M → n ≤ 4 →
    Calls Try.prog 83 #[.slice x n c] w fun e w' => e = .returned (.int .i64 (detL n M)) ∧ Below w.heap.size w w' := by
  induction n with
  | zero =>
    intro w x c M hM _ _
    clear hM
    go_enter Try.func83, Try.ntmps83
    go_wp2_with fail
    go_ret
    exact ⟨rfl, Below.refl _ _⟩
  | succ n ih =>
    intro w x c M hM hS hn
    have HI := Lib.hid ih
    obtain ⟨b, off, rfl, hb, hc⟩ := hM.at (by omega)
    obtain ⟨z, m, q, eo, hR⟩ := hc 0 (by omega)
    have hm : m = n + 1 := by rw [← hR.len]; exact (hS.2 0 (by omega)).1
    subst hm
    have HB := Lib.hid (lapl_bound (f := fun j => detL n (dropRow M 0 j)) (r := rw_ M 0) (D := dB n) (m := n + 1) (by have := dB_pos n; omega) (fun j hj => (hS.2 0 (by omega)).2 j hj) (fun j hj => detL_bound n _ (sq_drop hS hj)))
    have HSQ := Lib.hid (fun j (hj : j < n + 1) => sq_drop hS hj)
    have HROW := Lib.hid (fun j (hj : j < n + 1) => (hS.2 0 (by omega)).2 j hj)
    have HLEN := Lib.hid (fun k (hk : k < n + 1) => (hS.2 k hk).1)
    have HML := Lib.hid hS.1
    have HD := Lib.hid (show detL (n + 1) M = lapl (fun j => detL n (dropRow M 0 j)) (rw_ M 0) (n + 1) from rfl)
    have HDB := Lib.hid (fun M => detL_bound n M)
    have HDN : 1 ≤ dB n ∧ dB n ≤ 1000000000 := by
      have : n = 0 ∨ n = 1 ∨ n = 2 ∨ n = 3 := by omega
      rcases this with rfl | rfl | rfl | rfl <;> decide
    have HM := Lib.hid hM
    have HR := Lib.hid hR
    have hcap := hM.2.cap
    have hcap2 := hR.cap
    unfold maxLen at hcap hcap2
    rw [Nat.add_zero] at eo
    clear ih hM hS hc hR
    obtain ⟨N, hN⟩ : ∃ N, N = n + 1 := ⟨_, rfl⟩
    rw [← hN] at HB HSQ HROW HLEN HML HD HM HR hcap hcap2 eo hn ⊢
    have hN0 : 0 < N := by omega
    have HNN := Lib.hid hN
    have t0 : ((N : Int) == 0) = false := by simp; omega
    clear hN
    obtain ⟨F, hF⟩ : ∃ F : Nat → Int, F = fun j => detL n (dropRow M 0 j) := ⟨_, rfl⟩
    rw [← hF] at HB HD
    have HF := Lib.hid (fun j => congrFun hF j)
    clear hF
    generalize rw_ M 0 = r at *
    go_enter Try.func83, Try.ntmps83
    go_wp2_with fail
    go_loopw [3, 4, 17] (fun s g t wr => ∃ j : Nat, j ≤ N ∧ t = .int .i64 j ∧ s = .int .i64 (lapl F r j) ∧ g = .int .i64 (sgn j) ∧ Below w.heap.size w wr) (fun _ _ t _ => N - (intOf t).toNat)
    case atStart => exact ⟨0, by omega, rfl, rfl, rfl, Below.refl _ _⟩
    case round =>
      obtain ⟨j, hj, rfl, rfl, rfl, hB⟩ := hrel
      by_cases hl : j < N
      · obtain ⟨b2, off2, rfl, hb2, hc2⟩ := (HR.out.mono hB).at (by omega)
        have hcj := hc2 j hl
        have hx := HROW.out j hl
        have hg := sgn_mul j (nth r j) (B := 500) (by omega) (by omega)
        have hLB := HB.out j hj
        have hLB2 := HB.out (j + 1) (by omega)
        have hLS := Lib.hid (show lapl F r (j + 1) = lapl F r j + sgn j * nth r j * F j from rfl)
        have hfb := HDB.out _ (HSQ.out j hl)
        have hFj := HF.out j
        rw [← hFj] at hfb
        have HFJ := Lib.hid hFj
        have hsg := sgn_or j
        have hSS := Lib.hid (sgn_succ j)
        have hbz := Nat.lt_of_lt_of_le hb hB.size
        have hjj : (j : Int) ≤ 4 := by omega
        have hbig : 500 * (j : Int) * dB n ≤ 2000 * 1000000000 := by
          have := Int.mul_le_mul (show 500 * (j : Int) ≤ 2000 by omega) HDN.2 (by omega) (by omega)
          omega
        have h3 := mul_le3 (A := 500) (B := 1000000000) hg.1 hg.2 (show -1000000000 ≤ F j by omega) (by omega) (by omega)
        clear hc2 hLB2
        generalize lapl F r j = s0 at *
        generalize sgn j = g0 at *
        generalize nth r j = x0 at *
        have hg1 : -1 ≤ g0 ∧ g0 ≤ 1 := by omega
        clear hsg hFj
        generalize hp : g0 * x0 = p at *
        generalize F j = f0 at *
        generalize hq : p * f0 = q at *
        have hNc : (N : Int) ≤ (c : Int) := by omega
        have h1N : (1 : Int) ≤ (N : Int) := by omega
        have hlen : (dropRow M 0 j).length = n := (HSQ.out j hl).1
        have HLN := Lib.hid hlen
        have HBB := Lib.hid hB
        clear hB hlen
        by_cases hc1 : c = 1
        · have hN1 : N = 1 := by omega
          have hn0 : n = 0 := by have := HNN.out; omega
          subst hc1
          subst hN1
          subst hn0
          have HSL := Lib.hid (show RwSl wr none 0 0 (dropRow M 0 j) from ⟨HLN.out, Nat.le_refl _, by unfold maxLen; omega, .inl ⟨rfl, rfl, rfl⟩⟩)
          go_wp2
          go_loopw [7, 25] (fun v t w3 => v = .slice none 0 0 ∧ t = .int .i64 0 ∧ w3 = wr) (fun _ _ _ => 0)
          case atStart => exact ⟨rfl, rfl, rfl⟩
          case round =>
            obtain ⟨rfl, rfl, rfl⟩ := hrel
            go_wp2_with fail
            refine (HI.out _ _ _ _ HSL.out (HSQ.out j hl) (by omega)).mono ?_
            rintro e w3 ⟨rfl, hb3⟩
            rw [← HFJ.out]
            have HB3 := Lib.hid (btr HBB.out hb3)
            clear hb3
            go_wp2
            go_roundw
            case rel => go_light; (repeat apply Exists.intro); exact ⟨⟨j + 1, by omega, by go_num, by rw [hLS.out], by rw [hSS.out], HB3.out⟩, rfl⟩
            case measure => go_light; simp [intOf]; omega
        · have hnn : N - 1 = n := by have := HNN.out; omega
          go_wp2
          go_loopw [7, 25] (fun v t wr => ∃ k : Nat, k ≤ n ∧ t = .int .i64 k ∧ Hid (RwOwn wr w.heap.size wr.heap.size v (dropTo M 0 j (k + 1))) ∧ Hid (Below w.heap.size w wr)) (fun _ t _ => n - (intOf t).toNat)
          case atStart => exact ⟨0, by omega, rfl, Lib.hid (by rw [dropTo_miss (by rw [HML.out]; exact hN0)]; exact (RwOwn.nil _ _).wide HBB.out.size), HBB⟩
          case round =>
            obtain ⟨k, hk, rfl, HO, HC⟩ := hrel
            by_cases hlk : k < n
            · obtain ⟨b', off', e1, hb', hc'⟩ := (HM.out.mono HC.out).at (by omega)
              injection e1 with e1
              injection e1 with e2 e3
              subst e2 e3
              obtain ⟨z, m, q, eo', hS⟩ := hc' (k + 1) (by have := HNN.out; omega)
              rw [show off + (k + 1) = off + 1 + k by omega] at eo'
              have hm : m = N := by rw [← hS.len]; exact HLEN.out (k + 1) (by have := HNN.out; omega)
              subst hm
              obtain ⟨b3, off3, rfl, hb3, _⟩ := hS.at (by omega)
              have hcc := hS.cap
              have HT1 := Lib.hid (hS.take j (by omega))
              have HS := Lib.hid hS
              obtain ⟨va, vc, rfl, _⟩ := HO.out.sl
              obtain ⟨E, D, hT⟩ := HO.out
              have HTT := Lib.hid hT
              have hown := hT.1.1
              have hdl : (dropTo M 0 j (k + 1)).length = k := by rw [dropTo_len (by rw [HML.out]; have := HNN.out; omega), if_pos (by omega)]; omega
              rw [hdl] at hown
              have HDL := Lib.hid hdl
              have HHIT := Lib.hid (dropTo_hit (M := M) (i := 0) (j := j) (k := k + 1) (by rw [HML.out]; have := HNN.out; omega) (by omega))
              have hwz := HC.out.size
              have hkc : k < c - 1 := by have := HNN.out; omega
              have hmq : (m : Int) ≤ (q : Int) := by omega
              have hjm : (j : Int) + 1 ≤ (m : Int) := by omega
              have hj0 : (0 : Int) ≤ (j : Int) := by omega
              have hjq : (j : Int) ≤ (q : Int) := by omega
              have hjj2 : (0 : Int) ≤ (j : Int) + 1 := by omega
              have w1 : IntKind.i64.wrap ((j : Int) + 1) = (j : Int) + 1 := wrap_i64j _ (by omega) (by omega)
              have w1t : ((j : Int) + 1).toNat = j + 1 := by omega
              unfold maxLen at hcc
              clear hT hS hc' hdl
              rw [HDL.out]
              have hb0 : Below wr.heap.size wr (wr.alloc (.cells #[] 3)).drew := (bal (Below.refl _ _) _).drew
              have HB0 := Lib.hid hb0
              clear hb0
              by_cases hq : q = j + 1
              · obtain rfl : m = q := by omega
                have HT2 := Lib.hid (show Sl wr (some ⟨b3, off3, none⟩) 0 0 ((rw_ M (k + 1)).drop (j + 1)) by have := HS.out.drop_all; rw [← hq]; exact this)
                have w2 : IntKind.i64.wrap ((j : Int) + 1) = (m : Int) := by rw [wrap_i64j _ (by omega) (by omega)]; omega
                clear w1 w1t
                have HQ := Lib.hid hq
                have hm0 : (0 : Int) ≤ (m : Int) := by omega
                have hjm4 : (j : Int) ≤ (m : Int) := by omega
                have hjq2 : j ≤ m := by omega
                clear hq
                go_wp2
                go_region_law (first
                  | (refine step_app rfl _ _ 26 rfl Try.underlying26 wr.heap.size (.slice (some ⟨wr.heap.size, 0, none⟩) 0 0) 0 [] rfl (own_mono (own_empty wr (Nat.le_refl _)) (Below.refl _ _).drew) _ j _ _ rfl (HT1.out.mono HB0.out) (by omega) HB0.out.size ?_; intro v1 w1' h1 g1; obtain ⟨a1, c1, rfl⟩ := own_form h1; rw [Nat.zero_add] at h1; have hB1 := Lib.hid (HB0.out.grown g1 HB0.out.size (fun i hi => (Nat.le_of_eq (by simpa [Value.ownBlock] using hi)))); have hz1 := hB1.out.size)
                  | (refine step_app rfl _ _ 26 rfl Try.underlying26 wr.heap.size _ j _ rfl h1 _ _ _ _ rfl (HT2.out.mono hB1.out) (by omega) hz1 ?_; intro v2 w2' h2 g2; obtain ⟨a2, c2, rfl⟩ := own_form h2; have hB2 := Lib.hid (hB1.out.grown g2 hz1 (fun i hi => (h1.lt i hi).1)); have hz2 := hB2.out.size)
                  | (refine step_app1 rfl _ _ 90 rfl Try.underlying90 infoSl rfl (by decide) w.heap.size (.slice va k vc) k _ rfl ((own_mono hown hB2.out).alloc _) w2'.heap.size #[.slice a2 _ c2] rfl (new_at _ _) rfl (by simp [Value.oneCell']) (by omega) (by omega) (by simp; omega) ?_; intro v' wn hown' hgrow))
                have hE : w2'.ownsRow wr.heap.size 3 1 (.slice a2 (j) c2) ((rw_ M (k + 1)).take j ++ (rw_ M (k + 1)).drop (j + 1)).length (((rw_ M (k + 1)).take j ++ (rw_ M (k + 1)).drop (j + 1)).map (Value.int .i64)) := by
                  have hl2 := h2.1
                  simp only [List.length_map, Nat.mul_one, List.nil_append] at hl2
                  rw [hl2]; exact h2
                have hN := RwTr.snoc (o := .cells #[.slice a2 (j) c2] 26) HTT.out hwz hB2.out hE (by rw [HDL.out]; exact hown') (by rw [HDL.out]; exact hgrow)
                rw [← HHIT.out] at hN
                have HNN2 := Lib.hid hN
                have HBN := Lib.hid ((bal (btr HC.out hB2.out) (.cells #[.slice a2 (j) c2] 26)).grown hgrow (by simp; omega) (fun j hj => (hown.lt j hj).1))
                clear hN hown' hgrow hE hown h1 g1 h2 g2
                go_wp2
                go_roundw
                case rel => go_light; exact ⟨k + 1, by omega, by go_num, HNN2, HBN⟩
                case measure => simp [intOf]; omega
              · have HT2 := Lib.hid (HS.out.drop_far (k := j + 1) (by omega) (by omega))
                have HQ := Lib.hid hq
                have hjm0 : ((j : Int) + 1) ≤ (q : Int) := by omega
                have hjq2 : j ≤ q := by omega
                have hjm1 : j + 1 ≤ m := by omega
                have hjm2 : j + 1 < q := by omega
                have hjm3 : ¬ q = j + 1 := by omega
                clear hq
                go_wp2
                go_region_law (first
                  | (refine step_app rfl _ _ 26 rfl Try.underlying26 wr.heap.size (.slice (some ⟨wr.heap.size, 0, none⟩) 0 0) 0 [] rfl (own_mono (own_empty wr (Nat.le_refl _)) (Below.refl _ _).drew) _ j _ _ rfl (HT1.out.mono HB0.out) (by omega) HB0.out.size ?_; intro v1 w1' h1 g1; obtain ⟨a1, c1, rfl⟩ := own_form h1; rw [Nat.zero_add] at h1; have hB1 := Lib.hid (HB0.out.grown g1 HB0.out.size (fun i hi => (Nat.le_of_eq (by simpa [Value.ownBlock] using hi)))); have hz1 := hB1.out.size)
                  | (refine step_app rfl _ _ 26 rfl Try.underlying26 wr.heap.size _ j _ rfl h1 _ _ _ _ rfl (HT2.out.mono hB1.out) (by omega) hz1 ?_; intro v2 w2' h2 g2; obtain ⟨a2, c2, rfl⟩ := own_form h2; have hB2 := Lib.hid (hB1.out.grown g2 hz1 (fun i hi => (h1.lt i hi).1)); have hz2 := hB2.out.size)
                  | (refine step_app1 rfl _ _ 90 rfl Try.underlying90 infoSl rfl (by decide) w.heap.size (.slice va k vc) k _ rfl ((own_mono hown hB2.out).alloc _) w2'.heap.size #[.slice a2 _ c2] rfl (new_at _ _) rfl (by simp [Value.oneCell']) (by omega) (by omega) (by simp; omega) ?_; intro v' wn hown' hgrow))
                have hE : w2'.ownsRow wr.heap.size 3 1 (.slice a2 (j + (m - (j + 1))) c2) ((rw_ M (k + 1)).take j ++ (rw_ M (k + 1)).drop (j + 1)).length (((rw_ M (k + 1)).take j ++ (rw_ M (k + 1)).drop (j + 1)).map (Value.int .i64)) := by
                  have hl2 := h2.1
                  simp only [List.length_map, Nat.mul_one, List.nil_append] at hl2
                  rw [hl2]; exact h2
                have hN := RwTr.snoc (o := .cells #[.slice a2 (j + (m - (j + 1))) c2] 26) HTT.out hwz hB2.out hE (by rw [HDL.out]; exact hown') (by rw [HDL.out]; exact hgrow)
                rw [← HHIT.out] at hN
                have HNN2 := Lib.hid hN
                have HBN := Lib.hid ((bal (btr HC.out hB2.out) (.cells #[.slice a2 (j + (m - (j + 1))) c2] 26)).grown hgrow (by simp; omega) (fun j hj => (hown.lt j hj).1))
                clear hN hown' hgrow hE hown h1 g1 h2 g2
                go_wp2
                go_roundw
                case rel => go_light; exact ⟨k + 1, by omega, by go_num, HNN2, HBN⟩
                case measure => simp [intOf]; omega
            · obtain rfl : k = n := by omega
              have hO := HO.out
              rw [show k + 1 = M.length by rw [HML.out]; exact HNN.out.symm, dropTo_end] at hO
              obtain ⟨a3, c3, rfl, hsl⟩ := hO.sl
              rw [HLN.out] at hsl
              have HSL := Lib.hid hsl
              clear hO hsl
              rw [HLN.out]
              go_wp2_with fail
              refine (HI.out _ _ _ _ HSL.out (HSQ.out j hl) (by have := HNN.out; omega)).mono ?_
              rintro e w3 ⟨rfl, hb3⟩
              rw [← HFJ.out]
              have HB3 := Lib.hid (btr HC.out hb3)
              clear hb3
              go_wp2
              go_roundw
              case rel => go_light; first | exact ⟨j + 1, by omega, by go_num, by rw [hLS.out], by rw [hSS.out], HB3.out⟩ | ((repeat apply Exists.intro); exact ⟨⟨j + 1, by omega, by go_num, by rw [hLS.out], by rw [hSS.out], HB3.out⟩, rfl⟩)
              case measure => go_light; simp [intOf]; omega
      · obtain rfl : j = N := by omega
        go_wp2
        go_ret
        rw [HD.out]
        exact ⟨rfl, hB⟩
end Go.Proofs.Ytcmakddnjmeklaa
