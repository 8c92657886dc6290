/- Chapter 9: StemsNear's walk. -/
import Derived.Test.YtcmakddnjmeklaaAk
import Derived.Test.YtcmakddnjmeklaaNp
import Derived.Test.YtcmakddnjmeklaaWe
import Derived.Test.YtcmakddnjmeklaaWr
namespace Go.Proofs.Ytcmakddnjmeklaa
open Go.RowKit
set_option linter.unusedSimpArgs false

theorem after_bad2 (w : World) (x y : Option Addr) (n c m d : Nat) (W : Wd) (p : List Int) (t : Int) (hA : A2Sl w x n c (trW W).acts) (hp : Sl w y m d (p.take 7)) (hok : isPlanB W p = false) :
    Calls Try.prog 38 #[wv W.a W.b x n c, .slice y m d, .int .i64 t] w (GivesNo 2 w) :=
  after_no w x y n c m d t (trW W) (p.take 7) hA hp (.inl (by rw [isPlan_tr]; exact hok))
theorem rem_parts {m d : Int} (hd : 1 ≤ d) (hm : 0 < m) (h : d ∣ m) : ∃ r, m.tdiv d = r ∧ m.tmod d = 0 ∧ 0 < r ∧ r ≤ m := by
  refine ⟨_, rfl, Int.tmod_eq_zero_of_dvd h, ?_, ?_⟩
  · have := Int.tdiv_mul_cancel h
    exact Int.pos_of_mul_pos_left (b := d) (by omega) (by omega)
  · have h1 := Int.tdiv_mul_cancel h
    have h2 : 0 < m.tdiv d := Int.pos_of_mul_pos_left (b := d) (by omega) (by omega)
    have := Int.mul_le_mul_of_nonneg_left hd (Int.le_of_lt h2)
    omega
set_option maxRecDepth 100000 in
set_option maxHeartbeats 16000000 in
theorem lne_walk (w : World) (x : Option Addr) (n c : Nat) (W : Wd) (hA : A2Sl w x n c W.acts) (y : Option Addr) (m d : Nat) (p : List Int) (hp : Sl w y m d p) (_hpb : ∀ z ∈ p, -9223372036854775808 ≤ z ∧ z ≤ 9223372036854775807) (st : Int) (_hd1 : -9223372036854775808 ≤ st) (_hd2 : st ≤ 9223372036854775807) :
    Calls Try.prog 10 #[wv W.a W.b x n c, .slice y m d, .int .i64 st] w fun e w' => e = .returned (.bool true) ∧ Below w.heap.size w w' := by
  have hb0 := bal (Below.refl w.heap.size w) (.cells #[.int .i64 W.a, .int .i64 W.b, .slice x n c] 25)
  have HZ := Lib.hid (boxR_new w W.a W.b x n c)
  have HA := Lib.hid (hA.mono hb0)
  have HB0 := Lib.hid hb0
  have HB := Lib.hid (Bel.refl (w.alloc (.cells #[.int .i64 W.a, .int .i64 W.b, .slice x n c] 25)))
  have HNA := Lib.hid hA.1
  have hcn := hA.2.cap
  have HP := Lib.hid (hp.mono hb0)
  have hcm := hp.cap
  unfold maxLen at hcn hcm
  clear hA hp hb0
  cases hv : isPlanB W p with
  | false =>
    have HV := Lib.hid hv
    clear hv
    go_enter Try.func10, Try.ntmps10
    go_wp2_with fail
    refine (of_any _ x n c W HA.out).mono ?_
    rintro e w1 ⟨x2, n2, c2, rfl, hs, hb⟩
    replace HZ := Lib.hid (HZ.out.mono hb)
    replace HA := Lib.hid (HA.out.mono hb)
    replace HB := Lib.hid (HB.out.mono hb)
    replace HP := Lib.hid (HP.out.mono hb)
    have HS := Lib.hid hs
    clear hb
    obtain ⟨z0, z1, z2, z3⟩ := HZ.out.cells
    go_wp2_with fail
    refine (list_go _ y m d p HP.out).mono ?_
    rintro e w2 ⟨ua, un, uc, rfl, ho, hb⟩
    replace HZ := Lib.hid (HZ.out.mono hb)
    replace HA := Lib.hid (HA.out.mono hb)
    replace HB := Lib.hid (HB.out.mono hb)
    replace HP := Lib.hid (HP.out.mono hb)
    replace HS := Lib.hid (HS.out.mono hb)
    have HU := Lib.hid (own_sl ho)
    clear ho
    clear z0 z1 z2 z3
    clear hb
    obtain ⟨z0, z1, z2, z3⟩ := HZ.out.cells
    go_wp2_with fail
    refine (after_bad2 _ x2 ua n2 c2 un uc W p st HS.out HU.out HV.out).mono ?_
    rintro e w3 ⟨a3, d3, rfl, hb⟩
    replace HZ := Lib.hid (HZ.out.mono hb)
    replace HA := Lib.hid (HA.out.mono hb)
    replace HB := Lib.hid (HB.out.mono hb)
    replace HP := Lib.hid (HP.out.mono hb)
    replace HS := Lib.hid (HS.out.mono hb)
    replace HU := Lib.hid (HU.out.mono hb)
    clear z0 z1 z2 z3
    clear hb
    obtain ⟨z0, z1, z2, z3⟩ := HZ.out.cells
    go_wp2_with fail
    refine (awake_go _).mono ?_
    rintro e w4 ⟨rfl, hb⟩
    replace HZ := Lib.hid (HZ.out.mono hb)
    replace HA := Lib.hid (HA.out.mono hb)
    replace HB := Lib.hid (HB.out.mono hb)
    replace HP := Lib.hid (HP.out.mono hb)
    replace HS := Lib.hid (HS.out.mono hb)
    replace HU := Lib.hid (HU.out.mono hb)
    clear hb
    go_wp2
    go_ret
    exact ⟨rfl, btr HB0.out HB.out⟩
  | true =>
    have HPAI := Lib.hid (fun s (hs : s < W.acts.length) => pa_of hv hs)
    obtain ⟨_, hpl, hpa, ⟨hn1, hn4, ha1, hab, hbb4⟩, _⟩ := plan_parts hv
    rw [HNA.out] at hn1 hn4 hpl hpa
    have hmn : m = n := by have := HP.out.len; omega
    subst hmn
    have HPA := Lib.hid hpa
    have HV := Lib.hid hv
    have HVW := Lib.hid (show vWd W = true from (plan_parts hv).1)
    clear hv hpa
    by_cases hst : st < 0 ∨ 3 < st
    · have HST := Lib.hid hst
      clear hst
      go_enter Try.func10, Try.ntmps10
      go_wp2_with fail
      refine (of_ok _ x m c W HA.out HVW.out).mono ?_
      rintro e w1 ⟨x3, c3, rfl, hs3, hb⟩
      replace HZ := Lib.hid (HZ.out.mono hb)
      replace HA := Lib.hid (HA.out.mono hb)
      replace HB := Lib.hid (HB.out.mono hb)
      replace HP := Lib.hid (HP.out.mono hb)
      have HS3 := Lib.hid hs3
      clear hb
      obtain ⟨z0, z1, z2, z3⟩ := HZ.out.cells
      go_wp2_with fail
      refine (list_ok _ y m d W p HP.out HV.out).mono ?_
      rintro e w2 ⟨ub, ud, rfl, hl2, hb⟩
      replace HZ := Lib.hid (HZ.out.mono hb)
      replace HA := Lib.hid (HA.out.mono hb)
      replace HB := Lib.hid (HB.out.mono hb)
      replace HP := Lib.hid (HP.out.mono hb)
      replace HS3 := Lib.hid (HS3.out.mono hb)
      have HU3 := Lib.hid hl2
      clear z0 z1 z2 z3
      clear hb
      obtain ⟨z0, z1, z2, z3⟩ := HZ.out.cells
      go_wp2_with fail
      refine (after_no _ x3 ub m c3 m ud st W p HS3.out HU3.out (.inr HST.out)).mono ?_
      rintro e w3 ⟨a3, d3, rfl, hb⟩
      replace HZ := Lib.hid (HZ.out.mono hb)
      replace HA := Lib.hid (HA.out.mono hb)
      replace HB := Lib.hid (HB.out.mono hb)
      replace HP := Lib.hid (HP.out.mono hb)
      replace HS3 := Lib.hid (HS3.out.mono hb)
      replace HU3 := Lib.hid (HU3.out.mono hb)
      clear z0 z1 z2 z3
      clear hb
      obtain ⟨z0, z1, z2, z3⟩ := HZ.out.cells
      go_wp2_with fail
      refine (awake_go _).mono ?_
      rintro e w4 ⟨rfl, hb⟩
      replace HZ := Lib.hid (HZ.out.mono hb)
      replace HA := Lib.hid (HA.out.mono hb)
      replace HB := Lib.hid (HB.out.mono hb)
      replace HP := Lib.hid (HP.out.mono hb)
      replace HS3 := Lib.hid (HS3.out.mono hb)
      replace HU3 := Lib.hid (HU3.out.mono hb)
      clear hb
      go_wp2
      go_ret
      exact ⟨rfl, btr HB0.out HB.out⟩
    · obtain ⟨t, ht⟩ : ∃ t : Nat, st = (t : Int) := ⟨st.toNat, by omega⟩
      subst ht
      have ht3 : t ≤ 3 := by omega
      have c1 : decide ((t : Int) < 0) = false := by rw [decide_eq_false]; omega
      have c2 : decide (3 < (t : Int)) = false := by rw [decide_eq_false]; omega
      have k1 : IntKind.i64.wrap (9 * W.b) = 9 * W.b := wrap_i64j _ (by omega) (by omega)
      have k2 : IntKind.i64.wrap (W.b - W.a) = W.b - W.a := wrap_i64j _ (by omega) (by omega)
      clear hst
      go_enter Try.func10, Try.ntmps10
      go_wp2_with fail
      refine (of_ok _ x m c W HA.out HVW.out).mono ?_
      rintro e w1 ⟨x2, cc2, rfl, hs, hb⟩
      replace HZ := Lib.hid (HZ.out.mono hb)
      replace HA := Lib.hid (HA.out.mono hb)
      replace HB := Lib.hid (HB.out.mono hb)
      replace HP := Lib.hid (HP.out.mono hb)
      have HS := Lib.hid hs
      clear hb
      obtain ⟨z0, z1, z2, z3⟩ := HZ.out.cells
      go_wp2_with fail
      refine (list_ok _ y m d W p HP.out HV.out).mono ?_
      rintro e w2 ⟨ua, uc, rfl, hl, hb⟩
      replace HZ := Lib.hid (HZ.out.mono hb)
      replace HA := Lib.hid (HA.out.mono hb)
      replace HB := Lib.hid (HB.out.mono hb)
      replace HP := Lib.hid (HP.out.mono hb)
      replace HS := Lib.hid (HS.out.mono hb)
      have HU := Lib.hid hl
      clear z0 z1 z2 z3
      clear hb
      obtain ⟨z0, z1, z2, z3⟩ := HZ.out.cells
      go_wp2_with fail
      refine (after_go _ x2 ua m cc2 m uc t W p HS.out HU.out HV.out ht3).mono ?_
      rintro e w3 ⟨ga, gc, rfl, hG, hb⟩
      replace HZ := Lib.hid (HZ.out.mono hb)
      replace HA := Lib.hid (HA.out.mono hb)
      replace HB := Lib.hid (HB.out.mono hb)
      replace HP := Lib.hid (HP.out.mono hb)
      replace HS := Lib.hid (HS.out.mono hb)
      replace HU := Lib.hid (HU.out.mono hb)
      have HG := Lib.hid hG
      clear z0 z1 z2 z3
      clear hb
      obtain ⟨z0, z1, z2, z3⟩ := HZ.out.cells
      go_wp2_with fail
      refine (fine_go _ x y m c m d W p HA.out HP.out).mono ?_
      rintro e w4 ⟨rfl, hb⟩
      replace HZ := Lib.hid (HZ.out.mono hb)
      replace HA := Lib.hid (HA.out.mono hb)
      replace HB := Lib.hid (HB.out.mono hb)
      replace HP := Lib.hid (HP.out.mono hb)
      replace HS := Lib.hid (HS.out.mono hb)
      replace HU := Lib.hid (HU.out.mono hb)
      replace HG := Lib.hid (HG.out.mono hb)
      rw [HV.out]
      clear z0 z1 z2 z3
      clear hb
      obtain ⟨z0, z1, z2, z3⟩ := HZ.out.cells
      go_wp2_with fail
      refine (of_ok _ x m c W HA.out HVW.out).mono ?_
      rintro e w5 ⟨x3, c3, rfl, hs3, hb⟩
      replace HZ := Lib.hid (HZ.out.mono hb)
      replace HA := Lib.hid (HA.out.mono hb)
      replace HB := Lib.hid (HB.out.mono hb)
      replace HP := Lib.hid (HP.out.mono hb)
      replace HS := Lib.hid (HS.out.mono hb)
      replace HU := Lib.hid (HU.out.mono hb)
      replace HG := Lib.hid (HG.out.mono hb)
      have HS3 := Lib.hid hs3
      clear z0 z1 z2 z3
      clear hb
      obtain ⟨z0, z1, z2, z3⟩ := HZ.out.cells
      go_wp2_with fail
      refine (list_ok _ y m d W p HP.out HV.out).mono ?_
      rintro e w6 ⟨ub, ud, rfl, hl2, hb⟩
      replace HZ := Lib.hid (HZ.out.mono hb)
      replace HA := Lib.hid (HA.out.mono hb)
      replace HB := Lib.hid (HB.out.mono hb)
      replace HP := Lib.hid (HP.out.mono hb)
      replace HS := Lib.hid (HS.out.mono hb)
      replace HU := Lib.hid (HU.out.mono hb)
      replace HG := Lib.hid (HG.out.mono hb)
      replace HS3 := Lib.hid (HS3.out.mono hb)
      have HU3 := Lib.hid hl2
      clear z0 z1 z2 z3
      clear hb
      obtain ⟨z0, z1, z2, z3⟩ := HZ.out.cells
      go_wp2_with fail
      refine (worth_ok _ x3 ub m c3 m ud W p HS3.out HU3.out HV.out).mono ?_
      rintro e w7 ⟨fa, fc, rfl, hF, hb⟩
      replace HZ := Lib.hid (HZ.out.mono hb)
      replace HA := Lib.hid (HA.out.mono hb)
      replace HB := Lib.hid (HB.out.mono hb)
      replace HP := Lib.hid (HP.out.mono hb)
      replace HS := Lib.hid (HS.out.mono hb)
      replace HU := Lib.hid (HU.out.mono hb)
      replace HG := Lib.hid (HG.out.mono hb)
      replace HS3 := Lib.hid (HS3.out.mono hb)
      replace HU3 := Lib.hid (HU3.out.mono hb)
      have HF := Lib.hid hF
      clear z0 z1 z2 z3
      clear hb
      obtain ⟨z0, z1, z2, z3⟩ := HZ.out.cells
      go_wp2_with fail
      refine (lowest_ok _ fa m fc W p HF.out HV.out).mono ?_
      rintro e w8 ⟨rfl, hb⟩
      replace HZ := Lib.hid (HZ.out.mono hb)
      replace HA := Lib.hid (HA.out.mono hb)
      replace HB := Lib.hid (HB.out.mono hb)
      replace HP := Lib.hid (HP.out.mono hb)
      replace HS := Lib.hid (HS.out.mono hb)
      replace HU := Lib.hid (HU.out.mono hb)
      replace HG := Lib.hid (HG.out.mono hb)
      replace HS3 := Lib.hid (HS3.out.mono hb)
      replace HU3 := Lib.hid (HU3.out.mono hb)
      replace HF := Lib.hid (HF.out.mono hb)
      clear z0 z1 z2 z3
      clear hb
      obtain ⟨z0, z1, z2, z3⟩ := HZ.out.cells
      go_wp2_with fail
      refine (lowest_go _ ga m gc _ HG.out (fun i hi => aft_frlow HV.out ht3 (by have := HNA.out; omega))).mono ?_
      rintro e w9 ⟨rfl, hb⟩
      replace HZ := Lib.hid (HZ.out.mono hb)
      replace HA := Lib.hid (HA.out.mono hb)
      replace HB := Lib.hid (HB.out.mono hb)
      replace HP := Lib.hid (HP.out.mono hb)
      replace HS := Lib.hid (HS.out.mono hb)
      replace HU := Lib.hid (HU.out.mono hb)
      replace HG := Lib.hid (HG.out.mono hb)
      replace HS3 := Lib.hid (HS3.out.mono hb)
      replace HU3 := Lib.hid (HU3.out.mono hb)
      replace HF := Lib.hid (HF.out.mono hb)
      clear z0 z1 z2 z3
      clear hb
      obtain ⟨z0, z1, z2, z3⟩ := HZ.out.cells
      go_wp2
      go_region
      clear z0 z1 z2 z3
      go_wp2
      have HB9 := Lib.hid (btr HB.out ((Below.refl w9.heap.size w9).drew))
      have HZ9 := Lib.hid (HZ.out.mono ((Below.refl w9.heap.size w9).drew))
      have HA9 := Lib.hid (HA.out.mono ((Below.refl w9.heap.size w9).drew))
      have HP9 := Lib.hid (HP.out.mono ((Below.refl w9.heap.size w9).drew))
      have HF9 := Lib.hid (HF.out.mono ((Below.refl w9.heap.size w9).drew))
      have HG9 := Lib.hid (HG.out.mono ((Below.refl w9.heap.size w9).drew))
      clear HZ HA HP HF HG HS HU HS3 HU3 HB
      generalize w9.drew = V at *
      go_loopw [13, 14, 103] (fun v1 v2 t2 wr => ∃ j : Nat, j ≤ t ∧ t2 = .int .i64 j ∧ v1 = .int .i64 (topN W.a W.b j) ∧ v2 = .int .i64 (botN W.a W.b j) ∧ V = wr) (fun _ _ t2 _ => t - (intOf t2).toNat)
      case atStart => exact ⟨0, by omega, rfl, rfl, rfl, rfl⟩
      case round =>
        obtain ⟨j, hj, rfl, rfl, rfl, rfl⟩ := hrel
        by_cases hlj : j < t
        · have hb1 := tb_bd ha1 hab hbb4 (t := j) (by omega)
          have hb2 := tb_bd ha1 hab hbb4 (t := j + 1) (by omega)
          have k3 : IntKind.i64.wrap (topN W.a W.b j * W.a) = topN W.a W.b (j + 1) := wrap_i64j _ (show -9223372036854775808 ≤ topN W.a W.b (j + 1) by omega) (show topN W.a W.b (j + 1) < 9223372036854775808 by omega)
          have k4 : IntKind.i64.wrap (botN W.a W.b j * W.b) = botN W.a W.b (j + 1) := wrap_i64j _ (show -9223372036854775808 ≤ botN W.a W.b (j + 1) by omega) (show botN W.a W.b (j + 1) < 9223372036854775808 by omega)
          clear hb1 hb2
          go_wp2
          go_roundw
          case rel => go_light; exact ⟨j + 1, by omega, by go_num, rfl, rfl, by trivial⟩
          case measure => simp [intOf]; omega
        · obtain rfl : j = t := by omega
          obtain ⟨top, htop⟩ : ∃ z, topN W.a W.b j = z := ⟨_, rfl⟩
          obtain ⟨bot, hbot⟩ : ∃ z, botN W.a W.b j = z := ⟨_, rfl⟩
          have hb1 := tb_bd ha1 hab hbb4 (t := j) ht3
          have HNR := Lib.hid (fun s (hs : s < W.acts.length) => near_int HV.out (t := j) hs)
          rw [htop, hbot] at hb1 HNR
          rw [htop, hbot]
          clear htop hbot
          go_wp2
          go_loopw [114] (fun t2 wr => ∃ s : Nat, s ≤ m ∧ t2 = .int .i64 s ∧ Hid (Below V.heap.size V wr)) (fun t2 _ => m - (intOf t2).toNat)
          case atStart => exact ⟨0, by omega, rfl, Lib.hid (Below.refl _ _)⟩
          case round =>
            obtain ⟨s, hs, rfl, HB⟩ := hrel
            by_cases hl : s < m
            · have hsA : s < W.acts.length := by rw [HNA.out]; exact hl
              obtain ⟨b1, o1, rfl, hb1x, hc1⟩ := (HF9.out.mono HB.out).at (by omega)
              obtain ⟨p1, p2⟩ := hc1 s hl
              obtain ⟨b2, o2, rfl, hb2x, hc2⟩ := (HG9.out.mono HB.out).at (by omega)
              obtain ⟨p3, p4⟩ := hc2 s hl
              have hdp := wD_pos (okX_plan HV.out)
              have bx := ov_bd (wV_ov HV.out hsA) hdp.1
              have bxp := frd_pos (wV W p s)
              have by1 := aft_low HV.out ht3 hsA
              have byp := frd_pos (aftQ W p j s)
              have hnr := HNR.out s hsA
              have HY0 := Lib.hid (show j = 0 → fr (aftF W p j) s = ⟨0, 1⟩ by rintro rfl; rw [aft_zero]; simp [fr, hsA])
              have hXe : fr (worthF W p) s = ⟨(wV W p s).num, ((wV W p s).den : Int)⟩ := wV_fr hsA
              have hYe : fr (aftF W p j) s = ⟨(aftQ W p j s).num, ((aftQ W p j s).den : Int)⟩ := aftF_at hsA
              rw [hXe] at p1 p2 hnr
              rw [hYe] at p3 p4 hnr HY0
              generalize (wV W p s).num = xn at *
              generalize ((wV W p s).den : Int) = xd at *
              generalize (aftQ W p j s).num = yn at *
              generalize ((aftQ W p j s).den : Int) = yd at *
              have p1 : wr.cell? ⟨b1, o1 + s * 2, none⟩ = some (.int .i64 xn) := p1
              have p2 : wr.cell? ⟨b1, o1 + s * 2 + 1, none⟩ = some (.int .i64 xd) := p2
              have p3 : wr.cell? ⟨b2, o2 + s * 2, none⟩ = some (.int .i64 yn) := p3
              have p4 : wr.cell? ⟨b2, o2 + s * 2 + 1, none⟩ = some (.int .i64 yd) := p4
              have hnr : -(top * xd * yd) ≤ (xn * yd - yn * xd) * bot ∧ (xn * yd - yn * xd) * bot ≤ top * xd * yd := hnr
              have q1 := mul_le3 (A := 200000000) (B := 3981312) (show -200000000 ≤ xn by omega) (by omega) (show -3981312 ≤ yd by omega) (by omega) (by omega)
              have q2 := mul_le3 (A := 700000000) (B := 5308416) (show -700000000 ≤ yn by omega) (by omega) (show -5308416 ≤ xd by omega) (by omega) (by omega)
              have q3 := mul_le3 (A := 972) (B := 5308416) (show -972 ≤ top by omega) (by omega) (show -5308416 ≤ xd by omega) (by omega) (by omega)
              generalize hu1 : xn * yd = u1 at *
              generalize hu2 : yn * xd = u2 at *
              generalize hu3 : top * xd = u3 at *
              have q4 := mul_le3 (A := 5159780352) (B := 3981312) (show -5159780352 ≤ u3 by omega) (by omega) (show -3981312 ≤ yd by omega) (by omega) (by omega)
              generalize hu4 : u3 * yd = u4 at *
              obtain ⟨dd, hdd⟩ : ∃ dd, u1 - u2 = dd := ⟨_, rfl⟩
              rw [hdd] at hnr
              have k5 : IntKind.i64.wrap (xn * yd) = u1 := by rw [hu1]; exact wrap_i64j _ (by omega) (by omega)
              have k6 : IntKind.i64.wrap (yn * xd) = u2 := by rw [hu2]; exact wrap_i64j _ (by omega) (by omega)
              have k7 : IntKind.i64.wrap (u1 - u2) = dd := by rw [hdd]; exact wrap_i64j _ (by omega) (by omega)
              have k8 : IntKind.i64.wrap (-dd) = -dd := wrap_i64j _ (by omega) (by omega)
              have k9 : IntKind.i64.wrap (top * xd) = u3 := by rw [hu3]; exact wrap_i64j _ (by omega) (by omega)
              have k10 : IntKind.i64.wrap (u3 * yd) = u4 := by rw [hu4]; exact wrap_i64j _ (by omega) (by omega)
              have c3 : decide (8388608 < xd) = false := by rw [decide_eq_false]; omega
              have c4 : decide (8388608 < yd) = false := by rw [decide_eq_false]; omega
              have hcf := HF9.out.2.cap
              have hcg := HG9.out.2.cap
              unfold maxLen at hcf hcg
              have hsc : s < fc := by omega
              have hsc2 : s < gc := by omega
              have k11 : IntKind.i64.wrap (-dd * bot) = -dd * bot := wrap_i64j _ (by rw [Int.neg_mul]; omega) (by rw [Int.neg_mul]; omega)
              have k12 : IntKind.i64.wrap (dd * bot) = dd * bot := wrap_i64j _ (by omega) (by omega)
              have c5 : decide (u4 < -dd * bot) = false := by rw [decide_eq_false]; rw [Int.neg_mul]; omega
              have c6 : decide (u4 < dd * bot) = false := by rw [decide_eq_false]; omega
              clear hc1 hc2 bx by1 hXe hYe hu1 hu2 hu3 hu4 hdd q1 q2 q3 q4 hdp
              go_wp2
              go_region
              go_wp2
              go_region
              have HBD := Lib.hid ((HB.out.drew).drew)
              clear p1 p2
              have RX := Lib.hid (show ∃ s2 : Nat, s2 ≤ m ∧ s + 1 = s2 from ⟨s + 1, by omega, rfl⟩)
              by_cases hj0 : j = 0
              · have c7 : ((j : Int) == 0) = true := by rw [hj0]; rfl
                have HYY := Lib.hid (HY0.out hj0)
                have hmx : dd < 0 ∨ ¬ dd < 0 := by omega
                rcases hmx with hmx | hmx
                all_goals
                  go_upto_region 20 with fail
                  obtain ⟨rfl, rfl⟩ : yn = 0 ∧ yd = 1 := by
                    have h := HYY.out
                    injection h with h1 h2
                    exact ⟨h1, h2⟩
                  go_wp2
                  go_roundw
                  all_goals first
                    | (case rel => go_light; exact ⟨s + 1, by omega, by go_num, HBD⟩)
                    | (simp [intOf]; omega)
              · have c7 : ((j : Int) == 0) = false := by rw [beq_eq_false_iff_ne]; omega
                have hmx : dd < 0 ∨ ¬ dd < 0 := by omega
                rcases hmx with hmx | hmx
                all_goals
                  go_wp2
                  go_roundw
                  all_goals first
                    | (case rel => go_light; exact ⟨s + 1, by omega, by go_num, HBD⟩)
                    | (simp [intOf]; omega)
            · obtain rfl : s = m := by omega
              by_cases hj0 : j = 0
              · have c7 : ((j : Int) == 0) = true := by rw [hj0]; rfl
                go_wp2_with fail
                refine (awake_go _).mono ?_
                rintro e w10 ⟨rfl, hb⟩
                go_wp2
                go_ret
                exact ⟨rfl, btr HB0.out (btr HB9.out (btr HB.out hb))⟩
              · have c7 : ((j : Int) == 0) = false := by rw [beq_eq_false_iff_ne]; omega
                obtain ⟨u, hu⟩ : ∃ u, j = u + 1 := ⟨j - 1, by omega⟩
                have HU := Lib.hid hu
                have k3 : IntKind.i64.wrap ((j : Int) - 1) = (u : Int) := by rw [wrap_i64j _ (by omega) (by omega)]; omega
                clear hu
                have HZ := Lib.hid (HZ9.out.mono HB.out)
                have HA := Lib.hid (HA9.out.mono HB.out)
                have HP := Lib.hid (HP9.out.mono HB.out)
                have HG := Lib.hid (HG9.out.mono HB.out)
                have HBB := Lib.hid (show Bel _ wr from btr HB9.out HB.out)
                clear HB HZ9 HA9 HP9 HG9 HF9 HB9 HNR
                obtain ⟨z0, z1, z2, z3⟩ := HZ.out.cells
                go_wp2_with fail
                refine (of_ok _ x s c W HA.out HVW.out).mono ?_
                rintro e w11 ⟨x5, c5a, rfl, hs, hb⟩
                replace HZ := Lib.hid (HZ.out.mono hb)
                replace HA := Lib.hid (HA.out.mono hb)
                replace HBB := Lib.hid (HBB.out.mono hb)
                replace HP := Lib.hid (HP.out.mono hb)
                replace HG := Lib.hid (HG.out.mono hb)
                have HS := Lib.hid hs
                clear z0 z1 z2 z3
                clear hb
                obtain ⟨z0, z1, z2, z3⟩ := HZ.out.cells
                go_wp2_with fail
                refine (list_ok _ y s d W p HP.out HV.out).mono ?_
                rintro e w12 ⟨uz, uzc, rfl, hl, hb⟩
                replace HZ := Lib.hid (HZ.out.mono hb)
                replace HA := Lib.hid (HA.out.mono hb)
                replace HBB := Lib.hid (HBB.out.mono hb)
                replace HP := Lib.hid (HP.out.mono hb)
                replace HG := Lib.hid (HG.out.mono hb)
                replace HS := Lib.hid (HS.out.mono hb)
                have HU5 := Lib.hid hl
                clear z0 z1 z2 z3
                clear hb
                obtain ⟨z0, z1, z2, z3⟩ := HZ.out.cells
                go_wp2_with fail
                refine (after_go _ x5 uz s c5a s uzc u W p HS.out HU5.out HV.out (by have := HU.out; omega)).mono ?_
                rintro e w13 ⟨za, zc, rfl, hz, hb⟩
                replace HZ := Lib.hid (HZ.out.mono hb)
                replace HA := Lib.hid (HA.out.mono hb)
                replace HBB := Lib.hid (HBB.out.mono hb)
                replace HP := Lib.hid (HP.out.mono hb)
                replace HG := Lib.hid (HG.out.mono hb)
                replace HS := Lib.hid (HS.out.mono hb)
                replace HU5 := Lib.hid (HU5.out.mono hb)
                have HZZ := Lib.hid hz
                clear z0 z1 z2 z3
                clear hb
                obtain ⟨z0, z1, z2, z3⟩ := HZ.out.cells
                go_wp2_with fail
                refine (lowest_go _ za s zc _ HZZ.out (fun i hi => aft_frlow HV.out (by have := HU.out; omega) (by have := HNA.out; omega))).mono ?_
                rintro e w14 ⟨rfl, hb⟩
                replace HZ := Lib.hid (HZ.out.mono hb)
                replace HA := Lib.hid (HA.out.mono hb)
                replace HBB := Lib.hid (HBB.out.mono hb)
                replace HP := Lib.hid (HP.out.mono hb)
                replace HG := Lib.hid (HG.out.mono hb)
                replace HS := Lib.hid (HS.out.mono hb)
                replace HU5 := Lib.hid (HU5.out.mono hb)
                replace HZZ := Lib.hid (HZZ.out.mono hb)
                obtain ⟨D, hD0, hD1, hDv⟩ := aft_whole HV.out (t := u) (by have := HU.out; omega)
                clear z0 z1 z2 z3
                clear hb
                obtain ⟨z0, z1, z2, z3⟩ := HZ.out.cells
                go_wp2_with fail
                refine (whole_go _ za s zc _ D HZZ.out (by omega) hD0 (by omega) (fun i hi => aft_frlow HV.out (by have := HU.out; omega) (by have := HNA.out; omega)) (fun i hi => (hDv i (by have := HNA.out; omega)).1)).mono ?_
                rintro e w15 ⟨xl, nl, cl, ln, dv, rfl, hWh, hSl, hb⟩
                replace HZ := Lib.hid (HZ.out.mono hb)
                replace HA := Lib.hid (HA.out.mono hb)
                replace HBB := Lib.hid (HBB.out.mono hb)
                replace HP := Lib.hid (HP.out.mono hb)
                replace HG := Lib.hid (HG.out.mono hb)
                replace HS := Lib.hid (HS.out.mono hb)
                replace HU5 := Lib.hid (HU5.out.mono hb)
                replace HZZ := Lib.hid (HZZ.out.mono hb)
                have HL := Lib.hid hSl
                have hnl : nl = s := by rw [← hSl.len, hWh.2.2.1, aftF_len]; exact HNA.out
                subst hnl
                have HWH := Lib.hid hWh
                have HNB := Lib.hid (aft_nums HV.out (by have := HU.out; omega) hD1 hD0 (fun i hi => (hDv i hi).2) hWh)
                clear z0 z1 z2 z3
                clear hb
                obtain ⟨z0, z1, z2, z3⟩ := HZ.out.cells
                clear hDv hWh hSl z0 z1 z2 z3
                obtain ⟨hdv1, hdv2, _⟩ := HNB.out
                go_wp2
                go_loopw [210] (fun t2 wr => ∃ i : Nat, i ≤ nl ∧ t2 = .int .i64 i ∧ Hid (Below w15.heap.size w15 wr)) (fun t2 _ => nl - (intOf t2).toNat)
                case atStart => exact ⟨0, by omega, rfl, Lib.hid (Below.refl _ _)⟩
                case round =>
                  obtain ⟨i, hi, rfl, HC⟩ := hrel
                  by_cases hli : i < nl
                  · have hiA : i < W.acts.length := by rw [HNA.out]; exact hli
                    obtain ⟨hg, hol, hor, hS, hbS⟩ := HPAI.out i hiA
                    obtain ⟨hp0, hp1⟩ := HPA.out i hli
                    obtain ⟨hstep1, hstep2⟩ := aft_step HV.out (t := u) HWH.out hiA
                    rw [← HU.out] at hstep1 hstep2
                    have hyl := aft_low HV.out ht3 hiA
                    have hyp := frd_pos (aftQ W p j i)
                    have hYe : fr (aftF W p j) i = ⟨(aftQ W p j i).num, ((aftQ W p j i).den : Int)⟩ := aftF_at hiA
                    obtain ⟨t0, ht0⟩ : ∃ t0 : Nat, nth p i = (t0 : Int) := ⟨(nth p i).toNat, by omega⟩
                    have hX : pact W.acts p i = ac (acl W.acts i) t0 := by unfold pact; rw [ht0]; rfl
                    rw [hX] at hg hol hor hS hbS hstep1 hstep2
                    obtain ⟨b3, o3, rfl, hb3, hc3⟩ := (HA.out.mono HC.out).at (by omega)
                    obtain ⟨a2, m2, q2, e2, h2⟩ := hc3 i hli
                    have hl2 := h2.1
                    have htm : t0 < m2 := by omega
                    obtain ⟨b4, o4, rfl, hb4, hc4⟩ := h2.at (by omega)
                    obtain ⟨eg, z, k, q, eo, hSl⟩ := hc4 t0 htm
                    obtain ⟨b5, o5, rfl, hb5, hc5⟩ := (HP.out.mono HC.out).at (by omega)
                    have e5 := hc5 i hli
                    rw [ht0] at e5
                    obtain ⟨b6, o6, rfl, hb6, hc6⟩ := (HG.out.mono HC.out).at (by omega)
                    obtain ⟨p3, p4⟩ := hc6 i hli
                    rw [hYe] at p3 p4 hstep1 hstep2
                    have hcq := h2.2.cap
                    have hcg := HG.out.2.cap
                    unfold maxLen at hcq hcg
                    have hkk : nl = k := by have := hSl.len; have := HNA.out; omega
                    subst hkk
                    obtain ⟨X, hXX⟩ : ∃ X, ac (acl W.acts i) t0 = X := ⟨_, rfl⟩
                    rw [hXX] at eg hSl hg hol hor hS hbS hstep1 hstep2
                    obtain ⟨gg, o⟩ := X
                    have eg : wr.cell? ⟨b4, o4 + t0 * 2, none⟩ = some (.int .i64 gg) := eg
                    have hbS : 1 ≤ W.b * isum o ∧ W.b * isum o ≤ 48 := hbS
                    have hS : 1 ≤ isum o ∧ isum o ≤ 12 := hS
                    have hor : ∀ y ∈ o, 0 ≤ y ∧ y ≤ 3 := hor
                    have hstep1 : ((aftQ W p j i).den : Int) ∣ W.b * isum o * dv := hstep1
                    have hstep2 : (aftQ W p j i).num * (W.b * isum o * dv).tdiv ((aftQ W p j i).den : Int) = tel W.a W.b ⟨gg, o⟩ (nth ln) dv := hstep2
                    have p3 : wr.cell? ⟨b6, o6 + i * 2, none⟩ = some (.int .i64 (aftQ W p j i).num) := p3
                    have p4 : wr.cell? ⟨b6, o6 + i * 2 + 1, none⟩ = some (.int .i64 ((aftQ W p j i).den : Int)) := p4
                    generalize (aftQ W p j i).num = yn at *
                    generalize ((aftQ W p j i).den : Int) = yd at *
                    obtain ⟨T, hT⟩ : ∃ T, tel W.a W.b ⟨gg, o⟩ (nth ln) dv = T := ⟨_, rfl⟩
                    rw [hT] at hstep2
                    have HTT := Lib.hid hT
                    obtain ⟨bs, hbs⟩ : ∃ z, W.b * isum o = z := ⟨_, rfl⟩
                    rw [hbs] at hbS hstep1 hstep2
                    have hmp : 0 < bs * dv := Int.mul_pos (by omega) hdv1
                    have hmm : bs * dv ≤ 48 * 82944 := Int.mul_le_mul hbS.2 hdv2 (by omega) (by omega)
                    obtain ⟨mm, hmmE⟩ : ∃ z, bs * dv = z := ⟨_, rfl⟩
                    rw [hmmE] at hmp hmm hstep1 hstep2
                    obtain ⟨r, hr1, hr2, hr3, hr4⟩ := rem_parts hyp hmp hstep1
                    rw [hr1] at hstep2
                    have hyr := mul_le3 (A := 700000000) (B := 3981312) (show -700000000 ≤ yn by omega) (by omega) (show -3981312 ≤ r by omega) (by omega) (by omega)
                    have k13 : IntKind.i64.wrap (yn * r) = T := by rw [← hstep2]; exact wrap_i64j _ (by omega) (by omega)
                    have k14 : IntKind.i64.wrap (W.b * isum o) = bs := by rw [hbs]; exact wrap_i64j _ (by omega) (by omega)
                    have k15 : IntKind.i64.wrap (bs * dv) = mm := by rw [hmmE]; exact wrap_i64j _ (by omega) (by omega)
                    have k16 : IntKind.i64.wrap r = r := wrap_i64j _ (by omega) (by omega)
                    have k17 : IntKind.i64.wrap (mm.tdiv yd) = r := by rw [hr1]; exact k16
                    have hzr := HZ.out.mono HC.out
                    obtain ⟨z0, z1, z2, z3⟩ := hzr.cells
                    have hyd0 : yd ≠ 0 := by omega
                    have HSL := Lib.hid (show Sl wr z nl q o from hSl)
                    have HLL := Lib.hid (HL.out.mono HC.out)
                    have HOR := Lib.hid hor
                    have hva : vAc nl ⟨gg, o⟩ = true := by have h := vAc_pact HV.out hiA; rw [hX, hXX, HNA.out] at h; exact h
                    have hwa := bal (Below.refl wr.heap.size wr) (.cells #[.int .i64 gg, .slice z nl q] 42)
                    have HBX := Lib.hid (new_at wr (.cells #[.int .i64 gg, .slice z nl q] 42))
                    have HWA := Lib.hid hwa
                    have P3 := Lib.hid p3
                    have P4 := Lib.hid p4
                    clear hc3 hc4 hc5 hc6 h2 hg hol hor hSl hX hXX hbs hmmE hstep1 hstep2 hT hr1 hwa ht0 hYe hyl hl2 hp0 hp1
                    go_wp2_with fail
                    refine (rsum_go _ z nl q o (HSL.out.mono HWA.out) (by omega) HOR.out).mono ?_
                    rintro e w16 ⟨rfl, rfl⟩
                    have HSX := Lib.hid (fun (w' : World) (hb : Below (wr.alloc (.cells #[.int .i64 gg, .slice z nl q] 42)).heap.size (wr.alloc (.cells #[.int .i64 gg, .slice z nl q] 42)) w') =>
                      (show w'.cell? ⟨b6, o6 + i * 2, none⟩ = some (.int .i64 yn) ∧ w'.cell? ⟨b6, o6 + i * 2 + 1, none⟩ = some (.int .i64 yd) ∧ w'.cell? ⟨w.heap.size, 0, none⟩ = some (.int .i64 W.a) ∧ w'.cell? ⟨w.heap.size, 1, none⟩ = some (.int .i64 W.b) ∧ w'.cell? ⟨w.heap.size, 2, none⟩ = some (.slice (some ⟨b3, o3, none⟩) nl c) ∧ w'.cell? ⟨wr.heap.size, 0, none⟩ = some (.int .i64 gg) ∧ w'.cell? ⟨wr.heap.size, 1, none⟩ = some (.slice z nl q) from
                        have hh := btr HWA.out hb
                        have q := persist HBX.out hb
                        have qw := (hzr.mono hh).cells
                        ⟨((bcell hh).1 _ _ hb6).trans P3.out, ((bcell hh).1 _ _ hb6).trans P4.out, qw.2.1, qw.2.2.1, qw.2.2.2, by rw [cells_at q]; rfl, by rw [cells_at q]; rfl⟩))
                    have hD : Below (wr.alloc (.cells #[.int .i64 gg, .slice z nl q] 42)).heap.size (wr.alloc (.cells #[.int .i64 gg, .slice z nl q] 42)) (wr.alloc (.cells #[.int .i64 gg, .slice z nl q] 42)).drew := (Below.refl _ _).drew
                    have hiq : i < gc := by omega
                    have hz9 : w.heap.size < wr.heap.size := z0
                    clear z0 z1 z2 z3 p3 p4
                    obtain ⟨r1, r2, r3, r4, r5, r6, r7⟩ := HSX.out _ hD
                    go_wp2
                    go_region_held3 (fun w' => w'.cell? ⟨b6, o6 + i * 2, none⟩ = some (.int .i64 yn) ∧ w'.cell? ⟨b6, o6 + i * 2 + 1, none⟩ = some (.int .i64 yd) ∧ w'.cell? ⟨w.heap.size, 0, none⟩ = some (.int .i64 W.a) ∧ w'.cell? ⟨w.heap.size, 1, none⟩ = some (.int .i64 W.b) ∧ w'.cell? ⟨w.heap.size, 2, none⟩ = some (.slice (some ⟨b3, o3, none⟩) nl c) ∧ w'.cell? ⟨wr.heap.size, 0, none⟩ = some (.int .i64 gg) ∧ w'.cell? ⟨wr.heap.size, 1, none⟩ = some (.slice z nl q))
                      (first | exact HSX.out _ hD | go_keep)
                      (first
                        | ((with_reducible refine (stepped_go _ W.a W.b gg _ z _ _ _ nl q nl _ o ln dv (HSL.out.mono (btr HWA.out hD)) (HLL.out.mono (btr HWA.out hD)) hva (by omega) (Nat.le_refl _) ha1 hab (by omega) HNB.out.2.2 (by omega)).mono ?_); rintro e w' ⟨rfl, hb⟩; rw [HTT.out]; replace hD := btr hD hb; clear hb))
                    have HDD := Lib.hid (btr HC.out (btr HWA.out hD))
                    go_wp2
                    go_roundw
                    all_goals first
                      | (case rel => go_light; exact ⟨i + 1, by omega, by go_num, HDD⟩)
                      | (simp [intOf]; omega)
                  · obtain rfl : i = nl := by omega
                    go_wp2_with fail
                    refine (awake_go _).mono ?_
                    rintro e w17 ⟨rfl, hb⟩
                    go_wp2
                    go_ret
                    exact ⟨rfl, btr HB0.out (btr HBB.out (btr HC.out hb))⟩
end Go.Proofs.Ytcmakddnjmeklaa
