/- Chapter 9: StemsPrices's walk. -/
import Derived.Test.YtcmakddnjmeklaaWr
namespace Go.Proofs.Ytcmakddnjmeklaa
open Go.RowKit
set_option linter.unusedSimpArgs false

theorem take7 {l : List Int} {n : Nat} (h : (l.take 7).length = n) (hn : n ≤ 4) : l.take 7 = l := by
  rw [List.length_take] at h
  exact List.take_of_length_le (by omega)
theorem tdiv_bd (p q : Int) : (p.tdiv q).natAbs ≤ p.natAbs := by
  rw [Int.natAbs_tdiv]; exact Nat.div_le_self _ _
theorem worth_small {W : Wd} {p : List Int} (h : isPlanB W p = true) {s : Nat} (hs : s < W.acts.length) : 1 ≤ (fr (worthF W p) s).d ∧ (fr (worthF W p) s).d ≤ 5308416 ∧ -4294967296 ≤ (fr (worthF W p) s).n ∧ (fr (worthF W p) s).n ≤ 4294967296 := by
  have h1 := worth_low h hs
  have h2 := Int.le_of_dvd (wD_pos (okX_plan h)).1 (worth_dvd h hs)
  have h3 := (wD_pos (okX_plan h)).2
  exact ⟨h1.1, by omega, h1.2.2.1, h1.2.2.2.1⟩
set_option maxRecDepth 100000 in
set_option maxHeartbeats 8000000 in
theorem lpri_walk (w : World) (x : Option Addr) (n c : Nat) (W : Wd) (hA : A2Sl w x n c W.acts) (y : Option Addr) (m d : Nat) (p : List Int) (hp : Sl w y m d p) (_hpb : ∀ z ∈ p, -9223372036854775808 ≤ z ∧ z ≤ 9223372036854775807)
    (yn : Option Addr) (mn dn : Nat) (nu : List Int) (hnu : Sl w yn mn dn nu) (_hnb : ∀ z ∈ nu, -9223372036854775808 ≤ z ∧ z ≤ 9223372036854775807) (dv : Int) (_hd1 : -9223372036854775808 ≤ dv) (_hd2 : dv ≤ 9223372036854775807) :
    Calls Try.prog 7 #[wv W.a W.b x n c, .slice y m d, .slice yn mn dn, .int .i64 dv] w fun e w' => e = .returned (.bool true) ∧ Below w.heap.size w w' := by
  have hb0 := bal (Below.refl w.heap.size w) (.cells #[.int .i64 W.a, .int .i64 W.b, .slice x n c] 25)
  have HZ := Lib.hid (boxR_new w W.a W.b x n c)
  have HA := Lib.hid (hA.mono hb0)
  have HB0 := Lib.hid hb0
  have HB := Lib.hid (Bel.refl (w.alloc (.cells #[.int .i64 W.a, .int .i64 W.b, .slice x n c] 25)))
  have HNA := Lib.hid hA.1
  have hcn := hA.2.cap
  have HP := Lib.hid (hp.mono hb0)
  have HNU := Lib.hid (hnu.mono hb0)
  have hcm := hp.cap
  have hcu := hnu.cap
  unfold maxLen at hcn hcm hcu
  clear hA hp hnu hb0
  cases hv : vWd W with
  | false =>
    have HV := Lib.hid hv
    clear hv
    go_enter Try.func7, Try.ntmps7
    go_wp2_with fail
    refine (of_any _ x n c W HA.out).mono ?_
    rintro e w1 ⟨x2, n2, c2, rfl, hs, hb⟩
    replace HZ := Lib.hid (HZ.out.mono hb)
    replace HA := Lib.hid (HA.out.mono hb)
    replace HB := Lib.hid (HB.out.mono hb)
    have HS := Lib.hid hs
    clear hb
    obtain ⟨z0, z1, z2, z3⟩ := HZ.out.cells
    go_wp2_with fail
    refine (bound_bad _ x2 n2 c2 W HS.out HV.out).mono ?_
    rintro e w2 ⟨a2, d2, rfl, hb⟩
    replace HZ := Lib.hid (HZ.out.mono hb)
    replace HA := Lib.hid (HA.out.mono hb)
    replace HB := Lib.hid (HB.out.mono hb)
    replace HS := Lib.hid (HS.out.mono hb)
    clear z0 z1 z2 z3
    clear hb
    obtain ⟨z0, z1, z2, z3⟩ := HZ.out.cells
    go_wp2_with fail
    refine (awake_go _).mono ?_
    rintro e w3 ⟨rfl, hb⟩
    replace HZ := Lib.hid (HZ.out.mono hb)
    replace HA := Lib.hid (HA.out.mono hb)
    replace HB := Lib.hid (HB.out.mono hb)
    replace HS := Lib.hid (HS.out.mono hb)
    clear z0 z1 z2 z3
    clear hb
    obtain ⟨z0, z1, z2, z3⟩ := HZ.out.cells
    go_wp2
    go_ret
    exact ⟨rfl, btr HB0.out HB.out⟩
  | true =>
    obtain ⟨⟨hn1, hn4, _⟩, _⟩ := vWd_parts hv
    rw [HNA.out] at hn1 hn4
    have HV := Lib.hid hv
    clear hv
    go_enter Try.func7, Try.ntmps7
    go_wp2_with fail
    refine (of_ok _ x n c W HA.out HV.out).mono ?_
    rintro e w1 ⟨x2, c2, rfl, hs, hb⟩
    replace HZ := Lib.hid (HZ.out.mono hb)
    replace HA := Lib.hid (HA.out.mono hb)
    replace HB := Lib.hid (HB.out.mono hb)
    replace HP := Lib.hid (HP.out.mono hb)
    replace HNU := Lib.hid (HNU.out.mono hb)
    have HS := Lib.hid hs
    clear hb
    obtain ⟨z0, z1, z2, z3⟩ := HZ.out.cells
    go_wp2_with fail
    refine (bound_ok _ x2 n c2 W HS.out HV.out).mono ?_
    rintro e w2 ⟨po, hpo, hop, fa, fc, rfl, hF, hb⟩
    replace HZ := Lib.hid (HZ.out.mono hb)
    replace HA := Lib.hid (HA.out.mono hb)
    replace HB := Lib.hid (HB.out.mono hb)
    replace HP := Lib.hid (HP.out.mono hb)
    replace HNU := Lib.hid (HNU.out.mono hb)
    replace HS := Lib.hid (HS.out.mono hb)
    have HF := Lib.hid hF
    have HPO := Lib.hid hpo
    have HOP := Lib.hid hop
    have hD := wD_pos (okX_plan hpo)
    clear hpo hop
    clear z0 z1 z2 z3
    clear hb
    obtain ⟨z0, z1, z2, z3⟩ := HZ.out.cells
    go_wp2_with fail
    refine (rvalid_go _ x n c W HA.out).mono ?_
    rintro e w3 ⟨rfl, hb⟩
    replace HZ := Lib.hid (HZ.out.mono hb)
    replace HA := Lib.hid (HA.out.mono hb)
    replace HB := Lib.hid (HB.out.mono hb)
    replace HP := Lib.hid (HP.out.mono hb)
    replace HNU := Lib.hid (HNU.out.mono hb)
    replace HS := Lib.hid (HS.out.mono hb)
    replace HF := Lib.hid (HF.out.mono hb)
    rw [HV.out]
    clear z0 z1 z2 z3
    clear hb
    obtain ⟨z0, z1, z2, z3⟩ := HZ.out.cells
    go_wp2_with fail
    refine (lowest_ok _ fa n fc W po HF.out HPO.out).mono ?_
    rintro e w4 ⟨rfl, hb⟩
    replace HZ := Lib.hid (HZ.out.mono hb)
    replace HA := Lib.hid (HA.out.mono hb)
    replace HB := Lib.hid (HB.out.mono hb)
    replace HP := Lib.hid (HP.out.mono hb)
    replace HNU := Lib.hid (HNU.out.mono hb)
    replace HS := Lib.hid (HS.out.mono hb)
    replace HF := Lib.hid (HF.out.mono hb)
    clear z0 z1 z2 z3
    clear hb
    obtain ⟨z0, z1, z2, z3⟩ := HZ.out.cells
    go_wp2_with fail
    refine (whole_go _ fa n fc _ (wD W.a W.b (planActs W.acts po)) HF.out (by omega) hD.1 (by omega) (fun i hi => worth_low HPO.out (by have := HNA.out; omega)) (fun i hi => worth_dvd HPO.out (by have := HNA.out; omega))).mono ?_
    rintro e w5 ⟨la, ln, lc, l, dd, rfl, hW7, hs7, hb⟩
    replace HZ := Lib.hid (HZ.out.mono hb)
    replace HA := Lib.hid (HA.out.mono hb)
    replace HB := Lib.hid (HB.out.mono hb)
    replace HP := Lib.hid (HP.out.mono hb)
    replace HNU := Lib.hid (HNU.out.mono hb)
    replace HS := Lib.hid (HS.out.mono hb)
    replace HF := Lib.hid (HF.out.mono hb)
    have HL := Lib.hid hs7
    have hn7 : ln = n := by rw [← hs7.len, hW7.2.2.1, worthF_len]; exact HNA.out
    subst hn7
    have HCK := Lib.hid (chk_bound HPO.out HOP.out hW7)
    have HLE := Lib.hid (fun s hs => chk_less HPO.out hW7 (s := s) hs)
    have HLB := Lib.hid (fun s hs => whole_36 HPO.out hW7 (s := s) hs)
    have HLN := Lib.hid (show l.length = W.acts.length by rw [hW7.2.2.1, worthF_len])
    clear hW7 hs7 hD
    clear z0 z1 z2 z3
    clear hb
    obtain ⟨z0, z1, z2, z3⟩ := HZ.out.cells
    go_wp2_with fail
    refine (of_ok _ x ln c W HA.out HV.out).mono ?_
    rintro e w6 ⟨x3, c3, rfl, hs3, hb⟩
    replace HZ := Lib.hid (HZ.out.mono hb)
    replace HA := Lib.hid (HA.out.mono hb)
    replace HB := Lib.hid (HB.out.mono hb)
    replace HP := Lib.hid (HP.out.mono hb)
    replace HNU := Lib.hid (HNU.out.mono hb)
    replace HS := Lib.hid (HS.out.mono hb)
    replace HF := Lib.hid (HF.out.mono hb)
    replace HL := Lib.hid (HL.out.mono hb)
    have HS3 := Lib.hid hs3
    clear z0 z1 z2 z3
    clear hb
    obtain ⟨z0, z1, z2, z3⟩ := HZ.out.cells
    go_wp2_with fail
    refine (clone_ok _ la ln lc l HL.out (by omega)).mono ?_
    rintro e w7 ⟨ra, rc, rfl, hr, hb⟩
    replace HZ := Lib.hid (HZ.out.mono hb)
    replace HA := Lib.hid (HA.out.mono hb)
    replace HB := Lib.hid (HB.out.mono hb)
    replace HP := Lib.hid (HP.out.mono hb)
    replace HNU := Lib.hid (HNU.out.mono hb)
    replace HS := Lib.hid (HS.out.mono hb)
    replace HF := Lib.hid (HF.out.mono hb)
    replace HL := Lib.hid (HL.out.mono hb)
    replace HS3 := Lib.hid (HS3.out.mono hb)
    have HR := Lib.hid hr
    clear z0 z1 z2 z3
    clear hb
    obtain ⟨z0, z1, z2, z3⟩ := HZ.out.cells
    go_wp2_with fail
    refine (check_go _ x3 ra ln c3 ln rc W l dd HS3.out HR.out HV.out).mono ?_
    rintro e w8 ⟨rfl, hb⟩
    replace HZ := Lib.hid (HZ.out.mono hb)
    replace HA := Lib.hid (HA.out.mono hb)
    replace HB := Lib.hid (HB.out.mono hb)
    replace HP := Lib.hid (HP.out.mono hb)
    replace HNU := Lib.hid (HNU.out.mono hb)
    replace HS := Lib.hid (HS.out.mono hb)
    replace HF := Lib.hid (HF.out.mono hb)
    replace HL := Lib.hid (HL.out.mono hb)
    replace HS3 := Lib.hid (HS3.out.mono hb)
    replace HR := Lib.hid (HR.out.mono hb)
    rw [HCK.out]
    clear z0 z1 z2 z3
    clear hb
    obtain ⟨z0, z1, z2, z3⟩ := HZ.out.cells
    clear HS HS3 HR HF z0 z1 z2 z3
    have hcl := HL.out.cap
    unfold maxLen at hcl
    go_wp2
    go_loopw [82] (fun t wr => ∃ s : Nat, s ≤ ln ∧ t = .int .i64 s ∧ Hid (Below w8.heap.size w8 wr)) (fun t _ => ln - (intOf t).toNat)
    case atStart => exact ⟨0, by omega, rfl, Lib.hid (Below.refl _ _)⟩
    case round =>
      obtain ⟨s, hs, rfl, HC⟩ := hrel
      by_cases hl : s < ln
      · have hsA : s < W.acts.length := by rw [HNA.out]; exact hl
        have h36 := HLB.out s hsA
        have HLS := Lib.hid (HLE.out s hsA)
        have HZ2 := Lib.hid (HZ.out.mono HC.out)
        have HA2 := Lib.hid (HA.out.mono HC.out)
        have HDD := Lib.hid (Bel.mono (Bel.refl w8) HC.out)
        go_wp2_with fail
        refine (clone_go _ la ln lc l (HL.out.mono HC.out) (by omega)).mono ?_
        rintro e w30 ⟨ca, cn, cc, rfl, ho, hb⟩
        have hcn2 : cn = ln := by rw [← (own_sl ho).len, HLN.out]; exact HNA.out
        subst hcn2
        obtain ⟨g, rfl, _⟩ := own_cells ho (by omega)
        obtain ⟨g1, g2, g3, g4, g5, g6, cur, g7⟩ := own_at ho (by omega)
        have g3s := g3 s hl
        have g4s := g4 s
        unfold maxLen at g6
        have hOS := (ho.stored s (.int .i64 (nth l s - 1))).1
        rw [← List.map_set] at hOS
        have HR2 := Lib.hid (own_sl hOS)
        have HBS := Lib.hid (show Below wr.heap.size wr (w30.setCell ⟨g, s, none⟩ (.int .i64 (nth l s - 1))) from hb.setCell g1 _)
        replace HZ2 := Lib.hid (HZ2.out.mono HBS.out)
        replace HA2 := Lib.hid (HA2.out.mono HBS.out)
        replace HDD := Lib.hid (HDD.out.mono HBS.out)
        obtain ⟨z0, z1, z2, z3⟩ := HZ2.out.cells
        clear g3 g4 g7 hOS ho hb
        have h0 : (0 : Int) ≤ (s : Int) := by omega
        have h1 : (s : Int) < (cn : Int) := by omega
        go_wp2_with fail
        refine (of_ok _ x cn c W HA2.out HV.out).mono ?_
        rintro e w41 ⟨x5, c5, rfl, hs5, hb⟩
        replace HZ2 := Lib.hid (HZ2.out.mono hb)
        replace HA2 := Lib.hid (HA2.out.mono hb)
        replace HDD := Lib.hid (HDD.out.mono hb)
        replace HR2 := Lib.hid (HR2.out.mono hb)
        have HS5 := Lib.hid hs5
        clear z0 z1 z2 z3
        clear hb
        obtain ⟨z0, z1, z2, z3⟩ := HZ2.out.cells
        go_wp2_with fail
        refine (check_go _ x5 (some ⟨g, 0, none⟩) cn c5 cn cc W (l.set s (nth l s - 1)) dd HS5.out HR2.out HV.out).mono ?_
        rintro e w42 ⟨rfl, hb⟩
        replace HZ2 := Lib.hid (HZ2.out.mono hb)
        replace HA2 := Lib.hid (HA2.out.mono hb)
        replace HDD := Lib.hid (HDD.out.mono hb)
        replace HR2 := Lib.hid (HR2.out.mono hb)
        replace HS5 := Lib.hid (HS5.out.mono hb)
        rw [HLS.out]
        clear hb
        go_wp2
        go_roundw
        case rel => go_light; exact ⟨s + 1, by omega, by go_num, HDD⟩
        case measure => simp [intOf]; omega
      · obtain rfl : s = ln := by omega
        have HZ2 := Lib.hid (HZ.out.mono HC.out)
        have HA2 := Lib.hid (HA.out.mono HC.out)
        have HP2 := Lib.hid (HP.out.mono HC.out)
        have HNU2 := Lib.hid (HNU.out.mono HC.out)
        have HD := Lib.hid (Bel.mono HB.out HC.out)
        obtain ⟨z0, z1, z2, z3⟩ := HZ2.out.cells
        go_wp2_with fail
        refine (of_ok _ x s c W HA2.out HV.out).mono ?_
        rintro e w51 ⟨x5, c5, rfl, hs5, hb⟩
        replace HZ2 := Lib.hid (HZ2.out.mono hb)
        replace HA2 := Lib.hid (HA2.out.mono hb)
        replace HD := Lib.hid (HD.out.mono hb)
        replace HP2 := Lib.hid (HP2.out.mono hb)
        replace HNU2 := Lib.hid (HNU2.out.mono hb)
        have HS5 := Lib.hid hs5
        clear z0 z1 z2 z3
        clear hb
        obtain ⟨z0, z1, z2, z3⟩ := HZ2.out.cells
        go_wp2_with fail
        refine (list_go _ yn mn dn nu HNU2.out).mono ?_
        rintro e w52 ⟨ua, un, uc, rfl, ho, hb⟩
        replace HZ2 := Lib.hid (HZ2.out.mono hb)
        replace HA2 := Lib.hid (HA2.out.mono hb)
        replace HD := Lib.hid (HD.out.mono hb)
        replace HP2 := Lib.hid (HP2.out.mono hb)
        replace HNU2 := Lib.hid (HNU2.out.mono hb)
        replace HS5 := Lib.hid (HS5.out.mono hb)
        have HU := Lib.hid (own_sl ho)
        clear ho
        clear z0 z1 z2 z3
        clear hb
        obtain ⟨z0, z1, z2, z3⟩ := HZ2.out.cells
        cases hck : chkB W (nu.take 7) dv with
        | false =>
          have HKK := Lib.hid hck
          clear hck
          go_wp2_with fail
          refine (check_go _ x5 ua s c5 un uc W (nu.take 7) dv HS5.out HU.out HV.out).mono ?_
          rintro e w53 ⟨rfl, hb⟩
          replace HZ2 := Lib.hid (HZ2.out.mono hb)
          replace HA2 := Lib.hid (HA2.out.mono hb)
          replace HD := Lib.hid (HD.out.mono hb)
          replace HP2 := Lib.hid (HP2.out.mono hb)
          replace HNU2 := Lib.hid (HNU2.out.mono hb)
          replace HS5 := Lib.hid (HS5.out.mono hb)
          replace HU := Lib.hid (HU.out.mono hb)
          rw [HKK.out]
          clear z0 z1 z2 z3
          clear hb
          obtain ⟨z0, z1, z2, z3⟩ := HZ2.out.cells
          go_wp2_with fail
          refine (awake_go _).mono ?_
          rintro e w54 ⟨rfl, hb⟩
          replace HZ2 := Lib.hid (HZ2.out.mono hb)
          replace HA2 := Lib.hid (HA2.out.mono hb)
          replace HD := Lib.hid (HD.out.mono hb)
          replace HP2 := Lib.hid (HP2.out.mono hb)
          replace HNU2 := Lib.hid (HNU2.out.mono hb)
          replace HS5 := Lib.hid (HS5.out.mono hb)
          replace HU := Lib.hid (HU.out.mono hb)
          clear hb
          go_wp2
          go_ret
          exact ⟨rfl, btr HB0.out HD.out⟩
        | true =>
          have HKK := Lib.hid hck
          have hhd : chkHead W (nu.take 7) dv := by
            unfold chkB at hck
            rw [Bool.and_eq_true] at hck
            exact of_decide_eq_true hck.1
          have h7 := take7 (l := nu) (n := s) (by rw [hhd.1]; exact HNA.out) (by omega)
          rw [h7] at hhd
          have hms : mn = s := by rw [← HNU2.out.len, hhd.1]; exact HNA.out
          subst hms
          obtain ⟨_, hnb2, hdv1, hdv2⟩ := hhd
          have HNB := Lib.hid hnb2
          have H7 := Lib.hid h7
          clear hck h7 hnb2
          go_wp2_with fail
          refine (check_go _ x5 ua mn c5 un uc W (nu.take 7) dv HS5.out HU.out HV.out).mono ?_
          rintro e w63 ⟨rfl, hb⟩
          replace HZ2 := Lib.hid (HZ2.out.mono hb)
          replace HA2 := Lib.hid (HA2.out.mono hb)
          replace HD := Lib.hid (HD.out.mono hb)
          replace HP2 := Lib.hid (HP2.out.mono hb)
          replace HNU2 := Lib.hid (HNU2.out.mono hb)
          replace HS5 := Lib.hid (HS5.out.mono hb)
          replace HU := Lib.hid (HU.out.mono hb)
          rw [HKK.out]
          rw [H7.out] at HKK
          clear z0 z1 z2 z3
          clear hb
          obtain ⟨z0, z1, z2, z3⟩ := HZ2.out.cells
          go_wp2_with fail
          refine (of_ok _ x mn c W HA2.out HV.out).mono ?_
          rintro e w64 ⟨x6, c6, rfl, hs6, hb⟩
          replace HZ2 := Lib.hid (HZ2.out.mono hb)
          replace HA2 := Lib.hid (HA2.out.mono hb)
          replace HD := Lib.hid (HD.out.mono hb)
          replace HP2 := Lib.hid (HP2.out.mono hb)
          replace HNU2 := Lib.hid (HNU2.out.mono hb)
          replace HS5 := Lib.hid (HS5.out.mono hb)
          replace HU := Lib.hid (HU.out.mono hb)
          have HS6 := Lib.hid hs6
          clear z0 z1 z2 z3
          clear hb
          obtain ⟨z0, z1, z2, z3⟩ := HZ2.out.cells
          cases hok : isPlanB W p with
          | false =>
            have HOK := Lib.hid hok
            clear hok
            go_wp2_with fail
            refine (list_go _ y m d p HP2.out).mono ?_
            rintro e w65 ⟨pa, pn, pc, rfl, ho, hb⟩
            replace HZ2 := Lib.hid (HZ2.out.mono hb)
            replace HA2 := Lib.hid (HA2.out.mono hb)
            replace HD := Lib.hid (HD.out.mono hb)
            replace HP2 := Lib.hid (HP2.out.mono hb)
            replace HNU2 := Lib.hid (HNU2.out.mono hb)
            replace HS5 := Lib.hid (HS5.out.mono hb)
            replace HU := Lib.hid (HU.out.mono hb)
            replace HS6 := Lib.hid (HS6.out.mono hb)
            have HPL := Lib.hid (own_sl ho)
            clear ho
            clear z0 z1 z2 z3
            clear hb
            obtain ⟨z0, z1, z2, z3⟩ := HZ2.out.cells
            go_wp2_with fail
            refine (worthU_no _ x6 pa mn c6 pn pc W (p.take 7) HS6.out HPL.out (by have := isPlan_tr W p; rw [trW_same HV.out] at this; rw [this]; exact HOK.out)).mono ?_
            rintro e w66 ⟨fa2, fn2, fc2, rfl, _, _, hb⟩
            replace HZ2 := Lib.hid (HZ2.out.mono hb)
            replace HA2 := Lib.hid (HA2.out.mono hb)
            replace HD := Lib.hid (HD.out.mono hb)
            replace HP2 := Lib.hid (HP2.out.mono hb)
            replace HNU2 := Lib.hid (HNU2.out.mono hb)
            replace HS5 := Lib.hid (HS5.out.mono hb)
            replace HU := Lib.hid (HU.out.mono hb)
            replace HS6 := Lib.hid (HS6.out.mono hb)
            replace HPL := Lib.hid (HPL.out.mono hb)
            clear z0 z1 z2 z3
            clear hb
            obtain ⟨z0, z1, z2, z3⟩ := HZ2.out.cells
            go_wp2_with fail
            refine (awake_go _).mono ?_
            rintro e w67 ⟨rfl, hb⟩
            replace HZ2 := Lib.hid (HZ2.out.mono hb)
            replace HA2 := Lib.hid (HA2.out.mono hb)
            replace HD := Lib.hid (HD.out.mono hb)
            replace HP2 := Lib.hid (HP2.out.mono hb)
            replace HNU2 := Lib.hid (HNU2.out.mono hb)
            replace HS5 := Lib.hid (HS5.out.mono hb)
            replace HU := Lib.hid (HU.out.mono hb)
            replace HS6 := Lib.hid (HS6.out.mono hb)
            replace HPL := Lib.hid (HPL.out.mono hb)
            clear hb
            go_wp2
            go_ret
            exact ⟨rfl, btr HB0.out HD.out⟩
          | true =>
            have HOK := Lib.hid hok
            have hmm : m = mn := by
              have h1 := (plan_parts hok).2.1
              rw [HNA.out] at h1
              rw [← h1]; exact HP2.out.len.symm
            subst hmm
            clear hok
            go_wp2_with fail
            refine (list_ok _ y m d W p HP2.out HOK.out).mono ?_
            rintro e w75 ⟨pa, pc, rfl, hpl, hb⟩
            replace HZ2 := Lib.hid (HZ2.out.mono hb)
            replace HA2 := Lib.hid (HA2.out.mono hb)
            replace HD := Lib.hid (HD.out.mono hb)
            replace HP2 := Lib.hid (HP2.out.mono hb)
            replace HNU2 := Lib.hid (HNU2.out.mono hb)
            replace HS5 := Lib.hid (HS5.out.mono hb)
            replace HU := Lib.hid (HU.out.mono hb)
            replace HS6 := Lib.hid (HS6.out.mono hb)
            have HPL := Lib.hid hpl
            clear z0 z1 z2 z3
            clear hb
            obtain ⟨z0, z1, z2, z3⟩ := HZ2.out.cells
            go_wp2_with fail
            refine (worth_ok _ x6 pa m c6 m pc W p HS6.out HPL.out HOK.out).mono ?_
            rintro e w76 ⟨ya, yc, rfl, hY, hb⟩
            replace HZ2 := Lib.hid (HZ2.out.mono hb)
            replace HA2 := Lib.hid (HA2.out.mono hb)
            replace HD := Lib.hid (HD.out.mono hb)
            replace HP2 := Lib.hid (HP2.out.mono hb)
            replace HNU2 := Lib.hid (HNU2.out.mono hb)
            replace HS5 := Lib.hid (HS5.out.mono hb)
            replace HU := Lib.hid (HU.out.mono hb)
            replace HS6 := Lib.hid (HS6.out.mono hb)
            replace HPL := Lib.hid (HPL.out.mono hb)
            have HY := Lib.hid hY
            clear z0 z1 z2 z3
            clear hb
            obtain ⟨z0, z1, z2, z3⟩ := HZ2.out.cells
            go_wp2_with fail
            refine (lowest_ok _ ya m yc W p HY.out HOK.out).mono ?_
            rintro e w77 ⟨rfl, hb⟩
            replace HZ2 := Lib.hid (HZ2.out.mono hb)
            replace HA2 := Lib.hid (HA2.out.mono hb)
            replace HD := Lib.hid (HD.out.mono hb)
            replace HP2 := Lib.hid (HP2.out.mono hb)
            replace HNU2 := Lib.hid (HNU2.out.mono hb)
            replace HS5 := Lib.hid (HS5.out.mono hb)
            replace HU := Lib.hid (HU.out.mono hb)
            replace HS6 := Lib.hid (HS6.out.mono hb)
            replace HPL := Lib.hid (HPL.out.mono hb)
            replace HY := Lib.hid (HY.out.mono hb)
            clear hb
            have hcy := HY.out.2.cap
            have hcu2 := HNU2.out.cap
            unfold maxLen at hcy hcu2
            have q1 : ¬ dv < 1 := by omega
            have q0 : (dv == 0) = false := by simp; omega
            clear HS5 HS6 HU HPL z0 z1 z2 z3
            go_wp2
            go_loopw [158] (fun t wr => ∃ s : Nat, s ≤ m ∧ t = .int .i64 s ∧ Hid (Below w77.heap.size w77 wr)) (fun t _ => m - (intOf t).toNat)
            case atStart => exact ⟨0, by omega, rfl, Lib.hid (Below.refl _ _)⟩
            case round =>
              obtain ⟨s, hs, rfl, HE⟩ := hrel
              by_cases hl : s < m
              · have hsA : s < W.acts.length := by rw [HNA.out]; exact hl
                obtain ⟨b1, o1, rfl, hb1, h1⟩ := (HNU2.out.mono HE.out).at (by omega)
                obtain ⟨b2, o2, rfl, hb2, h2⟩ := (HY.out.mono HE.out).at (by omega)
                have p1 := h1 s hl
                obtain ⟨p3, p4⟩ := h2 s hl
                have hge := chk_ge HOK.out HKK.out hsA
                have hsm := worth_small HOK.out hsA
                have hnb := HNB.out (nth nu s) (nth_mem (by rw [HNU2.out.len]; exact hl))
                have i1 : s < yc := by omega
                have i2 : s < dn := by omega
                generalize fr (worthF W p) s = fy at *
                generalize nth nu s = pp at *
                have hqa := tdiv_bd pp dv
                have hqe := Int.mul_tdiv_add_tmod pp dv
                have hqr1 := Int.tmod_lt_of_pos pp (show 0 < dv by omega)
                have hqr2 := Int.lt_tmod_of_pos pp (show 0 < dv by omega)
                have wq1 : IntKind.i64.wrap (pp.tdiv dv) = pp.tdiv dv := wrap_i64j _ (by omega) (by omega)
                have wq2 : IntKind.i64.wrap (pp.tmod dv) = pp.tmod dv := wrap_i64j _ (by omega) (by omega)
                obtain ⟨qa, hQA⟩ : ∃ q, pp.tdiv dv = q := ⟨_, rfl⟩
                obtain ⟨qb, hQB⟩ : ∃ q, pp.tmod dv = q := ⟨_, rfl⟩
                rw [hQA] at hqa hqe wq1
                rw [hQB] at hqe hqr1 hqr2 wq2
                have vq1 : wrap64 qa = qa := (IntWalk.i64_left _).symm.trans wq1
                have vq2 : wrap64 qb = qb := (IntWalk.i64_left _).symm.trans wq2
                obtain ⟨yN, yD⟩ := fy
                simp only at hsm hge p3 p4
                clear h1 h2
                have p3n : ∀ k, (wr.drewN k).cell? ⟨b2, o2 + s * 2, none⟩ = some (.int .i64 yN) := fun _ => p3
                have p4n : ∀ k, (wr.drewN k).cell? ⟨b2, o2 + s * 2 + 1, none⟩ = some (.int .i64 yD) := fun _ => p4
                have p3' : wr.drew.cell? ⟨b2, o2 + s * 2, none⟩ = some (.int .i64 yN) := p3
                have p4' : wr.drew.cell? ⟨b2, o2 + s * 2 + 1, none⟩ = some (.int .i64 yD) := p4
                have p3'' : wr.drew.drew.cell? ⟨b2, o2 + s * 2, none⟩ = some (.int .i64 yN) := p3
                have p4'' : wr.drew.drew.cell? ⟨b2, o2 + s * 2 + 1, none⟩ = some (.int .i64 yD) := p4
                have HQE := Lib.hid hqe
                have HGE := Lib.hid hge
                clear hqe hge
                by_cases hneg : qb < 0
                · have hpl := parts_le (p := pp) (q := dv) (n := yN) (d := yD) (by omega) (by omega) HGE.out (qa - 1) (qb + dv) (by have := HQE.out; grind) (by omega)
                  obtain ⟨A, hA⟩ : ∃ A, qa - 1 = A := ⟨_, rfl⟩
                  obtain ⟨B, hB⟩ : ∃ B, qb + dv = B := ⟨_, rfl⟩
                  rw [hA, hB] at hpl
                  have hm1 := mul_le3 (A := 1000000000001) (B := 5308416) (show -1000000000001 ≤ A by omega) (by omega) (show -5308416 ≤ yD by omega) (by omega) (by omega)
                  have hm2 := mul_le3 (A := 1000000000) (B := 5308416) (show -1000000000 ≤ B by omega) (by omega) (show -5308416 ≤ yD by omega) (by omega) (by omega)
                  have wA : IntKind.i64.wrap (A * yD) = A * yD := wrap_i64j _ (by omega) (by omega)
                  have wB : IntKind.i64.wrap (B * yD) = B * yD := wrap_i64j _ (by omega) (by omega)
                  have wC : IntKind.i64.wrap (yN - A * yD) = yN - A * yD := wrap_i64j _ (by omega) (by omega)
                  obtain ⟨C, hC⟩ : ∃ C, yN - A * yD = C := ⟨_, rfl⟩
                  rw [hC] at hpl wC
                  have vA : wrap64 (A * yD) = A * yD := (IntWalk.i64_left _).symm.trans wA
                  have vB : wrap64 (B * yD) = B * yD := (IntWalk.i64_left _).symm.trans wB
                  have vC : wrap64 (yN - A * yD) = C := by rw [hC]; exact (IntWalk.i64_left _).symm.trans wC
                  obtain ⟨hp1, hp2⟩ := hpl
                  have HCE := Lib.hid hC
                  have wE : IntKind.i64.wrap (qa - 1) = A := by rw [hA]; exact wrap_i64j _ (by omega) (by omega)
                  have wF : IntKind.i64.wrap (qb + dv) = B := by rw [hB]; exact wrap_i64j _ (by omega) (by omega)
                  have vE : wrap64 (qa - 1) = A := (IntWalk.i64_left _).symm.trans wE
                  have vF : wrap64 (qb + dv) = B := (IntWalk.i64_left _).symm.trans wF
                  by_cases hc0 : 0 < C
                  · have hp2 := hp2 hc0
                    have hm3 := mul_le3 (A := 5308416) (B := 1000000000) (show -5308416 ≤ C by omega) (by omega) (show -1000000000 ≤ dv by omega) (by omega) (by omega)
                    have wD' : IntKind.i64.wrap (C * dv) = C * dv := wrap_i64j _ (by omega) (by omega)
                    have vD' : wrap64 (C * dv) = C * dv := (IntWalk.i64_left _).symm.trans wD'
                    have t1 : ¬ yD < C := by omega
                    have t2 : ¬ B * yD < C * dv := by omega
                    clear hm1 hm2 hm3 hp1
                    go_wp2
                    go_quiet (fail)
                    go_wp2
                    go_quiet (fail)
                    go_wp2
                    go_roundw
                    case rel => go_light; exact ⟨s + 1, by omega, by go_num, Lib.hid (btr HE.out (drewN_below (Below.refl _ _)))⟩
                    case measure => simp [intOf]; omega
                  · have t1 : ¬ yD < C := by omega
                    clear hm1 hm2 hp1
                    go_wp2
                    go_quiet (fail)
                    go_wp2
                    go_quiet (fail)
                    go_wp2
                    go_roundw
                    case rel => go_light; exact ⟨s + 1, by omega, by go_num, Lib.hid (btr HE.out (drewN_below (Below.refl _ _)))⟩
                    case measure => simp [intOf]; omega
                · have hpl := parts_le (p := pp) (q := dv) (n := yN) (d := yD) (by omega) (by omega) HGE.out qa qb (by have := HQE.out; grind) (by omega)
                  obtain ⟨A, hA⟩ : ∃ A, qa = A := ⟨_, rfl⟩
                  obtain ⟨B, hB⟩ : ∃ B, qb = B := ⟨_, rfl⟩
                  subst hA hB
                  have hm1 := mul_le3 (A := 1000000000001) (B := 5308416) (show -1000000000001 ≤ qa by omega) (by omega) (show -5308416 ≤ yD by omega) (by omega) (by omega)
                  have hm2 := mul_le3 (A := 1000000000) (B := 5308416) (show -1000000000 ≤ qb by omega) (by omega) (show -5308416 ≤ yD by omega) (by omega) (by omega)
                  have wA : IntKind.i64.wrap (qa * yD) = qa * yD := wrap_i64j _ (by omega) (by omega)
                  have wB : IntKind.i64.wrap (qb * yD) = qb * yD := wrap_i64j _ (by omega) (by omega)
                  have wC : IntKind.i64.wrap (yN - qa * yD) = yN - qa * yD := wrap_i64j _ (by omega) (by omega)
                  obtain ⟨C, hC⟩ : ∃ C, yN - qa * yD = C := ⟨_, rfl⟩
                  rw [hC] at hpl wC
                  have vA : wrap64 (qa * yD) = qa * yD := (IntWalk.i64_left _).symm.trans wA
                  have vB : wrap64 (qb * yD) = qb * yD := (IntWalk.i64_left _).symm.trans wB
                  have vC : wrap64 (yN - qa * yD) = C := by rw [hC]; exact (IntWalk.i64_left _).symm.trans wC
                  obtain ⟨hp1, hp2⟩ := hpl
                  have HCE := Lib.hid hC
                  by_cases hc0 : 0 < C
                  · have hp2 := hp2 hc0
                    have hm3 := mul_le3 (A := 5308416) (B := 1000000000) (show -5308416 ≤ C by omega) (by omega) (show -1000000000 ≤ dv by omega) (by omega) (by omega)
                    have wD' : IntKind.i64.wrap (C * dv) = C * dv := wrap_i64j _ (by omega) (by omega)
                    have vD' : wrap64 (C * dv) = C * dv := (IntWalk.i64_left _).symm.trans wD'
                    have t1 : ¬ yD < C := by omega
                    have t2 : ¬ qb * yD < C * dv := by omega
                    clear hm1 hm2 hm3 hp1
                    go_wp2
                    go_quiet (fail)
                    go_wp2
                    go_quiet (fail)
                    go_wp2
                    go_roundw
                    case rel => go_light; exact ⟨s + 1, by omega, by go_num, Lib.hid (btr HE.out (drewN_below (Below.refl _ _)))⟩
                    case measure => simp [intOf]; omega
                  · have t1 : ¬ yD < C := by omega
                    clear hm1 hm2 hp1
                    go_wp2
                    go_quiet (fail)
                    go_wp2
                    go_quiet (fail)
                    go_wp2
                    go_roundw
                    case rel => go_light; exact ⟨s + 1, by omega, by go_num, Lib.hid (btr HE.out (drewN_below (Below.refl _ _)))⟩
                    case measure => simp [intOf]; omega
              · obtain rfl : s = m := by omega
                go_wp2_with fail
                refine (awake_go _).mono ?_
                rintro e w90 ⟨rfl, hb⟩
                go_wp2
                go_ret
                exact ⟨rfl, btr HB0.out (HD.out.mono (btr HE.out hb))⟩
end Go.Proofs.Ytcmakddnjmeklaa
