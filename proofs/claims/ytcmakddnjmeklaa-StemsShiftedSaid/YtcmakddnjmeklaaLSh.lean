/- Chapter 9: StemsShifted's walk. -/
import Derived.Test.YtcmakddnjmeklaaSb
import Derived.Test.YtcmakddnjmeklaaIe
namespace Go.Proofs.Ytcmakddnjmeklaa
open Go.RowKit
set_option linter.unusedSimpArgs false

theorem freq_nil (w : World) (a b : Option Addr) (c d : Nat) :
    Calls Try.prog 34 #[.slice a 0 c, .slice b 0 d] w fun e w' => e = .returned (.bool true) ∧ ∃ m, w' = w.drewN m := by
  go_enter Try.func34, Try.ntmps34
  go_wp2
  go_loop [13] (fun i => i = .int .i64 0) (fun _ => 0)
  case atStart => rfl
  case round =>
    subst hrel
    go_wp2
    go_ret
    exact ⟨rfl, 0, rfl⟩
theorem BoxW.mono {w w' : World} {p : Nat} {a b : Int} {x : Option Addr} {n c : Nat} (h : BoxW w p a b x n c) (hb : Below w.heap.size w w') : BoxW w' p a b x n c := persist h hb
theorem sh_tr {W : Wd} (y : Int) (h : vWd W = true) : trL (shW y W).acts = (shW y W).acts := by
  obtain ⟨⟨h1, h2, _⟩, hv⟩ := vWd_parts h
  refine acl_ext (by rw [trL_length, shW_len]; omega) fun s hs => ?_
  rw [trL_length, shW_len] at hs
  have hs1 : s < W.acts.length := by omega
  have hv := hv s hs1
  rw [acl_tr (by rw [shW_len]; omega) (by omega)]
  refine ac_ext (by rw [trAcs_length, shW_lenAt hs1]; omega) fun i hi => ?_
  rw [trAcs_length, shW_lenAt hs1] at hi
  rw [ac_tr (by rw [shW_lenAt hs1]; omega) (by omega), shW_ac hs1 (by omega)]
  have h3 := (vAc_at (hv.2.2 i (by omega))).2.2.1
  unfold trAc shAc
  rw [List.take_of_length_le (by show (ac (acl W.acts s) i).o.length ≤ 7; omega)]
theorem worth_shb (w : World) (x y : Option Addr) (n c m d : Nat) (W : Wd) (p : List Int) (g : Int) (hA : A2Sl w x n c (shW g W).acts) (hp : Sl w y m d p) (hok : isPlanB W p = true) (hv : vWd (shW g W) = false) :
    Calls Try.prog 15 #[wv W.a W.b x n c, .slice y m d] w (GivesNo 2 w) :=
  worth_bad w x y n c m d (shW g W) p (by rw [show (trW (shW g W)).acts = trL (shW g W).acts from rfl, sh_tr g (plan_parts hok).1]; exact hA) (by rw [take_plan hok]; exact hp) (by unfold isPlanB; rw [hv]; rfl)
set_option maxRecDepth 100000 in
set_option maxHeartbeats 16000000 in
theorem lsh_walk (w : World) (x : Option Addr) (n c : Nat) (W : Wd) (hA : A2Sl w x n c W.acts) (y : Option Addr) (m d : Nat) (p : List Int) (hp : Sl w y m d p) (_hpb : ∀ z ∈ p, -9223372036854775808 ≤ z ∧ z ≤ 9223372036854775807) (by' : Int) (_hy1 : -9223372036854775808 ≤ by') (_hy2 : by' ≤ 9223372036854775807) (st : Int) (_hd1 : -9223372036854775808 ≤ st) (_hd2 : st ≤ 9223372036854775807) :
    Calls Try.prog 13 #[wv W.a W.b x n c, .slice y m d, .int .i64 by', .int .i64 st] w fun e w' => e = .returned (.bool true) ∧ Below w.heap.size w w' := by
  have hb0 := bal (Below.refl w.heap.size w) (.cells #[.int .i64 W.a, .int .i64 W.b, .slice x n c] 25)
  have HZ := Lib.hid (boxR_new w W.a W.b x n c)
  have HA := Lib.hid (hA.mono hb0)
  have HB0 := Lib.hid hb0
  have HB := Lib.hid (Bel.refl (w.alloc (.cells #[.int .i64 W.a, .int .i64 W.b, .slice x n c] 25)))
  have HNA := Lib.hid hA.1
  have hcn := hA.2.cap
  have HP := Lib.hid (hp.mono hb0)
  have hcm := hp.cap
  unfold maxLen at hcn hcm
  clear hA hp hb0
  cases hs : isPlanB W p with
  | false =>
    have HS0 := Lib.hid hs
    clear hs
    go_enter Try.func13, Try.ntmps13
    go_wp2_with fail
    refine (of_any _ x n c W HA.out).mono ?_
    rintro e w1 ⟨x2, n2, c2, rfl, hs, hb⟩
    replace HZ := Lib.hid (HZ.out.mono hb)
    replace HA := Lib.hid (HA.out.mono hb)
    replace HB := Lib.hid (HB.out.mono hb)
    replace HP := Lib.hid (HP.out.mono hb)
    have HS := Lib.hid hs
    clear hb
    obtain ⟨z0, z1, z2, z3⟩ := HZ.out.cells
    go_wp2_with fail
    refine (list_go _ y m d p HP.out).mono ?_
    rintro e w2 ⟨ua, un, uc, rfl, ho, hb⟩
    replace HZ := Lib.hid (HZ.out.mono hb)
    replace HA := Lib.hid (HA.out.mono hb)
    replace HB := Lib.hid (HB.out.mono hb)
    replace HP := Lib.hid (HP.out.mono hb)
    replace HS := Lib.hid (HS.out.mono hb)
    have HU := Lib.hid (own_sl ho)
    clear ho
    clear z0 z1 z2 z3
    clear hb
    obtain ⟨z0, z1, z2, z3⟩ := HZ.out.cells
    go_wp2_with fail
    refine (worth_bad _ x2 ua n2 c2 un uc W p HS.out HU.out HS0.out).mono ?_
    rintro e w3 ⟨a2, d2, rfl, hb⟩
    replace HZ := Lib.hid (HZ.out.mono hb)
    replace HA := Lib.hid (HA.out.mono hb)
    replace HB := Lib.hid (HB.out.mono hb)
    replace HP := Lib.hid (HP.out.mono hb)
    replace HS := Lib.hid (HS.out.mono hb)
    replace HU := Lib.hid (HU.out.mono hb)
    clear z0 z1 z2 z3
    clear hb
    obtain ⟨z0, z1, z2, z3⟩ := HZ.out.cells
    go_wp2_with fail
    refine (awake_go _).mono ?_
    rintro e w4 ⟨rfl, hb⟩
    replace HZ := Lib.hid (HZ.out.mono hb)
    replace HA := Lib.hid (HA.out.mono hb)
    replace HB := Lib.hid (HB.out.mono hb)
    replace HP := Lib.hid (HP.out.mono hb)
    replace HS := Lib.hid (HS.out.mono hb)
    replace HU := Lib.hid (HU.out.mono hb)
    clear hb
    go_wp2
    go_ret
    exact ⟨rfl, btr HB0.out HB.out⟩
  | true =>
    obtain ⟨hw, hpl, hpa, ⟨hn1, hn4, ha1, hab, hbb4⟩, hvv⟩ := plan_parts hs
    have HLP := Lib.hid (fun s (hs : s < W.acts.length) => (show 1 ≤ (acl W.acts s).length ∧ (acl W.acts s).length ≤ 3 ∧ ∀ i, i < (acl W.acts s).length → -9 ≤ (ac (acl W.acts s) i).g ∧ (ac (acl W.acts s) i).g ≤ 9 from ⟨(hvv s hs).1, (hvv s hs).2.1, fun i hi => ⟨(vAc_at ((hvv s hs).2.2 i hi)).1, (vAc_at ((hvv s hs).2.2 i hi)).2.1⟩⟩))
    have HTR := Lib.hid (show trL W.acts = W.acts from congrArg Wd.acts (trW_same hw))
    rw [HNA.out] at hn1 hn4 hpl hpa
    have hmn : m = n := by have := HP.out.len; omega
    subst hmn
    have HV := Lib.hid hs
    have HVW := Lib.hid hw
    clear hs hw hpa hvv
    by_cases hyy : by' < -18 ∨ 18 < by'
    · rcases (show (decide (by' < -18) = true) ∨ (decide (by' < -18) = false ∧ decide (18 < by') = true) by simp; omega) with hd1 | ⟨hd1, hd2⟩
      · clear hyy
        go_enter Try.func13, Try.ntmps13
        go_wp2_with fail
        refine (of_ok _ x m c W HA.out HVW.out).mono ?_
        rintro e w1 ⟨x2, cc2, rfl, hs, hb⟩
        replace HZ := Lib.hid (HZ.out.mono hb)
        replace HA := Lib.hid (HA.out.mono hb)
        replace HB := Lib.hid (HB.out.mono hb)
        replace HP := Lib.hid (HP.out.mono hb)
        have HS := Lib.hid hs
        clear hb
        obtain ⟨z0, z1, z2, z3⟩ := HZ.out.cells
        go_wp2_with fail
        refine (list_ok _ y m d W p HP.out HV.out).mono ?_
        rintro e w2 ⟨ua, uc, rfl, hl, hb⟩
        replace HZ := Lib.hid (HZ.out.mono hb)
        replace HA := Lib.hid (HA.out.mono hb)
        replace HB := Lib.hid (HB.out.mono hb)
        replace HP := Lib.hid (HP.out.mono hb)
        replace HS := Lib.hid (HS.out.mono hb)
        have HU := Lib.hid hl
        clear z0 z1 z2 z3
        clear hb
        obtain ⟨z0, z1, z2, z3⟩ := HZ.out.cells
        go_wp2_with fail
        refine (worth_ok _ x2 ua m cc2 m uc W p HS.out HU.out HV.out).mono ?_
        rintro e w3 ⟨fa, fc, rfl, hF, hb⟩
        replace HZ := Lib.hid (HZ.out.mono hb)
        replace HA := Lib.hid (HA.out.mono hb)
        replace HB := Lib.hid (HB.out.mono hb)
        replace HP := Lib.hid (HP.out.mono hb)
        replace HS := Lib.hid (HS.out.mono hb)
        replace HU := Lib.hid (HU.out.mono hb)
        have HF := Lib.hid hF
        clear z0 z1 z2 z3
        clear hb
        obtain ⟨z0, z1, z2, z3⟩ := HZ.out.cells
        go_wp2_with fail
        refine (fine_go _ x y m c m d W p HA.out HP.out).mono ?_
        rintro e w4 ⟨rfl, hb⟩
        replace HZ := Lib.hid (HZ.out.mono hb)
        replace HA := Lib.hid (HA.out.mono hb)
        replace HB := Lib.hid (HB.out.mono hb)
        replace HP := Lib.hid (HP.out.mono hb)
        replace HS := Lib.hid (HS.out.mono hb)
        replace HU := Lib.hid (HU.out.mono hb)
        replace HF := Lib.hid (HF.out.mono hb)
        rw [HV.out]
        clear z0 z1 z2 z3
        clear hb
        obtain ⟨z0, z1, z2, z3⟩ := HZ.out.cells
        go_wp2_with fail
        refine (awake_go _).mono ?_
        rintro e w5 ⟨rfl, hb⟩
        replace HZ := Lib.hid (HZ.out.mono hb)
        replace HA := Lib.hid (HA.out.mono hb)
        replace HB := Lib.hid (HB.out.mono hb)
        replace HP := Lib.hid (HP.out.mono hb)
        replace HS := Lib.hid (HS.out.mono hb)
        replace HU := Lib.hid (HU.out.mono hb)
        replace HF := Lib.hid (HF.out.mono hb)
        clear hb
        go_wp2
        go_ret
        exact ⟨rfl, btr HB0.out HB.out⟩
      · clear hyy
        go_enter Try.func13, Try.ntmps13
        go_wp2_with fail
        refine (of_ok _ x m c W HA.out HVW.out).mono ?_
        rintro e w1 ⟨x2, cc2, rfl, hs, hb⟩
        replace HZ := Lib.hid (HZ.out.mono hb)
        replace HA := Lib.hid (HA.out.mono hb)
        replace HB := Lib.hid (HB.out.mono hb)
        replace HP := Lib.hid (HP.out.mono hb)
        have HS := Lib.hid hs
        clear hb
        obtain ⟨z0, z1, z2, z3⟩ := HZ.out.cells
        go_wp2_with fail
        refine (list_ok _ y m d W p HP.out HV.out).mono ?_
        rintro e w2 ⟨ua, uc, rfl, hl, hb⟩
        replace HZ := Lib.hid (HZ.out.mono hb)
        replace HA := Lib.hid (HA.out.mono hb)
        replace HB := Lib.hid (HB.out.mono hb)
        replace HP := Lib.hid (HP.out.mono hb)
        replace HS := Lib.hid (HS.out.mono hb)
        have HU := Lib.hid hl
        clear z0 z1 z2 z3
        clear hb
        obtain ⟨z0, z1, z2, z3⟩ := HZ.out.cells
        go_wp2_with fail
        refine (worth_ok _ x2 ua m cc2 m uc W p HS.out HU.out HV.out).mono ?_
        rintro e w3 ⟨fa, fc, rfl, hF, hb⟩
        replace HZ := Lib.hid (HZ.out.mono hb)
        replace HA := Lib.hid (HA.out.mono hb)
        replace HB := Lib.hid (HB.out.mono hb)
        replace HP := Lib.hid (HP.out.mono hb)
        replace HS := Lib.hid (HS.out.mono hb)
        replace HU := Lib.hid (HU.out.mono hb)
        have HF := Lib.hid hF
        clear z0 z1 z2 z3
        clear hb
        obtain ⟨z0, z1, z2, z3⟩ := HZ.out.cells
        go_wp2_with fail
        refine (fine_go _ x y m c m d W p HA.out HP.out).mono ?_
        rintro e w4 ⟨rfl, hb⟩
        replace HZ := Lib.hid (HZ.out.mono hb)
        replace HA := Lib.hid (HA.out.mono hb)
        replace HB := Lib.hid (HB.out.mono hb)
        replace HP := Lib.hid (HP.out.mono hb)
        replace HS := Lib.hid (HS.out.mono hb)
        replace HU := Lib.hid (HU.out.mono hb)
        replace HF := Lib.hid (HF.out.mono hb)
        rw [HV.out]
        clear z0 z1 z2 z3
        clear hb
        obtain ⟨z0, z1, z2, z3⟩ := HZ.out.cells
        go_wp2_with fail
        refine (awake_go _).mono ?_
        rintro e w5 ⟨rfl, hb⟩
        replace HZ := Lib.hid (HZ.out.mono hb)
        replace HA := Lib.hid (HA.out.mono hb)
        replace HB := Lib.hid (HB.out.mono hb)
        replace HP := Lib.hid (HP.out.mono hb)
        replace HS := Lib.hid (HS.out.mono hb)
        replace HU := Lib.hid (HU.out.mono hb)
        replace HF := Lib.hid (HF.out.mono hb)
        clear hb
        go_wp2
        go_ret
        exact ⟨rfl, btr HB0.out HB.out⟩
    · have hc1 : decide (by' < -18) = false := by rw [decide_eq_false]; omega
      have hc2 : decide (18 < by') = false := by rw [decide_eq_false]; omega
      have hy1 : -18 ≤ by' := by omega
      have hy2 : by' ≤ 18 := by omega
      clear hyy
      go_enter Try.func13, Try.ntmps13
      go_wp2_with fail
      refine (of_ok _ x m c W HA.out HVW.out).mono ?_
      rintro e w1 ⟨x2, cc2, rfl, hs, hb⟩
      replace HZ := Lib.hid (HZ.out.mono hb)
      replace HA := Lib.hid (HA.out.mono hb)
      replace HB := Lib.hid (HB.out.mono hb)
      replace HP := Lib.hid (HP.out.mono hb)
      have HS := Lib.hid hs
      clear hb
      obtain ⟨z0, z1, z2, z3⟩ := HZ.out.cells
      go_wp2_with fail
      refine (list_ok _ y m d W p HP.out HV.out).mono ?_
      rintro e w2 ⟨ua, uc, rfl, hl, hb⟩
      replace HZ := Lib.hid (HZ.out.mono hb)
      replace HA := Lib.hid (HA.out.mono hb)
      replace HB := Lib.hid (HB.out.mono hb)
      replace HP := Lib.hid (HP.out.mono hb)
      replace HS := Lib.hid (HS.out.mono hb)
      have HU := Lib.hid hl
      clear z0 z1 z2 z3
      clear hb
      obtain ⟨z0, z1, z2, z3⟩ := HZ.out.cells
      go_wp2_with fail
      refine (worth_ok _ x2 ua m cc2 m uc W p HS.out HU.out HV.out).mono ?_
      rintro e w3 ⟨fa, fc, rfl, hF, hb⟩
      replace HZ := Lib.hid (HZ.out.mono hb)
      replace HA := Lib.hid (HA.out.mono hb)
      replace HB := Lib.hid (HB.out.mono hb)
      replace HP := Lib.hid (HP.out.mono hb)
      replace HS := Lib.hid (HS.out.mono hb)
      replace HU := Lib.hid (HU.out.mono hb)
      have HF := Lib.hid hF
      clear z0 z1 z2 z3
      clear hb
      obtain ⟨z0, z1, z2, z3⟩ := HZ.out.cells
      go_wp2_with fail
      refine (fine_go _ x y m c m d W p HA.out HP.out).mono ?_
      rintro e w4 ⟨rfl, hb⟩
      replace HZ := Lib.hid (HZ.out.mono hb)
      replace HA := Lib.hid (HA.out.mono hb)
      replace HB := Lib.hid (HB.out.mono hb)
      replace HP := Lib.hid (HP.out.mono hb)
      replace HF := Lib.hid (HF.out.mono hb)
      rw [HV.out]
      clear z0 z1 z2 z3
      clear hb
      obtain ⟨z0, z1, z2, z3⟩ := HZ.out.cells
      clear HS HU
      go_wp2_with fail
      generalize w4 = V at *
      refine (of_go _ x m c W.a W.b W.acts HA.out).mono ?_
      rintro e w5 ⟨x5, n5, c5, rfl, hO, hb⟩
      rw [HTR.out] at hO
      obtain ⟨_, _, e9, hsl⟩ := hO.sl
      injection e9 with e91 e9 e93
      have hn5 : n5 = m := by rw [e9]; exact HNA.out
      subst e91 e93
      clear e9
      subst hn5
      have HBX := Lib.hid (show BoxW (w5.alloc (.cells #[.int .i64 W.a, .int .i64 W.b, .slice x5 n5 c5] 33)) w5.heap.size W.a W.b x5 n5 c5 from new_at w5 _)
      have hbb := bal (Below.refl w5.heap.size w5) (.cells #[.int .i64 W.a, .int .i64 W.b, .slice x5 n5 c5] 33)
      have HOW := Lib.hid (hO.mono hbb)
      have HBV := Lib.hid (btr hb hbb)
      have hc5 := hsl.2.cap
      unfold maxLen at hc5
      have hnc5 := hsl.2.1
      clear hO hb hbb hsl z0 z1 z2 z3
      obtain ⟨p0, p1, p2, p3⟩ := HBX.out.cells
      go_wp2
      clear p0 p1 p2 p3
      go_loopw [66] (fun t2 wr => ∃ s : Nat, s ≤ n5 ∧ t2 = .int .i64 s ∧ Hid (Acts2Own wr V.heap.size w5.heap.size (.slice x5 n5 c5) (shL by' W.acts s 0)) ∧ Hid (BoxW wr w5.heap.size W.a W.b x5 n5 c5) ∧ Hid (Below V.heap.size V wr)) (fun t2 _ => n5 - (intOf t2).toNat)
      case atStart => exact ⟨0, by omega, rfl, by rw [shL_zero]; exact HOW, HBX, HBV⟩
      case round =>
        clear HOW HBX HBV
        obtain ⟨s, hs, rfl, HO, HBX, HBV⟩ := hrel
        by_cases hls : s < n5
        · have hsA : s < W.acts.length := by rw [HNA.out]; exact hls
          obtain ⟨hL1, hL3, hgl⟩ := HLP.out s hsA
          have hlen : ∀ i, (acl (shL by' W.acts s i) s).length = (acl W.acts s).length := fun i => by rw [shL_at hsA, if_neg (by omega), if_pos rfl, shAs_len]
          have HLEN := Lib.hid hlen
          obtain ⟨b1, cc1, g1, cg1, e1, hb1, hcell, hlo, hg1, _, hne, hnc, hcm1, _⟩ := HO.out.gain (s := s) (by rw [shL_len]; exact hsA) (by rw [hlen]; omega)
          rw [hlen] at hcell hnc
          injection e1 with e1 e1n e3
          subst e1 e3
          clear e1n
          unfold maxLen at hcm1
          have HGL := Lib.hid hgl
          obtain ⟨L, hLe⟩ : ∃ L, (acl W.acts s).length = L := ⟨_, rfl⟩
          have HLE := Lib.hid hLe
          rw [hLe] at hcell hnc hL1 hL3
          have HC0 := Lib.hid hcell
          clear hlen hgl hLe
          go_wp2
          clear hcell
          go_loopw [72] (fun t2 wr => ∃ i : Nat, i ≤ L ∧ t2 = .int .i64 i ∧ Hid (Acts2Own wr V.heap.size w5.heap.size (.slice (some ⟨b1, 0, none⟩) n5 c5) (shL by' W.acts s i)) ∧ Hid (wr.cell? ⟨b1, s, none⟩ = some (.slice (some ⟨g1, 0, none⟩) L cg1)) ∧ Hid (BoxW wr w5.heap.size W.a W.b (some ⟨b1, 0, none⟩) n5 c5) ∧ Hid (Below V.heap.size V wr)) (fun t2 _ => L - (intOf t2).toNat)
          case atStart => exact ⟨0, by omega, rfl, HO, HC0, HBX, HBV⟩
          case round =>
            clear HO HC0 HBX HBV
            obtain ⟨i, hi, rfl, HO, HC0, HBX, HBV⟩ := hrel
            by_cases hli : i < L
            · have hiA : i < (acl W.acts s).length := by rw [HLE.out]; exact hli
              obtain ⟨b2, cc2, g2, cg2, e2, hb2, hcell2, hlo2, hg2, hgh2, hne2, hnc2, hcm2, hall⟩ := HO.out.gain (s := s) (by rw [shL_len]; exact hsA) (by rw [HLEN.out]; omega)
              injection e2 with e2 e2n e3
              clear e2n e3
              injection e2 with e2
              injection e2 with e2
              subst e2
              have e4 := HC0.out.symm.trans hcell2
              injection e4 with e4
              injection e4 with e4 e4n e4c
              clear e4n e4c
              injection e4 with e4
              injection e4 with e4
              subst e4
              obtain ⟨q1, q2, q3⟩ := hall i (by rw [HLEN.out]; exact hiA)
              have hgv : (ac (acl (shL by' W.acts s i) s) i).g = (ac (acl W.acts s) i).g := by rw [shL_at hsA, if_neg (by omega), if_pos rfl, shAs_at hiA, if_neg (by omega)]
              rw [hgv] at q1
              have hv9 := HGL.out i hiA
              have HSET := Lib.hid (show Acts2Own _ _ _ _ _ from q3 ((ac (acl W.acts s) i).g + by'))
              rw [← shL_set hsA hiA] at HSET
              generalize (ac (acl W.acts s) i).g = v at *
              have k1 : IntKind.i64.wrap (v + by') = v + by' := wrap_i64j _ (by omega) (by omega)
              have HN1 := Lib.hid (show (wr.setCell ⟨g1, i * 2, none⟩ (.int .i64 (v + by'))).cell? ⟨b1, s, none⟩ = some (.slice (some ⟨g1, 0, none⟩) L cg1) from (World.cell?_setCell_far _ _ _ _ hne2).trans HC0.out)
              have HN2 := Lib.hid (show BoxW (wr.setCell ⟨g1, i * 2, none⟩ (.int .i64 (v + by'))) w5.heap.size W.a W.b (some ⟨b1, 0, none⟩) n5 c5 from (Below.heap_setCell _ _ _ _ (by show w5.heap.size ≠ g1; omega)).trans HBX.out)
              have HN3 := Lib.hid (HBV.out.setCell (p := ⟨g1, i * 2, none⟩) hlo2 (.int .i64 (v + by')))
              clear hall q3 hgv hcell2
              go_wp2
              go_roundw
              case rel => go_light; exact ⟨i + 1, by omega, by go_num, HSET, HN1, HN2, HN3⟩
              case measure => simp [intOf]; omega
            · obtain rfl : i = L := by omega
              have HO2 := Lib.hid (show Acts2Own wr V.heap.size w5.heap.size (.slice (some ⟨b1, 0, none⟩) n5 c5) (shL by' W.acts (s + 1) 0) by rw [← shL_next, HLE.out]; exact HO.out)
              go_wp2
              go_roundw
              case rel => go_light; exact ⟨s + 1, by omega, by go_num, HO2, HBX, HBV⟩
              case measure => simp [intOf]; omega
        · obtain rfl : s = n5 := by omega
          obtain ⟨_, _, e9, hsl⟩ := HO.out.sl
          injection e9 with e91 e9n e93
          subst e91 e93
          clear e9n
          rw [shL_len, HNA.out] at hsl
          have HA2 := Lib.hid (show A2Sl wr _ s _ (shW by' W).acts by unfold shW; rw [HNA.out]; exact hsl)
          clear hsl HO
          replace HZ := Lib.hid (HZ.out.mono HBV.out)
          replace HA := Lib.hid (HA.out.mono HBV.out)
          replace HP := Lib.hid (HP.out.mono HBV.out)
          replace HF := Lib.hid (HF.out.mono HBV.out)
          replace HB := Lib.hid (HB.out.mono HBV.out)
          clear HBV
          have HSX := Lib.hid (fun (w' : World) (hb : Below wr.heap.size wr w') => (show w'.cell? ⟨w5.heap.size, 0, none⟩ = some (.int .i64 W.a) ∧ w'.cell? ⟨w5.heap.size, 1, none⟩ = some (.int .i64 W.b) ∧ w'.cell? ⟨w5.heap.size, 2, none⟩ = some (.slice x5 s c5) from (BoxW.cells (persist HBX.out hb)).2))
          have hC : Below wr.heap.size wr wr.drew := (Below.refl _ _).drew
          obtain ⟨f0, f1, f2⟩ := HSX.out _ (Below.refl _ _)
          cases hv2 : vWd (shW by' W) with
          | false =>
            have HV2 := Lib.hid hv2
            clear hv2
            go_wp2
            go_region_held3 (fun w' => w'.cell? ⟨w5.heap.size, 0, none⟩ = some (.int .i64 W.a) ∧ w'.cell? ⟨w5.heap.size, 1, none⟩ = some (.int .i64 W.b) ∧ w'.cell? ⟨w5.heap.size, 2, none⟩ = some (.slice x5 s c5))
              (first | exact HSX.out _ hC | go_keep)
              (first
                | (go_at_call 17; refine (list_ok _ y s d W p (HP.out.mono hC) HV.out).mono ?_; rintro e w' ⟨ua, uc, rfl, hl, hb⟩; have HU := Lib.hid hl; replace hC := btr hC hb; clear hl hb)
                | (go_at_call 15; refine (worth_shb _ x5 ua s c5 s uc W p by' (HA2.out.mono hC) HU.out HV.out HV2.out).mono ?_; rintro e w' ⟨ga, gc, rfl, hb⟩; replace hC := btr hC hb; clear hb))
            go_wp2_with fail
            refine (awake_go _).mono ?_
            rintro e w9 ⟨rfl, hb⟩
            go_wp2
            go_ret
            exact ⟨rfl, btr HB0.out (btr (btr HB.out hC) hb)⟩
          | true =>
            have HV2 := Lib.hid hv2
            clear hv2
            go_wp2
            go_region_held3 (fun w' => w'.cell? ⟨w5.heap.size, 0, none⟩ = some (.int .i64 W.a) ∧ w'.cell? ⟨w5.heap.size, 1, none⟩ = some (.int .i64 W.b) ∧ w'.cell? ⟨w5.heap.size, 2, none⟩ = some (.slice x5 s c5))
              (first | exact HSX.out _ hC | go_keep)
              (first
                | (go_at_call 17; refine (list_ok _ y s d W p (HP.out.mono hC) HV.out).mono ?_; rintro e w' ⟨ua, uc, rfl, hl, hb⟩; have HU := Lib.hid hl; replace hC := btr hC hb; clear hl hb)
                | (go_at_call 15; refine (worth_ok _ x5 ua s c5 s uc (shW by' W) p (HA2.out.mono hC) HU.out (sh_plan HV2.out HV.out)).mono ?_; rintro e w' ⟨ga, gc, rfl, hG, hb⟩; replace hC := btr hC hb; clear hb))
            have HG := Lib.hid hG
            clear hG f0 f1 f2
            replace HZ := Lib.hid (HZ.out.mono hC)
            replace HA := Lib.hid (HA.out.mono hC)
            replace HB := Lib.hid (HB.out.mono hC)
            replace HP := Lib.hid (HP.out.mono hC)
            replace HF := Lib.hid (HF.out.mono hC)
            replace HBX := Lib.hid (HBX.out.mono hC)
            replace HA2 := Lib.hid (HA2.out.mono hC)
            clear hC HSX
            generalize w' = T0 at *
            go_wp2_with fail
            refine (lowest_ok _ fa s fc W p HF.out HV.out).mono ?_
            rintro e w10 ⟨rfl, hb⟩
            replace HZ := Lib.hid (HZ.out.mono hb)
            replace HA := Lib.hid (HA.out.mono hb)
            replace HB := Lib.hid (HB.out.mono hb)
            replace HP := Lib.hid (HP.out.mono hb)
            replace HF := Lib.hid (HF.out.mono hb)
            replace HBX := Lib.hid (HBX.out.mono hb)
            replace HA2 := Lib.hid (HA2.out.mono hb)
            replace HG := Lib.hid (HG.out.mono hb)
            clear hb
            go_wp2_with fail
            refine (lowest_go _ ga s gc _ HG.out (fun i hi => sh_low HV2.out HV.out (by rw [HNA.out]; exact hi))).mono ?_
            rintro e w11 ⟨rfl, hb⟩
            replace HZ := Lib.hid (HZ.out.mono hb)
            replace HA := Lib.hid (HA.out.mono hb)
            replace HB := Lib.hid (HB.out.mono hb)
            replace HP := Lib.hid (HP.out.mono hb)
            replace HF := Lib.hid (HF.out.mono hb)
            replace HBX := Lib.hid (HBX.out.mono hb)
            replace HA2 := Lib.hid (HA2.out.mono hb)
            replace HG := Lib.hid (HG.out.mono hb)
            clear hb
            obtain ⟨z0, z1, z2, z3⟩ := HZ.out.cells
            go_wp2
            go_region
            replace HZ := Lib.hid (HZ.out.mono ((Below.refl _ _).drew))
            replace HA := Lib.hid (HA.out.mono ((Below.refl _ _).drew))
            replace HB := Lib.hid (HB.out.mono ((Below.refl _ _).drew))
            replace HP := Lib.hid (HP.out.mono ((Below.refl _ _).drew))
            replace HF := Lib.hid (HF.out.mono ((Below.refl _ _).drew))
            replace HBX := Lib.hid (HBX.out.mono ((Below.refl _ _).drew))
            replace HA2 := Lib.hid (HA2.out.mono ((Below.refl _ _).drew))
            replace HG := Lib.hid (HG.out.mono ((Below.refl _ _).drew))
            clear z0 z1 z2 z3
            generalize w11.drew = T at *
            go_wp2
            go_loopw [130] (fun t2 wr => ∃ j : Nat, j ≤ s ∧ t2 = .int .i64 j ∧ Hid (Below T.heap.size T wr)) (fun t2 _ => s - (intOf t2).toNat)
            case atStart => exact ⟨0, by omega, rfl, Lib.hid (Below.refl _ _)⟩
            case round =>
              obtain ⟨j, hj, rfl, HT⟩ := hrel
              by_cases hlj : j < s
              · have hjA : j < W.acts.length := by rw [HNA.out]; exact hlj
                have hwq := sh_worth (y := by') HV2.out HV.out hjA
                obtain ⟨xd1, xd2, xn1, xn2, _⟩ := worth_low HV.out hjA
                obtain ⟨yd1, yd2, yn1, yn2, _⟩ := sh_low (y := by') HV2.out HV.out hjA
                obtain ⟨bf, of', rfl, hbf, hcf⟩ := (HF.out.mono HT.out).at (by omega)
                obtain ⟨bg, og, rfl, hbg, hcg⟩ := (HG.out.mono HT.out).at (by omega)
                obtain ⟨q1, q2⟩ := hcf j hlj
                obtain ⟨q3, q4⟩ := hcg j hlj
                have hfc := HF.out.2.cap
                have hgc := HG.out.2.cap
                unfold maxLen at hfc hgc
                generalize fr (worthF W p) j = fx at *
                generalize fr (worthF (shW by' W) p) j = fy at *
                have m1 := mul_le3 (A := 4294967296) (B := 67108864) (a := fy.n) (b := fx.d) (by omega) (by omega) (by omega) (by omega) (by omega)
                have m2 := mul_le3 (A := 4294967296) (B := 67108864) (a := fx.n) (b := fy.d) (by omega) (by omega) (by omega) (by omega) (by omega)
                have m3 := mul_le3 (A := 576460752303423488) (B := 4) (a := fy.n * fx.d - fx.n * fy.d) (b := W.b - W.a) (by omega) (by omega) (by omega) (by omega) (by omega)
                have m4 := mul_le3 (A := 18) (B := 4) (a := by') (b := W.b) (by omega) (by omega) (by omega) (by omega) (by omega)
                have m5 := mul_le3 (A := 72) (B := 67108864) (a := by' * W.b) (b := fx.d) (by omega) (by omega) (by omega) (by omega) (by omega)
                have k1 : IntKind.i64.wrap (fy.n * fx.d) = fy.n * fx.d := wrap_i64j _ (by omega) (by omega)
                have k2 : IntKind.i64.wrap (fx.n * fy.d) = fx.n * fy.d := wrap_i64j _ (by omega) (by omega)
                have k3 : IntKind.i64.wrap (fy.n * fx.d - fx.n * fy.d) = fy.n * fx.d - fx.n * fy.d := wrap_i64j _ (by omega) (by omega)
                have k4 : IntKind.i64.wrap (W.b - W.a) = W.b - W.a := wrap_i64j _ (by omega) (by omega)
                have k5 : IntKind.i64.wrap ((fy.n * fx.d - fx.n * fy.d) * (W.b - W.a)) = by' * W.b * fx.d * fy.d := by rw [← hwq]; exact wrap_i64j _ (by omega) (by omega)
                have k6 : IntKind.i64.wrap (by' * W.b) = by' * W.b := wrap_i64j _ (by omega) (by omega)
                have k7 : IntKind.i64.wrap (by' * W.b * fx.d) = by' * W.b * fx.d := wrap_i64j _ (by omega) (by omega)
                have k8 : IntKind.i64.wrap (by' * W.b * fx.d * fy.d) = by' * W.b * fx.d * fy.d := by rw [← hwq]; exact wrap_i64j _ (by omega) (by omega)
                clear hcf hcg m1 m2 m3 m4 m5 hwq xd1 xd2 xn1 xn2 yd1 yd2 yn1 yn2
                obtain ⟨xn, xd⟩ := fx
                obtain ⟨yn, yd⟩ := fy
                dsimp only at *
                go_wp2
                go_region
                go_wp2
                go_roundw
                case rel => go_light; exact ⟨j + 1, by omega, by go_num, HT.out.drew⟩
                case measure => simp [intOf]; omega
              · obtain rfl : j = s := by omega
                replace HZ := Lib.hid (HZ.out.mono HT.out)
                replace HA := Lib.hid (HA.out.mono HT.out)
                replace HB := Lib.hid (HB.out.mono HT.out)
                replace HP := Lib.hid (HP.out.mono HT.out)
                replace HF := Lib.hid (HF.out.mono HT.out)
                replace HBX := Lib.hid (HBX.out.mono HT.out)
                replace HA2 := Lib.hid (HA2.out.mono HT.out)
                replace HG := Lib.hid (HG.out.mono HT.out)
                clear HT HF HG
                obtain ⟨z0, z1, z2, z3⟩ := HZ.out.cells
                go_wp2_with fail
                refine (of_ok _ x j c W HA.out HVW.out).mono ?_
                rintro e w21 ⟨x6, cc6, rfl, hs, hb⟩
                replace HZ := Lib.hid (HZ.out.mono hb)
                replace HA := Lib.hid (HA.out.mono hb)
                replace HB := Lib.hid (HB.out.mono hb)
                replace HP := Lib.hid (HP.out.mono hb)
                replace HBX := Lib.hid (HBX.out.mono hb)
                replace HA2 := Lib.hid (HA2.out.mono hb)
                have HS6 := Lib.hid hs
                clear hs
                clear z0 z1 z2 z3
                clear hb
                obtain ⟨z0, z1, z2, z3⟩ := HZ.out.cells
                go_wp2_with fail
                refine (best_ok _ x6 j cc6 W HS6.out HVW.out).mono ?_
                rintro e w22 ⟨pb, hpb1, hpb2, ba, bc, rfl, hbS, hb⟩
                replace HZ := Lib.hid (HZ.out.mono hb)
                replace HA := Lib.hid (HA.out.mono hb)
                replace HB := Lib.hid (HB.out.mono hb)
                replace HP := Lib.hid (HP.out.mono hb)
                replace HBX := Lib.hid (HBX.out.mono hb)
                replace HA2 := Lib.hid (HA2.out.mono hb)
                replace HS6 := Lib.hid (HS6.out.mono hb)
                have HBS := Lib.hid hbS
                have HPB1 := Lib.hid hpb1
                have HPB2 := Lib.hid hpb2
                clear hpb1 hpb2 hbS HS6
                clear z0 z1 z2 z3
                clear hb
                obtain ⟨z0, z1, z2, z3⟩ := HZ.out.cells
                obtain ⟨g0, g1, g2, g3⟩ := HBX.out.cells
                go_wp2_with fail
                refine (best_ok _ x5 j c5 (shW by' W) HA2.out HV2.out).mono ?_
                rintro e w23 ⟨pq, hpq1, hpq2, qa, qc, rfl, hqS, hb⟩
                replace HZ := Lib.hid (HZ.out.mono hb)
                replace HA := Lib.hid (HA.out.mono hb)
                replace HB := Lib.hid (HB.out.mono hb)
                replace HP := Lib.hid (HP.out.mono hb)
                replace HBX := Lib.hid (HBX.out.mono hb)
                replace HA2 := Lib.hid (HA2.out.mono hb)
                replace HBS := Lib.hid (HBS.out.mono hb)
                have HQS := Lib.hid hqS
                have HEQ := Lib.hid (sh_best HV2.out HVW.out HPB1.out HPB2.out hpq1 hpq2)
                clear hpq1 hpq2 hqS g0 g1 g2 g3
                clear z0 z1 z2 z3
                clear hb
                obtain ⟨z0, z1, z2, z3⟩ := HZ.out.cells
                go_wp2_with fail
                refine (of_ok _ x j c W HA.out HVW.out).mono ?_
                rintro e w24 ⟨x7, cc7, rfl, hs, hb⟩
                replace HZ := Lib.hid (HZ.out.mono hb)
                replace HA := Lib.hid (HA.out.mono hb)
                replace HB := Lib.hid (HB.out.mono hb)
                replace HP := Lib.hid (HP.out.mono hb)
                replace HBX := Lib.hid (HBX.out.mono hb)
                replace HA2 := Lib.hid (HA2.out.mono hb)
                replace HBS := Lib.hid (HBS.out.mono hb)
                replace HQS := Lib.hid (HQS.out.mono hb)
                have HS7 := Lib.hid hs
                clear hs
                clear z0 z1 z2 z3
                clear hb
                obtain ⟨z0, z1, z2, z3⟩ := HZ.out.cells
                go_wp2_with fail
                refine (list_ok _ y j d W p HP.out HV.out).mono ?_
                rintro e w25 ⟨ub, ud, rfl, hl, hb⟩
                replace HZ := Lib.hid (HZ.out.mono hb)
                replace HA := Lib.hid (HA.out.mono hb)
                replace HB := Lib.hid (HB.out.mono hb)
                replace HP := Lib.hid (HP.out.mono hb)
                replace HBX := Lib.hid (HBX.out.mono hb)
                replace HA2 := Lib.hid (HA2.out.mono hb)
                replace HBS := Lib.hid (HBS.out.mono hb)
                replace HQS := Lib.hid (HQS.out.mono hb)
                replace HS7 := Lib.hid (HS7.out.mono hb)
                have HU7 := Lib.hid hl
                clear hl
                clear z0 z1 z2 z3
                clear hb
                obtain ⟨z0, z1, z2, z3⟩ := HZ.out.cells
                have HGN := Lib.hid (sh_podds (W := W) (p := p) (y := by'))
                cases hst : stB W p st with
                | false =>
                  have HST := Lib.hid hst
                  have HST2 := Lib.hid (show stB (shW by' W) p st = false by unfold stB at hst ⊢; rw [HV.out] at hst; rw [sh_plan HV2.out HV.out, shW_len]; exact hst)
                  clear hst
                  go_wp2_with fail
                  refine (restU_no _ x7 ub j cc7 j ud st W p HS7.out HU7.out HST.out).mono ?_
                  rintro e w26 ⟨ra, rd, rfl, hb⟩
                  replace HZ := Lib.hid (HZ.out.mono hb)
                  replace HA := Lib.hid (HA.out.mono hb)
                  replace HB := Lib.hid (HB.out.mono hb)
                  replace HP := Lib.hid (HP.out.mono hb)
                  replace HBX := Lib.hid (HBX.out.mono hb)
                  replace HA2 := Lib.hid (HA2.out.mono hb)
                  replace HBS := Lib.hid (HBS.out.mono hb)
                  replace HQS := Lib.hid (HQS.out.mono hb)
                  replace HS7 := Lib.hid (HS7.out.mono hb)
                  replace HU7 := Lib.hid (HU7.out.mono hb)
                  clear z0 z1 z2 z3
                  clear hb
                  obtain ⟨z0, z1, z2, z3⟩ := HZ.out.cells
                  clear z0 z1 z2 z3
                  generalize w26 = U at *
                  have HSX := Lib.hid (fun (w' : World) (hb : Below U.heap.size U w') => (show w'.cell? ⟨w5.heap.size, 0, none⟩ = some (.int .i64 W.a) ∧ w'.cell? ⟨w5.heap.size, 1, none⟩ = some (.int .i64 W.b) ∧ w'.cell? ⟨w5.heap.size, 2, none⟩ = some (.slice x5 j c5) from (BoxW.cells (persist HBX.out hb)).2))
                  have hC : Below U.heap.size U U.drew := (Below.refl _ _).drew
                  obtain ⟨f0, f1, f2⟩ := HSX.out _ (Below.refl _ _)
                  go_wp2
                  go_region_held3 (fun w' => w'.cell? ⟨w5.heap.size, 0, none⟩ = some (.int .i64 W.a) ∧ w'.cell? ⟨w5.heap.size, 1, none⟩ = some (.int .i64 W.b) ∧ w'.cell? ⟨w5.heap.size, 2, none⟩ = some (.slice x5 j c5))
                    (first | exact HSX.out _ hC | go_keep)
                    (first
                      | (go_at_call 17; refine (list_ok _ y j d W p (HP.out.mono hC) HV.out).mono ?_; rintro e w' ⟨ua, uc, rfl, hl, hb⟩; have HU := Lib.hid hl; replace hC := btr hC hb; clear hl hb)
                      | (go_at_call 40; refine (restU_no _ x5 ua j c5 j uc st (shW by' W) p (HA2.out.mono hC) HU.out HST2.out).mono ?_; rintro e w' ⟨rb, rdd, rfl, hb⟩; replace hC := btr hC hb; clear hb))
                  clear f0 f1 f2
                  replace HZ := Lib.hid (HZ.out.mono hC)
                  replace HA := Lib.hid (HA.out.mono hC)
                  replace HB := Lib.hid (HB.out.mono hC)
                  replace HP := Lib.hid (HP.out.mono hC)
                  replace HBX := Lib.hid (HBX.out.mono hC)
                  replace HA2 := Lib.hid (HA2.out.mono hC)
                  replace HBS := Lib.hid (HBS.out.mono hC)
                  replace HQS := Lib.hid (HQS.out.mono hC)
                  replace HS7 := Lib.hid (HS7.out.mono hC)
                  replace HU7 := Lib.hid (HU7.out.mono hC)
                  clear hC HSX
                  generalize w' = T2 at *
                  go_wp2_with fail
                  refine (ieq_go _ ba qa j bc j qc _ _ HBS.out HQS.out).mono ?_
                  rintro e w27 ⟨rfl, hb⟩
                  have hb := drewB hb
                  replace HZ := Lib.hid (HZ.out.mono hb)
                  replace HA := Lib.hid (HA.out.mono hb)
                  replace HB := Lib.hid (HB.out.mono hb)
                  replace HP := Lib.hid (HP.out.mono hb)
                  replace HBX := Lib.hid (HBX.out.mono hb)
                  replace HA2 := Lib.hid (HA2.out.mono hb)
                  replace HBS := Lib.hid (HBS.out.mono hb)
                  replace HQS := Lib.hid (HQS.out.mono hb)
                  replace HS7 := Lib.hid (HS7.out.mono hb)
                  replace HU7 := Lib.hid (HU7.out.mono hb)
                  rw [decide_eq_true HEQ.out.symm]
                  clear hb
                  go_wp2_with fail
                  refine (freq_nil _ ra rb rd rdd).mono ?_
                  rintro e w28 ⟨rfl, hb⟩
                  have hb := drewB hb
                  replace HZ := Lib.hid (HZ.out.mono hb)
                  replace HA := Lib.hid (HA.out.mono hb)
                  replace HB := Lib.hid (HB.out.mono hb)
                  replace HP := Lib.hid (HP.out.mono hb)
                  replace HBX := Lib.hid (HBX.out.mono hb)
                  replace HA2 := Lib.hid (HA2.out.mono hb)
                  replace HBS := Lib.hid (HBS.out.mono hb)
                  replace HQS := Lib.hid (HQS.out.mono hb)
                  replace HS7 := Lib.hid (HS7.out.mono hb)
                  replace HU7 := Lib.hid (HU7.out.mono hb)
                  clear hb
                  go_wp2_with fail
                  refine (awake_go _).mono ?_
                  rintro e w29 ⟨rfl, hb⟩
                  replace HZ := Lib.hid (HZ.out.mono hb)
                  replace HA := Lib.hid (HA.out.mono hb)
                  replace HB := Lib.hid (HB.out.mono hb)
                  replace HP := Lib.hid (HP.out.mono hb)
                  replace HBX := Lib.hid (HBX.out.mono hb)
                  replace HA2 := Lib.hid (HA2.out.mono hb)
                  replace HBS := Lib.hid (HBS.out.mono hb)
                  replace HQS := Lib.hid (HQS.out.mono hb)
                  replace HS7 := Lib.hid (HS7.out.mono hb)
                  replace HU7 := Lib.hid (HU7.out.mono hb)
                  clear hb
                  go_wp2
                  go_ret
                  exact ⟨rfl, btr HB0.out HB.out⟩
                | true =>
                  obtain ⟨_, g, rfl, hg⟩ := stB_parts hst
                  clear hst
                  rw [HNA.out] at hg
                  cases hag : agOk W p g with
                  | false =>
                    have HAG := Lib.hid hag
                    have HAG2 := Lib.hid (show agOk (shW by' W) p g = false by rw [so_agOk shW_len sh_podds]; exact hag)
                    clear hag
                    go_wp2_with fail
                    refine (restU_not _ x7 ub j cc7 j ud g W p HS7.out HU7.out HV.out hg HAG.out).mono ?_
                    rintro e w26 ⟨ra, rd, rfl, hb⟩
                    replace HZ := Lib.hid (HZ.out.mono hb)
                    replace HA := Lib.hid (HA.out.mono hb)
                    replace HB := Lib.hid (HB.out.mono hb)
                    replace HP := Lib.hid (HP.out.mono hb)
                    replace HBX := Lib.hid (HBX.out.mono hb)
                    replace HA2 := Lib.hid (HA2.out.mono hb)
                    replace HBS := Lib.hid (HBS.out.mono hb)
                    replace HQS := Lib.hid (HQS.out.mono hb)
                    replace HS7 := Lib.hid (HS7.out.mono hb)
                    replace HU7 := Lib.hid (HU7.out.mono hb)
                    clear z0 z1 z2 z3
                    clear hb
                    obtain ⟨z0, z1, z2, z3⟩ := HZ.out.cells
                    clear z0 z1 z2 z3
                    generalize w26 = U at *
                    have HSX := Lib.hid (fun (w' : World) (hb : Below U.heap.size U w') => (show w'.cell? ⟨w5.heap.size, 0, none⟩ = some (.int .i64 W.a) ∧ w'.cell? ⟨w5.heap.size, 1, none⟩ = some (.int .i64 W.b) ∧ w'.cell? ⟨w5.heap.size, 2, none⟩ = some (.slice x5 j c5) from (BoxW.cells (persist HBX.out hb)).2))
                    have hC : Below U.heap.size U U.drew := (Below.refl _ _).drew
                    obtain ⟨f0, f1, f2⟩ := HSX.out _ (Below.refl _ _)
                    go_wp2
                    go_region_held3 (fun w' => w'.cell? ⟨w5.heap.size, 0, none⟩ = some (.int .i64 W.a) ∧ w'.cell? ⟨w5.heap.size, 1, none⟩ = some (.int .i64 W.b) ∧ w'.cell? ⟨w5.heap.size, 2, none⟩ = some (.slice x5 j c5))
                      (first | exact HSX.out _ hC | go_keep)
                      (first
                        | (go_at_call 17; refine (list_ok _ y j d W p (HP.out.mono hC) HV.out).mono ?_; rintro e w' ⟨ua, uc, rfl, hl, hb⟩; have HU := Lib.hid hl; replace hC := btr hC hb; clear hl hb)
                        | (go_at_call 40; refine (restU_not _ x5 ua j c5 j uc g (shW by' W) p (HA2.out.mono hC) HU.out (sh_plan HV2.out HV.out) hg HAG2.out).mono ?_; rintro e w' ⟨rb, rdd, rfl, hb⟩; replace hC := btr hC hb; clear hb))
                    clear f0 f1 f2
                    replace HZ := Lib.hid (HZ.out.mono hC)
                    replace HA := Lib.hid (HA.out.mono hC)
                    replace HB := Lib.hid (HB.out.mono hC)
                    replace HP := Lib.hid (HP.out.mono hC)
                    replace HBX := Lib.hid (HBX.out.mono hC)
                    replace HA2 := Lib.hid (HA2.out.mono hC)
                    replace HBS := Lib.hid (HBS.out.mono hC)
                    replace HQS := Lib.hid (HQS.out.mono hC)
                    replace HS7 := Lib.hid (HS7.out.mono hC)
                    replace HU7 := Lib.hid (HU7.out.mono hC)
                    clear hC HSX
                    generalize w' = T2 at *
                    go_wp2_with fail
                    refine (ieq_go _ ba qa j bc j qc _ _ HBS.out HQS.out).mono ?_
                    rintro e w27 ⟨rfl, hb⟩
                    have hb := drewB hb
                    replace HZ := Lib.hid (HZ.out.mono hb)
                    replace HA := Lib.hid (HA.out.mono hb)
                    replace HB := Lib.hid (HB.out.mono hb)
                    replace HP := Lib.hid (HP.out.mono hb)
                    replace HBX := Lib.hid (HBX.out.mono hb)
                    replace HA2 := Lib.hid (HA2.out.mono hb)
                    replace HBS := Lib.hid (HBS.out.mono hb)
                    replace HQS := Lib.hid (HQS.out.mono hb)
                    replace HS7 := Lib.hid (HS7.out.mono hb)
                    replace HU7 := Lib.hid (HU7.out.mono hb)
                    rw [decide_eq_true HEQ.out.symm]
                    clear hb
                    go_wp2_with fail
                    refine (freq_nil _ ra rb rd rdd).mono ?_
                    rintro e w28 ⟨rfl, hb⟩
                    have hb := drewB hb
                    replace HZ := Lib.hid (HZ.out.mono hb)
                    replace HA := Lib.hid (HA.out.mono hb)
                    replace HB := Lib.hid (HB.out.mono hb)
                    replace HP := Lib.hid (HP.out.mono hb)
                    replace HBX := Lib.hid (HBX.out.mono hb)
                    replace HA2 := Lib.hid (HA2.out.mono hb)
                    replace HBS := Lib.hid (HBS.out.mono hb)
                    replace HQS := Lib.hid (HQS.out.mono hb)
                    replace HS7 := Lib.hid (HS7.out.mono hb)
                    replace HU7 := Lib.hid (HU7.out.mono hb)
                    clear hb
                    go_wp2_with fail
                    refine (awake_go _).mono ?_
                    rintro e w29 ⟨rfl, hb⟩
                    replace HZ := Lib.hid (HZ.out.mono hb)
                    replace HA := Lib.hid (HA.out.mono hb)
                    replace HB := Lib.hid (HB.out.mono hb)
                    replace HP := Lib.hid (HP.out.mono hb)
                    replace HBX := Lib.hid (HBX.out.mono hb)
                    replace HA2 := Lib.hid (HA2.out.mono hb)
                    replace HBS := Lib.hid (HBS.out.mono hb)
                    replace HQS := Lib.hid (HQS.out.mono hb)
                    replace HS7 := Lib.hid (HS7.out.mono hb)
                    replace HU7 := Lib.hid (HU7.out.mono hb)
                    clear hb
                    go_wp2
                    go_ret
                    exact ⟨rfl, btr HB0.out HB.out⟩
                  | true =>
                    have HAG := Lib.hid hag
                    have HAG2 := Lib.hid (show agOk (shW by' W) p g = true by rw [so_agOk shW_len sh_podds]; exact hag)
                    clear hag
                    go_wp2_with fail
                    refine (restU_ok _ x7 ub j cc7 j ud g W p HS7.out HU7.out HV.out hg HAG.out).mono ?_
                    rintro e w26 ⟨ra, rd, rfl, hF, hb⟩
                    replace HZ := Lib.hid (HZ.out.mono hb)
                    replace HA := Lib.hid (HA.out.mono hb)
                    replace HB := Lib.hid (HB.out.mono hb)
                    replace HP := Lib.hid (HP.out.mono hb)
                    replace HBX := Lib.hid (HBX.out.mono hb)
                    replace HA2 := Lib.hid (HA2.out.mono hb)
                    replace HBS := Lib.hid (HBS.out.mono hb)
                    replace HQS := Lib.hid (HQS.out.mono hb)
                    replace HS7 := Lib.hid (HS7.out.mono hb)
                    replace HU7 := Lib.hid (HU7.out.mono hb)
                    have HR := Lib.hid hF
                    clear z0 z1 z2 z3
                    clear hb
                    obtain ⟨z0, z1, z2, z3⟩ := HZ.out.cells
                    clear z0 z1 z2 z3
                    generalize w26 = U at *
                    have HSX := Lib.hid (fun (w' : World) (hb : Below U.heap.size U w') => (show w'.cell? ⟨w5.heap.size, 0, none⟩ = some (.int .i64 W.a) ∧ w'.cell? ⟨w5.heap.size, 1, none⟩ = some (.int .i64 W.b) ∧ w'.cell? ⟨w5.heap.size, 2, none⟩ = some (.slice x5 j c5) from (BoxW.cells (persist HBX.out hb)).2))
                    have hC : Below U.heap.size U U.drew := (Below.refl _ _).drew
                    obtain ⟨f0, f1, f2⟩ := HSX.out _ (Below.refl _ _)
                    go_wp2
                    go_region_held3 (fun w' => w'.cell? ⟨w5.heap.size, 0, none⟩ = some (.int .i64 W.a) ∧ w'.cell? ⟨w5.heap.size, 1, none⟩ = some (.int .i64 W.b) ∧ w'.cell? ⟨w5.heap.size, 2, none⟩ = some (.slice x5 j c5))
                      (first | exact HSX.out _ hC | go_keep)
                      (first
                        | (go_at_call 17; refine (list_ok _ y j d W p (HP.out.mono hC) HV.out).mono ?_; rintro e w' ⟨ua, uc, rfl, hl, hb⟩; have HU := Lib.hid hl; replace hC := btr hC hb; clear hl hb)
                        | (go_at_call 40; refine (restU_ok _ x5 ua j c5 j uc g (shW by' W) p (HA2.out.mono hC) HU.out (sh_plan HV2.out HV.out) hg HAG2.out).mono ?_; rintro e w' ⟨rb, rdd, rfl, hG, hb⟩; replace hC := btr hC hb; clear hb))
                    have HG := Lib.hid hG
                    clear hG
                    clear f0 f1 f2
                    replace HZ := Lib.hid (HZ.out.mono hC)
                    replace HA := Lib.hid (HA.out.mono hC)
                    replace HB := Lib.hid (HB.out.mono hC)
                    replace HP := Lib.hid (HP.out.mono hC)
                    replace HBX := Lib.hid (HBX.out.mono hC)
                    replace HA2 := Lib.hid (HA2.out.mono hC)
                    replace HBS := Lib.hid (HBS.out.mono hC)
                    replace HQS := Lib.hid (HQS.out.mono hC)
                    replace HS7 := Lib.hid (HS7.out.mono hC)
                    replace HU7 := Lib.hid (HU7.out.mono hC)
                    replace HR := Lib.hid (HR.out.mono hC)
                    clear hC HSX
                    generalize w' = T2 at *
                    go_wp2_with fail
                    refine (ieq_go _ ba qa j bc j qc _ _ HBS.out HQS.out).mono ?_
                    rintro e w27 ⟨rfl, hb⟩
                    have hb := drewB hb
                    replace HZ := Lib.hid (HZ.out.mono hb)
                    replace HA := Lib.hid (HA.out.mono hb)
                    replace HB := Lib.hid (HB.out.mono hb)
                    replace HP := Lib.hid (HP.out.mono hb)
                    replace HBX := Lib.hid (HBX.out.mono hb)
                    replace HA2 := Lib.hid (HA2.out.mono hb)
                    replace HBS := Lib.hid (HBS.out.mono hb)
                    replace HQS := Lib.hid (HQS.out.mono hb)
                    replace HS7 := Lib.hid (HS7.out.mono hb)
                    replace HU7 := Lib.hid (HU7.out.mono hb)
                    replace HR := Lib.hid (HR.out.mono hb)
                    replace HG := Lib.hid (HG.out.mono hb)
                    rw [decide_eq_true HEQ.out.symm]
                    clear hb
                    go_wp2_with fail
                    refine (freq_go _ ra rb j rd j rdd _ _ HR.out HG.out).mono ?_
                    rintro e w28 ⟨rfl, hb⟩
                    have hb := drewB hb
                    replace HZ := Lib.hid (HZ.out.mono hb)
                    replace HA := Lib.hid (HA.out.mono hb)
                    replace HB := Lib.hid (HB.out.mono hb)
                    replace HP := Lib.hid (HP.out.mono hb)
                    replace HBX := Lib.hid (HBX.out.mono hb)
                    replace HA2 := Lib.hid (HA2.out.mono hb)
                    replace HBS := Lib.hid (HBS.out.mono hb)
                    replace HQS := Lib.hid (HQS.out.mono hb)
                    replace HS7 := Lib.hid (HS7.out.mono hb)
                    replace HU7 := Lib.hid (HU7.out.mono hb)
                    replace HR := Lib.hid (HR.out.mono hb)
                    replace HG := Lib.hid (HG.out.mono hb)
                    rw [decide_eq_true (so_restF shW_len sh_podds g).symm]
                    clear hb
                    go_wp2_with fail
                    refine (awake_go _).mono ?_
                    rintro e w29 ⟨rfl, hb⟩
                    replace HZ := Lib.hid (HZ.out.mono hb)
                    replace HA := Lib.hid (HA.out.mono hb)
                    replace HB := Lib.hid (HB.out.mono hb)
                    replace HP := Lib.hid (HP.out.mono hb)
                    replace HBX := Lib.hid (HBX.out.mono hb)
                    replace HA2 := Lib.hid (HA2.out.mono hb)
                    replace HBS := Lib.hid (HBS.out.mono hb)
                    replace HQS := Lib.hid (HQS.out.mono hb)
                    replace HS7 := Lib.hid (HS7.out.mono hb)
                    replace HU7 := Lib.hid (HU7.out.mono hb)
                    replace HR := Lib.hid (HR.out.mono hb)
                    replace HG := Lib.hid (HG.out.mono hb)
                    clear hb
                    go_wp2
                    go_ret
                    exact ⟨rfl, btr HB0.out HB.out⟩
end Go.Proofs.Ytcmakddnjmeklaa
