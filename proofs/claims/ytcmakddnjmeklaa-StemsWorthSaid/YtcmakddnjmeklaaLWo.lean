/- Chapter 9: StemsWorth's walk. -/
import Derived.Test.YtcmakddnjmeklaaAk
namespace Go.Proofs.Ytcmakddnjmeklaa
open Go.RowKit
set_option linter.unusedSimpArgs false

theorem after_bad (w : World) (x y : Option Addr) (n c m d : Nat) (W : Wd) (p : List Int) (t : Int) (hA : A2Sl w x n c (trW W).acts) (hp : Sl w y m d (p.take 7)) (hok : isPlanB W p = false) :
    Calls Try.prog 38 #[wv W.a W.b x n c, .slice y m d, .int .i64 t] w (GivesNo 2 w) :=
  after_no w x y n c m d t (trW W) (p.take 7) hA hp (.inl (by rw [isPlan_tr]; exact hok))
set_option maxRecDepth 100000 in
set_option maxHeartbeats 8000000 in
theorem lwo_walk (w : World) (x : Option Addr) (n c : Nat) (W : Wd) (hA : A2Sl w x n c W.acts) (y : Option Addr) (m d : Nat) (p : List Int) (hp : Sl w y m d p) (_hpb : ∀ z ∈ p, -9223372036854775808 ≤ z ∧ z ≤ 9223372036854775807) (st : Int) (_hd1 : -9223372036854775808 ≤ st) (_hd2 : st ≤ 9223372036854775807) :
    Calls Try.prog 9 #[wv W.a W.b x n c, .slice y m d, .int .i64 st] w fun e w' => e = .returned (.bool true) ∧ Below w.heap.size w w' := by
  have hb0 := bal (Below.refl w.heap.size w) (.cells #[.int .i64 W.a, .int .i64 W.b, .slice x n c] 25)
  have HZ := Lib.hid (boxR_new w W.a W.b x n c)
  have HA := Lib.hid (hA.mono hb0)
  have HB0 := Lib.hid hb0
  have HB := Lib.hid (Bel.refl (w.alloc (.cells #[.int .i64 W.a, .int .i64 W.b, .slice x n c] 25)))
  have HNA := Lib.hid hA.1
  have hcn := hA.2.cap
  have HP := Lib.hid (hp.mono hb0)
  have hcm := hp.cap
  unfold maxLen at hcn hcm
  clear hA hp hb0
  cases hv : isPlanB W p with
  | false =>
    have HV := Lib.hid hv
    clear hv
    go_enter Try.func9, Try.ntmps9
    go_wp2_with fail
    refine (of_any _ x n c W HA.out).mono ?_
    rintro e w1 ⟨x2, n2, c2, rfl, hs, hb⟩
    replace HZ := Lib.hid (HZ.out.mono hb)
    replace HA := Lib.hid (HA.out.mono hb)
    replace HB := Lib.hid (HB.out.mono hb)
    replace HP := Lib.hid (HP.out.mono hb)
    have HS := Lib.hid hs
    clear hb
    obtain ⟨z0, z1, z2, z3⟩ := HZ.out.cells
    go_wp2_with fail
    refine (list_go _ y m d p HP.out).mono ?_
    rintro e w2 ⟨ua, un, uc, rfl, ho, hb⟩
    replace HZ := Lib.hid (HZ.out.mono hb)
    replace HA := Lib.hid (HA.out.mono hb)
    replace HB := Lib.hid (HB.out.mono hb)
    replace HP := Lib.hid (HP.out.mono hb)
    replace HS := Lib.hid (HS.out.mono hb)
    have HU := Lib.hid (own_sl ho)
    clear ho
    clear z0 z1 z2 z3
    clear hb
    obtain ⟨z0, z1, z2, z3⟩ := HZ.out.cells
    go_wp2_with fail
    refine (worth_bad _ x2 ua n2 c2 un uc W p HS.out HU.out HV.out).mono ?_
    rintro e w3 ⟨a2, d2, rfl, hb⟩
    replace HZ := Lib.hid (HZ.out.mono hb)
    replace HA := Lib.hid (HA.out.mono hb)
    replace HB := Lib.hid (HB.out.mono hb)
    replace HP := Lib.hid (HP.out.mono hb)
    replace HS := Lib.hid (HS.out.mono hb)
    replace HU := Lib.hid (HU.out.mono hb)
    clear z0 z1 z2 z3
    clear hb
    obtain ⟨z0, z1, z2, z3⟩ := HZ.out.cells
    go_wp2_with fail
    refine (of_any _ x n c W HA.out).mono ?_
    rintro e w4 ⟨x3, n3, c3, rfl, hs3, hb⟩
    replace HZ := Lib.hid (HZ.out.mono hb)
    replace HA := Lib.hid (HA.out.mono hb)
    replace HB := Lib.hid (HB.out.mono hb)
    replace HP := Lib.hid (HP.out.mono hb)
    replace HS := Lib.hid (HS.out.mono hb)
    replace HU := Lib.hid (HU.out.mono hb)
    have HS3 := Lib.hid hs3
    clear z0 z1 z2 z3
    clear hb
    obtain ⟨z0, z1, z2, z3⟩ := HZ.out.cells
    go_wp2_with fail
    refine (list_go _ y m d p HP.out).mono ?_
    rintro e w5 ⟨ub, um, ud, rfl, ho, hb⟩
    replace HZ := Lib.hid (HZ.out.mono hb)
    replace HA := Lib.hid (HA.out.mono hb)
    replace HB := Lib.hid (HB.out.mono hb)
    replace HP := Lib.hid (HP.out.mono hb)
    replace HS := Lib.hid (HS.out.mono hb)
    replace HU := Lib.hid (HU.out.mono hb)
    replace HS3 := Lib.hid (HS3.out.mono hb)
    have HU3 := Lib.hid (own_sl ho)
    clear ho
    clear z0 z1 z2 z3
    clear hb
    obtain ⟨z0, z1, z2, z3⟩ := HZ.out.cells
    go_wp2_with fail
    refine (after_bad _ x3 ub n3 c3 um ud W p st HS3.out HU3.out HV.out).mono ?_
    rintro e w6 ⟨a3, d3, rfl, hb⟩
    replace HZ := Lib.hid (HZ.out.mono hb)
    replace HA := Lib.hid (HA.out.mono hb)
    replace HB := Lib.hid (HB.out.mono hb)
    replace HP := Lib.hid (HP.out.mono hb)
    replace HS := Lib.hid (HS.out.mono hb)
    replace HU := Lib.hid (HU.out.mono hb)
    replace HS3 := Lib.hid (HS3.out.mono hb)
    replace HU3 := Lib.hid (HU3.out.mono hb)
    clear z0 z1 z2 z3
    clear hb
    obtain ⟨z0, z1, z2, z3⟩ := HZ.out.cells
    go_wp2_with fail
    refine (fine_go _ x y n c m d W p HA.out HP.out).mono ?_
    rintro e w7 ⟨rfl, hb⟩
    replace HZ := Lib.hid (HZ.out.mono hb)
    replace HA := Lib.hid (HA.out.mono hb)
    replace HB := Lib.hid (HB.out.mono hb)
    replace HP := Lib.hid (HP.out.mono hb)
    replace HS := Lib.hid (HS.out.mono hb)
    replace HU := Lib.hid (HU.out.mono hb)
    replace HS3 := Lib.hid (HS3.out.mono hb)
    replace HU3 := Lib.hid (HU3.out.mono hb)
    rw [HV.out]
    clear z0 z1 z2 z3
    clear hb
    obtain ⟨z0, z1, z2, z3⟩ := HZ.out.cells
    go_wp2_with fail
    refine (awake_go _).mono ?_
    rintro e w8 ⟨rfl, hb⟩
    replace HZ := Lib.hid (HZ.out.mono hb)
    replace HA := Lib.hid (HA.out.mono hb)
    replace HB := Lib.hid (HB.out.mono hb)
    replace HP := Lib.hid (HP.out.mono hb)
    replace HS := Lib.hid (HS.out.mono hb)
    replace HU := Lib.hid (HU.out.mono hb)
    replace HS3 := Lib.hid (HS3.out.mono hb)
    replace HU3 := Lib.hid (HU3.out.mono hb)
    clear hb
    go_wp2
    go_ret
    exact ⟨rfl, btr HB0.out HB.out⟩
  | true =>
    obtain ⟨_, hpl, _, ⟨hn1, hn4, _⟩, _⟩ := plan_parts hv
    rw [HNA.out] at hn1 hn4 hpl
    have hmn : m = n := by have := HP.out.len; omega
    subst hmn
    have HV := Lib.hid hv
    have HVW := Lib.hid (show vWd W = true from (plan_parts hv).1)
    clear hv
    by_cases hst : st < 0 ∨ 3 < st
    · have HST := Lib.hid hst
      have hd1 : (decide (st < 0) || decide (3 < st)) = true := by simpa using hst
      clear hst
      go_enter Try.func9, Try.ntmps9
      go_wp2_with fail
      refine (of_ok _ x m c W HA.out HVW.out).mono ?_
      rintro e w1 ⟨x2, c2, rfl, hs, hb⟩
      replace HZ := Lib.hid (HZ.out.mono hb)
      replace HA := Lib.hid (HA.out.mono hb)
      replace HB := Lib.hid (HB.out.mono hb)
      replace HP := Lib.hid (HP.out.mono hb)
      have HS := Lib.hid hs
      clear hb
      obtain ⟨z0, z1, z2, z3⟩ := HZ.out.cells
      go_wp2_with fail
      refine (list_ok _ y m d W p HP.out HV.out).mono ?_
      rintro e w2 ⟨ua, uc, rfl, hl, hb⟩
      replace HZ := Lib.hid (HZ.out.mono hb)
      replace HA := Lib.hid (HA.out.mono hb)
      replace HB := Lib.hid (HB.out.mono hb)
      replace HP := Lib.hid (HP.out.mono hb)
      replace HS := Lib.hid (HS.out.mono hb)
      have HU := Lib.hid hl
      clear z0 z1 z2 z3
      clear hb
      obtain ⟨z0, z1, z2, z3⟩ := HZ.out.cells
      go_wp2_with fail
      refine (worth_ok _ x2 ua m c2 m uc W p HS.out HU.out HV.out).mono ?_
      rintro e w3 ⟨fa, fc, rfl, hF, hb⟩
      replace HZ := Lib.hid (HZ.out.mono hb)
      replace HA := Lib.hid (HA.out.mono hb)
      replace HB := Lib.hid (HB.out.mono hb)
      replace HP := Lib.hid (HP.out.mono hb)
      replace HS := Lib.hid (HS.out.mono hb)
      replace HU := Lib.hid (HU.out.mono hb)
      have HF := Lib.hid hF
      clear z0 z1 z2 z3
      clear hb
      obtain ⟨z0, z1, z2, z3⟩ := HZ.out.cells
      go_wp2_with fail
      refine (of_ok _ x m c W HA.out HVW.out).mono ?_
      rintro e w4 ⟨x3, c3, rfl, hs3, hb⟩
      replace HZ := Lib.hid (HZ.out.mono hb)
      replace HA := Lib.hid (HA.out.mono hb)
      replace HB := Lib.hid (HB.out.mono hb)
      replace HP := Lib.hid (HP.out.mono hb)
      replace HS := Lib.hid (HS.out.mono hb)
      replace HU := Lib.hid (HU.out.mono hb)
      replace HF := Lib.hid (HF.out.mono hb)
      have HS3 := Lib.hid hs3
      clear z0 z1 z2 z3
      clear hb
      obtain ⟨z0, z1, z2, z3⟩ := HZ.out.cells
      go_wp2_with fail
      refine (list_ok _ y m d W p HP.out HV.out).mono ?_
      rintro e w5 ⟨ub, ud, rfl, hl2, hb⟩
      replace HZ := Lib.hid (HZ.out.mono hb)
      replace HA := Lib.hid (HA.out.mono hb)
      replace HB := Lib.hid (HB.out.mono hb)
      replace HP := Lib.hid (HP.out.mono hb)
      replace HS := Lib.hid (HS.out.mono hb)
      replace HU := Lib.hid (HU.out.mono hb)
      replace HF := Lib.hid (HF.out.mono hb)
      replace HS3 := Lib.hid (HS3.out.mono hb)
      have HU3 := Lib.hid hl2
      clear z0 z1 z2 z3
      clear hb
      obtain ⟨z0, z1, z2, z3⟩ := HZ.out.cells
      go_wp2_with fail
      refine (after_no _ x3 ub m c3 m ud st W p HS3.out HU3.out (.inr HST.out)).mono ?_
      rintro e w6 ⟨a3, d3, rfl, hb⟩
      replace HZ := Lib.hid (HZ.out.mono hb)
      replace HA := Lib.hid (HA.out.mono hb)
      replace HB := Lib.hid (HB.out.mono hb)
      replace HP := Lib.hid (HP.out.mono hb)
      replace HS := Lib.hid (HS.out.mono hb)
      replace HU := Lib.hid (HU.out.mono hb)
      replace HF := Lib.hid (HF.out.mono hb)
      replace HS3 := Lib.hid (HS3.out.mono hb)
      replace HU3 := Lib.hid (HU3.out.mono hb)
      clear z0 z1 z2 z3
      clear hb
      obtain ⟨z0, z1, z2, z3⟩ := HZ.out.cells
      go_wp2_with fail
      refine (fine_go _ x y m c m d W p HA.out HP.out).mono ?_
      rintro e w7 ⟨rfl, hb⟩
      replace HZ := Lib.hid (HZ.out.mono hb)
      replace HA := Lib.hid (HA.out.mono hb)
      replace HB := Lib.hid (HB.out.mono hb)
      replace HP := Lib.hid (HP.out.mono hb)
      replace HS := Lib.hid (HS.out.mono hb)
      replace HU := Lib.hid (HU.out.mono hb)
      replace HF := Lib.hid (HF.out.mono hb)
      replace HS3 := Lib.hid (HS3.out.mono hb)
      replace HU3 := Lib.hid (HU3.out.mono hb)
      rw [HV.out]
      clear z0 z1 z2 z3
      clear hb
      obtain ⟨z0, z1, z2, z3⟩ := HZ.out.cells
      go_wp2_with fail
      refine (rworth_go _ x y m c m d W p HA.out HP.out HV.out).mono ?_
      rintro e w8 hq9
      obtain ⟨ya, yc, rfl, hR, hb⟩ := gives_fr2 hq9 (n := m) (by rw [worthF_len]; exact HNA.out)
      clear hq9
      replace HZ := Lib.hid (HZ.out.mono hb)
      replace HA := Lib.hid (HA.out.mono hb)
      replace HB := Lib.hid (HB.out.mono hb)
      replace HP := Lib.hid (HP.out.mono hb)
      replace HS := Lib.hid (HS.out.mono hb)
      replace HU := Lib.hid (HU.out.mono hb)
      replace HF := Lib.hid (HF.out.mono hb)
      replace HS3 := Lib.hid (HS3.out.mono hb)
      replace HU3 := Lib.hid (HU3.out.mono hb)
      have HR := Lib.hid hR
      clear z0 z1 z2 z3 hb hR
      obtain ⟨z0, z1, z2, z3⟩ := HZ.out.cells
      go_wp2_with fail
      refine (freq_go _ fa ya m fc m yc _ _ HF.out HR.out).mono ?_
      rintro e w9 ⟨rfl, hb⟩
      have hb := drewB hb
      replace HZ := Lib.hid (HZ.out.mono hb)
      replace HA := Lib.hid (HA.out.mono hb)
      replace HB := Lib.hid (HB.out.mono hb)
      replace HP := Lib.hid (HP.out.mono hb)
      replace HS := Lib.hid (HS.out.mono hb)
      replace HU := Lib.hid (HU.out.mono hb)
      replace HF := Lib.hid (HF.out.mono hb)
      replace HS3 := Lib.hid (HS3.out.mono hb)
      replace HU3 := Lib.hid (HU3.out.mono hb)
      replace HR := Lib.hid (HR.out.mono hb)
      rw [decide_eq_true rfl]
      clear z0 z1 z2 z3
      clear hb
      obtain ⟨z0, z1, z2, z3⟩ := HZ.out.cells
      go_wp2_with fail
      refine (awake_go _).mono ?_
      rintro e w10 ⟨rfl, hb⟩
      replace HZ := Lib.hid (HZ.out.mono hb)
      replace HA := Lib.hid (HA.out.mono hb)
      replace HB := Lib.hid (HB.out.mono hb)
      replace HP := Lib.hid (HP.out.mono hb)
      replace HS := Lib.hid (HS.out.mono hb)
      replace HU := Lib.hid (HU.out.mono hb)
      replace HF := Lib.hid (HF.out.mono hb)
      replace HS3 := Lib.hid (HS3.out.mono hb)
      replace HU3 := Lib.hid (HU3.out.mono hb)
      replace HR := Lib.hid (HR.out.mono hb)
      clear hb
      go_wp2
      all_goals go_ret
      all_goals exact ⟨rfl, btr HB0.out HB.out⟩
    · obtain ⟨t, ht⟩ : ∃ t : Nat, st = (t : Int) := ⟨st.toNat, by omega⟩
      subst ht
      have ht3 : t ≤ 3 := by omega
      clear hst
      go_enter Try.func9, Try.ntmps9
      go_wp2_with fail
      refine (of_ok _ x m c W HA.out HVW.out).mono ?_
      rintro e w1 ⟨x2, c2, rfl, hs, hb⟩
      replace HZ := Lib.hid (HZ.out.mono hb)
      replace HA := Lib.hid (HA.out.mono hb)
      replace HB := Lib.hid (HB.out.mono hb)
      replace HP := Lib.hid (HP.out.mono hb)
      have HS := Lib.hid hs
      clear hb
      obtain ⟨z0, z1, z2, z3⟩ := HZ.out.cells
      go_wp2_with fail
      refine (list_ok _ y m d W p HP.out HV.out).mono ?_
      rintro e w2 ⟨ua, uc, rfl, hl, hb⟩
      replace HZ := Lib.hid (HZ.out.mono hb)
      replace HA := Lib.hid (HA.out.mono hb)
      replace HB := Lib.hid (HB.out.mono hb)
      replace HP := Lib.hid (HP.out.mono hb)
      replace HS := Lib.hid (HS.out.mono hb)
      have HU := Lib.hid hl
      clear z0 z1 z2 z3
      clear hb
      obtain ⟨z0, z1, z2, z3⟩ := HZ.out.cells
      go_wp2_with fail
      refine (worth_ok _ x2 ua m c2 m uc W p HS.out HU.out HV.out).mono ?_
      rintro e w3 ⟨fa, fc, rfl, hF, hb⟩
      replace HZ := Lib.hid (HZ.out.mono hb)
      replace HA := Lib.hid (HA.out.mono hb)
      replace HB := Lib.hid (HB.out.mono hb)
      replace HP := Lib.hid (HP.out.mono hb)
      replace HS := Lib.hid (HS.out.mono hb)
      replace HU := Lib.hid (HU.out.mono hb)
      have HF := Lib.hid hF
      clear z0 z1 z2 z3
      clear hb
      obtain ⟨z0, z1, z2, z3⟩ := HZ.out.cells
      go_wp2_with fail
      refine (of_ok _ x m c W HA.out HVW.out).mono ?_
      rintro e w4 ⟨x3, c3, rfl, hs3, hb⟩
      replace HZ := Lib.hid (HZ.out.mono hb)
      replace HA := Lib.hid (HA.out.mono hb)
      replace HB := Lib.hid (HB.out.mono hb)
      replace HP := Lib.hid (HP.out.mono hb)
      replace HS := Lib.hid (HS.out.mono hb)
      replace HU := Lib.hid (HU.out.mono hb)
      replace HF := Lib.hid (HF.out.mono hb)
      have HS3 := Lib.hid hs3
      clear z0 z1 z2 z3
      clear hb
      obtain ⟨z0, z1, z2, z3⟩ := HZ.out.cells
      go_wp2_with fail
      refine (list_ok _ y m d W p HP.out HV.out).mono ?_
      rintro e w5 ⟨ub, ud, rfl, hl2, hb⟩
      replace HZ := Lib.hid (HZ.out.mono hb)
      replace HA := Lib.hid (HA.out.mono hb)
      replace HB := Lib.hid (HB.out.mono hb)
      replace HP := Lib.hid (HP.out.mono hb)
      replace HS := Lib.hid (HS.out.mono hb)
      replace HU := Lib.hid (HU.out.mono hb)
      replace HF := Lib.hid (HF.out.mono hb)
      replace HS3 := Lib.hid (HS3.out.mono hb)
      have HU3 := Lib.hid hl2
      clear z0 z1 z2 z3
      clear hb
      obtain ⟨z0, z1, z2, z3⟩ := HZ.out.cells
      go_wp2_with fail
      refine (after_go _ x3 ub m c3 m ud t W p HS3.out HU3.out HV.out ht3).mono ?_
      rintro e w6 ⟨ga, gc, rfl, hG, hb⟩
      replace HZ := Lib.hid (HZ.out.mono hb)
      replace HA := Lib.hid (HA.out.mono hb)
      replace HB := Lib.hid (HB.out.mono hb)
      replace HP := Lib.hid (HP.out.mono hb)
      replace HS := Lib.hid (HS.out.mono hb)
      replace HU := Lib.hid (HU.out.mono hb)
      replace HF := Lib.hid (HF.out.mono hb)
      replace HS3 := Lib.hid (HS3.out.mono hb)
      replace HU3 := Lib.hid (HU3.out.mono hb)
      have HG := Lib.hid hG
      clear z0 z1 z2 z3
      clear hb
      obtain ⟨z0, z1, z2, z3⟩ := HZ.out.cells
      go_wp2_with fail
      refine (fine_go _ x y m c m d W p HA.out HP.out).mono ?_
      rintro e w7 ⟨rfl, hb⟩
      replace HZ := Lib.hid (HZ.out.mono hb)
      replace HA := Lib.hid (HA.out.mono hb)
      replace HB := Lib.hid (HB.out.mono hb)
      replace HP := Lib.hid (HP.out.mono hb)
      replace HS := Lib.hid (HS.out.mono hb)
      replace HU := Lib.hid (HU.out.mono hb)
      replace HF := Lib.hid (HF.out.mono hb)
      replace HS3 := Lib.hid (HS3.out.mono hb)
      replace HU3 := Lib.hid (HU3.out.mono hb)
      replace HG := Lib.hid (HG.out.mono hb)
      rw [HV.out]
      clear z0 z1 z2 z3
      clear hb
      obtain ⟨z0, z1, z2, z3⟩ := HZ.out.cells
      go_wp2_with fail
      refine (rworth_go _ x y m c m d W p HA.out HP.out HV.out).mono ?_
      rintro e w8 hq9
      obtain ⟨ya, yc, rfl, hR, hb⟩ := gives_fr2 hq9 (n := m) (by rw [worthF_len]; exact HNA.out)
      clear hq9
      replace HZ := Lib.hid (HZ.out.mono hb)
      replace HA := Lib.hid (HA.out.mono hb)
      replace HB := Lib.hid (HB.out.mono hb)
      replace HP := Lib.hid (HP.out.mono hb)
      replace HS := Lib.hid (HS.out.mono hb)
      replace HU := Lib.hid (HU.out.mono hb)
      replace HF := Lib.hid (HF.out.mono hb)
      replace HS3 := Lib.hid (HS3.out.mono hb)
      replace HU3 := Lib.hid (HU3.out.mono hb)
      replace HG := Lib.hid (HG.out.mono hb)
      have HR := Lib.hid hR
      clear z0 z1 z2 z3 hb hR
      obtain ⟨z0, z1, z2, z3⟩ := HZ.out.cells
      go_wp2_with fail
      refine (freq_go _ fa ya m fc m yc _ _ HF.out HR.out).mono ?_
      rintro e w9 ⟨rfl, hb⟩
      have hb := drewB hb
      replace HZ := Lib.hid (HZ.out.mono hb)
      replace HA := Lib.hid (HA.out.mono hb)
      replace HB := Lib.hid (HB.out.mono hb)
      replace HP := Lib.hid (HP.out.mono hb)
      replace HS := Lib.hid (HS.out.mono hb)
      replace HU := Lib.hid (HU.out.mono hb)
      replace HF := Lib.hid (HF.out.mono hb)
      replace HS3 := Lib.hid (HS3.out.mono hb)
      replace HU3 := Lib.hid (HU3.out.mono hb)
      replace HG := Lib.hid (HG.out.mono hb)
      replace HR := Lib.hid (HR.out.mono hb)
      rw [decide_eq_true rfl]
      clear z0 z1 z2 z3
      clear hb
      obtain ⟨z0, z1, z2, z3⟩ := HZ.out.cells
      go_wp2_with fail
      refine (awake_go _).mono ?_
      rintro e w10 ⟨rfl, hb⟩
      replace HZ := Lib.hid (HZ.out.mono hb)
      replace HA := Lib.hid (HA.out.mono hb)
      replace HB := Lib.hid (HB.out.mono hb)
      replace HP := Lib.hid (HP.out.mono hb)
      replace HS := Lib.hid (HS.out.mono hb)
      replace HU := Lib.hid (HU.out.mono hb)
      replace HF := Lib.hid (HF.out.mono hb)
      replace HS3 := Lib.hid (HS3.out.mono hb)
      replace HU3 := Lib.hid (HU3.out.mono hb)
      replace HG := Lib.hid (HG.out.mono hb)
      replace HR := Lib.hid (HR.out.mono hb)
      clear z0 z1 z2 z3
      clear hb
      obtain ⟨z0, z1, z2, z3⟩ := HZ.out.cells
      go_wp2_with fail
      refine (rafter_go _ x y m c m d t W p HA.out HP.out HV.out ht3).mono ?_
      rintro e w11 ⟨ha, hc, rfl, hH, hb⟩
      replace HZ := Lib.hid (HZ.out.mono hb)
      replace HA := Lib.hid (HA.out.mono hb)
      replace HB := Lib.hid (HB.out.mono hb)
      replace HP := Lib.hid (HP.out.mono hb)
      replace HS := Lib.hid (HS.out.mono hb)
      replace HU := Lib.hid (HU.out.mono hb)
      replace HF := Lib.hid (HF.out.mono hb)
      replace HS3 := Lib.hid (HS3.out.mono hb)
      replace HU3 := Lib.hid (HU3.out.mono hb)
      replace HG := Lib.hid (HG.out.mono hb)
      replace HR := Lib.hid (HR.out.mono hb)
      have HH := Lib.hid hH
      clear z0 z1 z2 z3
      clear hb
      obtain ⟨z0, z1, z2, z3⟩ := HZ.out.cells
      go_wp2_with fail
      refine (freq_go _ ga ha m gc m hc _ _ HG.out HH.out).mono ?_
      rintro e w12 ⟨rfl, hb⟩
      have hb := drewB hb
      replace HZ := Lib.hid (HZ.out.mono hb)
      replace HA := Lib.hid (HA.out.mono hb)
      replace HB := Lib.hid (HB.out.mono hb)
      replace HP := Lib.hid (HP.out.mono hb)
      replace HS := Lib.hid (HS.out.mono hb)
      replace HU := Lib.hid (HU.out.mono hb)
      replace HF := Lib.hid (HF.out.mono hb)
      replace HS3 := Lib.hid (HS3.out.mono hb)
      replace HU3 := Lib.hid (HU3.out.mono hb)
      replace HG := Lib.hid (HG.out.mono hb)
      replace HR := Lib.hid (HR.out.mono hb)
      replace HH := Lib.hid (HH.out.mono hb)
      rw [decide_eq_true rfl]
      clear hb
      go_wp2
      go_ret
      exact ⟨rfl, btr HB0.out HB.out⟩
end Go.Proofs.Ytcmakddnjmeklaa
