/- Chapter 9: StemsBetter's walk. -/
import Derived.Test.YtcmakddnjmeklaaWr
namespace Go.Proofs.Ytcmakddnjmeklaa
open Go.RowKit
set_option linter.unusedSimpArgs false

set_option maxRecDepth 100000 in
set_option maxHeartbeats 8000000 in
theorem lbet_walk (w : World) (x : Option Addr) (n c : Nat) (W : Wd) (hA : A2Sl w x n c W.acts) (y : Option Addr) (m d : Nat) (p : List Int) (hp : Sl w y m d p) (_hpb : ∀ z ∈ p, -9223372036854775808 ≤ z ∧ z ≤ 9223372036854775807) :
    Calls Try.prog 8 #[wv W.a W.b x n c, .slice y m d] w fun e w' => e = .returned (.bool true) ∧ Below w.heap.size w w' := by
  have hb0 := bal (Below.refl w.heap.size w) (.cells #[.int .i64 W.a, .int .i64 W.b, .slice x n c] 25)
  have HZ := Lib.hid (boxR_new w W.a W.b x n c)
  have HA := Lib.hid (hA.mono hb0)
  have HB0 := Lib.hid hb0
  have HB := Lib.hid (Bel.refl (w.alloc (.cells #[.int .i64 W.a, .int .i64 W.b, .slice x n c] 25)))
  have HNA := Lib.hid hA.1
  have hcn := hA.2.cap
  have HP := Lib.hid (hp.mono hb0)
  have hcm := hp.cap
  unfold maxLen at hcn hcm
  clear hA hp hb0
  cases hv : vWd W with
  | false =>
    have HV := Lib.hid hv
    clear hv
    go_enter Try.func8, Try.ntmps8
    go_wp2_with fail
    refine (of_any _ x n c W HA.out).mono ?_
    rintro e w1 ⟨x2, n2, c2, rfl, hs, hb⟩
    replace HZ := Lib.hid (HZ.out.mono hb)
    replace HA := Lib.hid (HA.out.mono hb)
    replace HB := Lib.hid (HB.out.mono hb)
    have HS := Lib.hid hs
    clear hb
    obtain ⟨z0, z1, z2, z3⟩ := HZ.out.cells
    go_wp2_with fail
    refine (bound_bad _ x2 n2 c2 W HS.out HV.out).mono ?_
    rintro e w2 ⟨a2, d2, rfl, hb⟩
    replace HZ := Lib.hid (HZ.out.mono hb)
    replace HA := Lib.hid (HA.out.mono hb)
    replace HB := Lib.hid (HB.out.mono hb)
    replace HS := Lib.hid (HS.out.mono hb)
    clear z0 z1 z2 z3
    clear hb
    obtain ⟨z0, z1, z2, z3⟩ := HZ.out.cells
    go_wp2_with fail
    refine (of_any _ x n c W HA.out).mono ?_
    rintro e w3 ⟨x3, n3, c3, rfl, hs3, hb⟩
    replace HZ := Lib.hid (HZ.out.mono hb)
    replace HA := Lib.hid (HA.out.mono hb)
    replace HB := Lib.hid (HB.out.mono hb)
    replace HS := Lib.hid (HS.out.mono hb)
    have HS3 := Lib.hid hs3
    clear z0 z1 z2 z3
    clear hb
    obtain ⟨z0, z1, z2, z3⟩ := HZ.out.cells
    go_wp2_with fail
    refine (best_bad _ x3 n3 c3 W HS3.out HV.out).mono ?_
    rintro e w4 ⟨a3, d3, rfl, hb⟩
    replace HZ := Lib.hid (HZ.out.mono hb)
    replace HA := Lib.hid (HA.out.mono hb)
    replace HB := Lib.hid (HB.out.mono hb)
    replace HS := Lib.hid (HS.out.mono hb)
    replace HS3 := Lib.hid (HS3.out.mono hb)
    clear z0 z1 z2 z3
    clear hb
    obtain ⟨z0, z1, z2, z3⟩ := HZ.out.cells
    go_wp2_with fail
    refine (awake_go _).mono ?_
    rintro e w5 ⟨rfl, hb⟩
    replace HZ := Lib.hid (HZ.out.mono hb)
    replace HA := Lib.hid (HA.out.mono hb)
    replace HB := Lib.hid (HB.out.mono hb)
    replace HS := Lib.hid (HS.out.mono hb)
    replace HS3 := Lib.hid (HS3.out.mono hb)
    clear z0 z1 z2 z3
    clear hb
    obtain ⟨z0, z1, z2, z3⟩ := HZ.out.cells
    go_wp2
    go_ret
    exact ⟨rfl, btr HB0.out HB.out⟩
  | true =>
    obtain ⟨⟨hn1, hn4, _⟩, _⟩ := vWd_parts hv
    rw [HNA.out] at hn1 hn4
    have HV := Lib.hid hv
    clear hv
    cases hok : isPlanB W p with
    | false =>
      have HOK := Lib.hid hok
      clear hok
      go_enter Try.func8, Try.ntmps8
      go_wp2_with fail
      refine (of_ok _ x n c W HA.out HV.out).mono ?_
      rintro e w1 ⟨x2, c2, rfl, hs, hb⟩
      replace HZ := Lib.hid (HZ.out.mono hb)
      replace HA := Lib.hid (HA.out.mono hb)
      replace HB := Lib.hid (HB.out.mono hb)
      replace HP := Lib.hid (HP.out.mono hb)
      have HS := Lib.hid hs
      clear hb
      obtain ⟨z0, z1, z2, z3⟩ := HZ.out.cells
      go_wp2_with fail
      refine (bound_ok _ x2 n c2 W HS.out HV.out).mono ?_
      rintro e w2 ⟨p2, h2, o2, a2, d2, rfl, f2, hb⟩
      replace HZ := Lib.hid (HZ.out.mono hb)
      replace HA := Lib.hid (HA.out.mono hb)
      replace HB := Lib.hid (HB.out.mono hb)
      replace HP := Lib.hid (HP.out.mono hb)
      replace HS := Lib.hid (HS.out.mono hb)
      clear z0 z1 z2 z3
      clear hb
      obtain ⟨z0, z1, z2, z3⟩ := HZ.out.cells
      go_wp2_with fail
      refine (of_ok _ x n c W HA.out HV.out).mono ?_
      rintro e w3 ⟨x3, c3, rfl, hs3, hb⟩
      replace HZ := Lib.hid (HZ.out.mono hb)
      replace HA := Lib.hid (HA.out.mono hb)
      replace HB := Lib.hid (HB.out.mono hb)
      replace HP := Lib.hid (HP.out.mono hb)
      replace HS := Lib.hid (HS.out.mono hb)
      have HS3 := Lib.hid hs3
      clear z0 z1 z2 z3
      clear hb
      obtain ⟨z0, z1, z2, z3⟩ := HZ.out.cells
      go_wp2_with fail
      refine (best_ok _ x3 n c3 W HS3.out HV.out).mono ?_
      rintro e w4 ⟨p3, h3, o3, a3, d3, rfl, f3, hb⟩
      replace HZ := Lib.hid (HZ.out.mono hb)
      replace HA := Lib.hid (HA.out.mono hb)
      replace HB := Lib.hid (HB.out.mono hb)
      replace HP := Lib.hid (HP.out.mono hb)
      replace HS := Lib.hid (HS.out.mono hb)
      replace HS3 := Lib.hid (HS3.out.mono hb)
      clear z0 z1 z2 z3
      clear hb
      obtain ⟨z0, z1, z2, z3⟩ := HZ.out.cells
      go_wp2_with fail
      refine (fine_go _ x y n c m d W p HA.out HP.out).mono ?_
      rintro e w5 ⟨rfl, hb⟩
      replace HZ := Lib.hid (HZ.out.mono hb)
      replace HA := Lib.hid (HA.out.mono hb)
      replace HB := Lib.hid (HB.out.mono hb)
      replace HP := Lib.hid (HP.out.mono hb)
      replace HS := Lib.hid (HS.out.mono hb)
      replace HS3 := Lib.hid (HS3.out.mono hb)
      rw [HOK.out]
      clear z0 z1 z2 z3
      clear hb
      obtain ⟨z0, z1, z2, z3⟩ := HZ.out.cells
      go_wp2_with fail
      refine (awake_go _).mono ?_
      rintro e w6 ⟨rfl, hb⟩
      replace HZ := Lib.hid (HZ.out.mono hb)
      replace HA := Lib.hid (HA.out.mono hb)
      replace HB := Lib.hid (HB.out.mono hb)
      replace HP := Lib.hid (HP.out.mono hb)
      replace HS := Lib.hid (HS.out.mono hb)
      replace HS3 := Lib.hid (HS3.out.mono hb)
      clear z0 z1 z2 z3
      clear hb
      obtain ⟨z0, z1, z2, z3⟩ := HZ.out.cells
      go_wp2
      go_ret
      exact ⟨rfl, btr HB0.out HB.out⟩
    | true =>
      have hmn : m = n := by
        have h1 := (plan_parts hok).2.1
        rw [HNA.out] at h1
        rw [← h1]; exact HP.out.len.symm
      subst hmn
      have HOK := Lib.hid hok
      clear hok
      go_enter Try.func8, Try.ntmps8
      go_wp2_with fail
      refine (of_ok _ x m c W HA.out HV.out).mono ?_
      rintro e w1 ⟨x2, c2, rfl, hs, hb⟩
      replace HZ := Lib.hid (HZ.out.mono hb)
      replace HA := Lib.hid (HA.out.mono hb)
      replace HB := Lib.hid (HB.out.mono hb)
      replace HP := Lib.hid (HP.out.mono hb)
      have HS := Lib.hid hs
      clear hb
      obtain ⟨z0, z1, z2, z3⟩ := HZ.out.cells
      go_wp2_with fail
      refine (bound_ok _ x2 m c2 W HS.out HV.out).mono ?_
      rintro e w2 ⟨po, hpo, hop, fa, fc, rfl, hF, hb⟩
      replace HZ := Lib.hid (HZ.out.mono hb)
      replace HA := Lib.hid (HA.out.mono hb)
      replace HB := Lib.hid (HB.out.mono hb)
      replace HP := Lib.hid (HP.out.mono hb)
      replace HS := Lib.hid (HS.out.mono hb)
      have HF := Lib.hid hF
      have HPO := Lib.hid hpo
      have HOP := Lib.hid hop
      clear hpo hop
      clear z0 z1 z2 z3
      clear hb
      obtain ⟨z0, z1, z2, z3⟩ := HZ.out.cells
      go_wp2_with fail
      refine (of_ok _ x m c W HA.out HV.out).mono ?_
      rintro e w3 ⟨x3, c3, rfl, hs3, hb⟩
      replace HZ := Lib.hid (HZ.out.mono hb)
      replace HA := Lib.hid (HA.out.mono hb)
      replace HB := Lib.hid (HB.out.mono hb)
      replace HP := Lib.hid (HP.out.mono hb)
      replace HS := Lib.hid (HS.out.mono hb)
      replace HF := Lib.hid (HF.out.mono hb)
      have HS3 := Lib.hid hs3
      clear z0 z1 z2 z3
      clear hb
      obtain ⟨z0, z1, z2, z3⟩ := HZ.out.cells
      go_wp2_with fail
      refine (best_ok _ x3 m c3 W HS3.out HV.out).mono ?_
      rintro e w4 ⟨p3, hp3, ho3, ga, gc, rfl, hg, hb⟩
      replace HZ := Lib.hid (HZ.out.mono hb)
      replace HA := Lib.hid (HA.out.mono hb)
      replace HB := Lib.hid (HB.out.mono hb)
      replace HP := Lib.hid (HP.out.mono hb)
      replace HS := Lib.hid (HS.out.mono hb)
      replace HF := Lib.hid (HF.out.mono hb)
      replace HS3 := Lib.hid (HS3.out.mono hb)
      have HG := Lib.hid hg
      have HP3 := Lib.hid (first_plan hp3)
      have HW3 := Lib.hid ((first_same hp3).trans (opt_opt hp3 HPO.out ho3 HOP.out))
      clear hp3 ho3
      clear z0 z1 z2 z3
      clear hb
      obtain ⟨z0, z1, z2, z3⟩ := HZ.out.cells
      go_wp2_with fail
      refine (fine_go _ x y m c m d W p HA.out HP.out).mono ?_
      rintro e w5 ⟨rfl, hb⟩
      replace HZ := Lib.hid (HZ.out.mono hb)
      replace HA := Lib.hid (HA.out.mono hb)
      replace HB := Lib.hid (HB.out.mono hb)
      replace HP := Lib.hid (HP.out.mono hb)
      replace HS := Lib.hid (HS.out.mono hb)
      replace HF := Lib.hid (HF.out.mono hb)
      replace HS3 := Lib.hid (HS3.out.mono hb)
      replace HG := Lib.hid (HG.out.mono hb)
      rw [HOK.out]
      clear z0 z1 z2 z3
      clear hb
      obtain ⟨z0, z1, z2, z3⟩ := HZ.out.cells
      go_wp2_with fail
      refine (lowest_ok _ fa m fc W po HF.out HPO.out).mono ?_
      rintro e w6 ⟨rfl, hb⟩
      replace HZ := Lib.hid (HZ.out.mono hb)
      replace HA := Lib.hid (HA.out.mono hb)
      replace HB := Lib.hid (HB.out.mono hb)
      replace HP := Lib.hid (HP.out.mono hb)
      replace HS := Lib.hid (HS.out.mono hb)
      replace HF := Lib.hid (HF.out.mono hb)
      replace HS3 := Lib.hid (HS3.out.mono hb)
      replace HG := Lib.hid (HG.out.mono hb)
      clear z0 z1 z2 z3
      clear hb
      obtain ⟨z0, z1, z2, z3⟩ := HZ.out.cells
      go_wp2_with fail
      refine (of_ok _ x m c W HA.out HV.out).mono ?_
      rintro e w7 ⟨x4, c4, rfl, hs4, hb⟩
      replace HZ := Lib.hid (HZ.out.mono hb)
      replace HA := Lib.hid (HA.out.mono hb)
      replace HB := Lib.hid (HB.out.mono hb)
      replace HP := Lib.hid (HP.out.mono hb)
      replace HS := Lib.hid (HS.out.mono hb)
      replace HF := Lib.hid (HF.out.mono hb)
      replace HS3 := Lib.hid (HS3.out.mono hb)
      replace HG := Lib.hid (HG.out.mono hb)
      have HS4 := Lib.hid hs4
      clear z0 z1 z2 z3
      clear hb
      obtain ⟨z0, z1, z2, z3⟩ := HZ.out.cells
      go_wp2_with fail
      refine (worth_ok _ x4 ga m c4 m gc W (firstP W p3) HS4.out HG.out HP3.out).mono ?_
      rintro e w8 ⟨ha, hc, rfl, hH, hb⟩
      replace HZ := Lib.hid (HZ.out.mono hb)
      replace HA := Lib.hid (HA.out.mono hb)
      replace HB := Lib.hid (HB.out.mono hb)
      replace HP := Lib.hid (HP.out.mono hb)
      replace HS := Lib.hid (HS.out.mono hb)
      replace HF := Lib.hid (HF.out.mono hb)
      replace HS3 := Lib.hid (HS3.out.mono hb)
      replace HG := Lib.hid (HG.out.mono hb)
      replace HS4 := Lib.hid (HS4.out.mono hb)
      have HH := Lib.hid hH
      rw [HW3.out] at HH
      clear z0 z1 z2 z3
      clear hb
      obtain ⟨z0, z1, z2, z3⟩ := HZ.out.cells
      go_wp2_with fail
      refine (freq_go _ ha fa m hc m fc _ _ HH.out HF.out).mono ?_
      rintro e w9 ⟨rfl, hb⟩
      have hb := drewB hb
      replace HZ := Lib.hid (HZ.out.mono hb)
      replace HA := Lib.hid (HA.out.mono hb)
      replace HB := Lib.hid (HB.out.mono hb)
      replace HP := Lib.hid (HP.out.mono hb)
      replace HS := Lib.hid (HS.out.mono hb)
      replace HF := Lib.hid (HF.out.mono hb)
      replace HS3 := Lib.hid (HS3.out.mono hb)
      replace HG := Lib.hid (HG.out.mono hb)
      replace HS4 := Lib.hid (HS4.out.mono hb)
      replace HH := Lib.hid (HH.out.mono hb)
      rw [decide_eq_true rfl]
      clear z0 z1 z2 z3
      clear hb
      obtain ⟨z0, z1, z2, z3⟩ := HZ.out.cells
      go_wp2_with fail
      refine (list_ok _ y m d W p HP.out HOK.out).mono ?_
      rintro e w10 ⟨na, nc, rfl, hN, hb⟩
      replace HZ := Lib.hid (HZ.out.mono hb)
      replace HA := Lib.hid (HA.out.mono hb)
      replace HB := Lib.hid (HB.out.mono hb)
      replace HP := Lib.hid (HP.out.mono hb)
      replace HS := Lib.hid (HS.out.mono hb)
      replace HF := Lib.hid (HF.out.mono hb)
      replace HS3 := Lib.hid (HS3.out.mono hb)
      replace HG := Lib.hid (HG.out.mono hb)
      replace HS4 := Lib.hid (HS4.out.mono hb)
      replace HH := Lib.hid (HH.out.mono hb)
      have HN := Lib.hid hN
      clear z0 z1 z2 z3
      clear hb
      obtain ⟨z0, z1, z2, z3⟩ := HZ.out.cells
      clear HS HS3 HS4 HG HH z0 z1 z2 z3
      go_wp2
      go_loopw [11, 85] (fun v t wr => ∃ (i : Nat) (qa : Option Addr) (qc : Nat) (q : List Int), i ≤ 82 ∧ t = .int .i64 i ∧ v = .slice qa m qc ∧ Hid (Sl wr qa m qc q) ∧ Hid (isPlanB W q = true) ∧ Hid (mu W q + i ≤ 81) ∧ Hid (Below w10.heap.size w10 wr)) (fun _ t _ => 82 - (intOf t).toNat)
      case atStart => exact ⟨0, na, nc, p, by omega, rfl, rfl, HN, HOK, Lib.hid (by have := mu_le HOK.out; omega), Lib.hid (Below.refl _ _)⟩
      case round =>
        obtain ⟨i, qa, qc, q, hi, rfl, rfl, HN2, HQ, HM, HC⟩ := hrel
        have hi81 : i < 82 := by have := HM.out; omega
        have HZ2 := Lib.hid (HZ.out.mono HC.out)
        have HA2 := Lib.hid (HA.out.mono HC.out)
        have HF2 := Lib.hid (HF.out.mono HC.out)
        have HD := Lib.hid (Bel.mono HB.out HC.out)
        have HDD := Lib.hid (Bel.refl wr)
        have hcq := HN2.out.cap
        unfold maxLen at hcq
        obtain ⟨z0, z1, z2, z3⟩ := HZ2.out.cells
        go_wp2_with fail
        refine (of_ok _ x m c W HA2.out HV.out).mono ?_
        rintro e w21 ⟨x5, c5, rfl, hs5, hb⟩
        replace HZ2 := Lib.hid (HZ2.out.mono hb)
        replace HA2 := Lib.hid (HA2.out.mono hb)
        replace HF2 := Lib.hid (HF2.out.mono hb)
        replace HD := Lib.hid (HD.out.mono hb)
        replace HDD := Lib.hid (HDD.out.mono hb)
        replace HN2 := Lib.hid (HN2.out.mono hb)
        have HS5 := Lib.hid hs5
        clear z0 z1 z2 z3
        clear hb
        obtain ⟨z0, z1, z2, z3⟩ := HZ2.out.cells
        go_wp2_with fail
        refine (clone_ok _ qa m qc q HN2.out (by omega)).mono ?_
        rintro e w22 ⟨ra, rc, rfl, hr, hb⟩
        replace HZ2 := Lib.hid (HZ2.out.mono hb)
        replace HA2 := Lib.hid (HA2.out.mono hb)
        replace HF2 := Lib.hid (HF2.out.mono hb)
        replace HD := Lib.hid (HD.out.mono hb)
        replace HDD := Lib.hid (HDD.out.mono hb)
        replace HN2 := Lib.hid (HN2.out.mono hb)
        replace HS5 := Lib.hid (HS5.out.mono hb)
        have HR := Lib.hid hr
        clear z0 z1 z2 z3
        clear hb
        obtain ⟨z0, z1, z2, z3⟩ := HZ2.out.cells
        go_wp2_with fail
        refine (worth_ok _ x5 ra m c5 m rc W q HS5.out HR.out HQ.out).mono ?_
        rintro e w23 ⟨xa, xc, rfl, hX, hb⟩
        replace HZ2 := Lib.hid (HZ2.out.mono hb)
        replace HA2 := Lib.hid (HA2.out.mono hb)
        replace HF2 := Lib.hid (HF2.out.mono hb)
        replace HD := Lib.hid (HD.out.mono hb)
        replace HDD := Lib.hid (HDD.out.mono hb)
        replace HN2 := Lib.hid (HN2.out.mono hb)
        replace HS5 := Lib.hid (HS5.out.mono hb)
        replace HR := Lib.hid (HR.out.mono hb)
        have HX := Lib.hid hX
        clear z0 z1 z2 z3
        clear hb
        obtain ⟨z0, z1, z2, z3⟩ := HZ2.out.cells
        go_wp2_with fail
        refine (of_ok _ x m c W HA2.out HV.out).mono ?_
        rintro e w24 ⟨x6, c6, rfl, hs6, hb⟩
        replace HZ2 := Lib.hid (HZ2.out.mono hb)
        replace HA2 := Lib.hid (HA2.out.mono hb)
        replace HF2 := Lib.hid (HF2.out.mono hb)
        replace HD := Lib.hid (HD.out.mono hb)
        replace HDD := Lib.hid (HDD.out.mono hb)
        replace HN2 := Lib.hid (HN2.out.mono hb)
        replace HS5 := Lib.hid (HS5.out.mono hb)
        replace HR := Lib.hid (HR.out.mono hb)
        replace HX := Lib.hid (HX.out.mono hb)
        have HS6 := Lib.hid hs6
        clear z0 z1 z2 z3
        clear hb
        obtain ⟨z0, z1, z2, z3⟩ := HZ2.out.cells
        go_wp2_with fail
        refine (clone_ok _ qa m qc q HN2.out (by omega)).mono ?_
        rintro e w25 ⟨sa, sc, rfl, hs, hb⟩
        replace HZ2 := Lib.hid (HZ2.out.mono hb)
        replace HA2 := Lib.hid (HA2.out.mono hb)
        replace HF2 := Lib.hid (HF2.out.mono hb)
        replace HD := Lib.hid (HD.out.mono hb)
        replace HDD := Lib.hid (HDD.out.mono hb)
        replace HN2 := Lib.hid (HN2.out.mono hb)
        replace HS5 := Lib.hid (HS5.out.mono hb)
        replace HR := Lib.hid (HR.out.mono hb)
        replace HX := Lib.hid (HX.out.mono hb)
        replace HS6 := Lib.hid (HS6.out.mono hb)
        have HR2 := Lib.hid hs
        clear z0 z1 z2 z3
        clear hb
        obtain ⟨z0, z1, z2, z3⟩ := HZ2.out.cells
        cases hf : foundP W q with
        | false =>
          have HFF := Lib.hid hf
          have HEND := Lib.hid (chain_end HPO.out HOP.out HQ.out hf)
          clear hf
          go_wp2_with fail
          refine (better_end _ x6 sa m c6 m sc W q HS6.out HR2.out HQ.out HFF.out).mono ?_
          rintro e w26 ⟨ea, ec, rfl, hb⟩
          replace HZ2 := Lib.hid (HZ2.out.mono hb)
          replace HA2 := Lib.hid (HA2.out.mono hb)
          replace HF2 := Lib.hid (HF2.out.mono hb)
          replace HD := Lib.hid (HD.out.mono hb)
          replace HDD := Lib.hid (HDD.out.mono hb)
          replace HN2 := Lib.hid (HN2.out.mono hb)
          replace HS5 := Lib.hid (HS5.out.mono hb)
          replace HR := Lib.hid (HR.out.mono hb)
          replace HX := Lib.hid (HX.out.mono hb)
          replace HS6 := Lib.hid (HS6.out.mono hb)
          replace HR2 := Lib.hid (HR2.out.mono hb)
          clear z0 z1 z2 z3
          clear hb
          obtain ⟨z0, z1, z2, z3⟩ := HZ2.out.cells
          go_wp2_with fail
          refine (lowest_ok _ xa m xc W q HX.out HQ.out).mono ?_
          rintro e w27 ⟨rfl, hb⟩
          replace HZ2 := Lib.hid (HZ2.out.mono hb)
          replace HA2 := Lib.hid (HA2.out.mono hb)
          replace HF2 := Lib.hid (HF2.out.mono hb)
          replace HD := Lib.hid (HD.out.mono hb)
          replace HDD := Lib.hid (HDD.out.mono hb)
          replace HN2 := Lib.hid (HN2.out.mono hb)
          replace HS5 := Lib.hid (HS5.out.mono hb)
          replace HR := Lib.hid (HR.out.mono hb)
          replace HX := Lib.hid (HX.out.mono hb)
          replace HS6 := Lib.hid (HS6.out.mono hb)
          replace HR2 := Lib.hid (HR2.out.mono hb)
          clear z0 z1 z2 z3
          clear hb
          obtain ⟨z0, z1, z2, z3⟩ := HZ2.out.cells
          rw [HEND.out] at HX
          go_wp2_with fail
          refine (freq_go _ xa fa m xc m fc _ _ HX.out HF2.out).mono ?_
          rintro e w28 ⟨rfl, hb⟩
          have hb := drewB hb
          replace HZ2 := Lib.hid (HZ2.out.mono hb)
          replace HA2 := Lib.hid (HA2.out.mono hb)
          replace HF2 := Lib.hid (HF2.out.mono hb)
          replace HD := Lib.hid (HD.out.mono hb)
          replace HDD := Lib.hid (HDD.out.mono hb)
          replace HN2 := Lib.hid (HN2.out.mono hb)
          replace HS5 := Lib.hid (HS5.out.mono hb)
          replace HR := Lib.hid (HR.out.mono hb)
          replace HX := Lib.hid (HX.out.mono hb)
          replace HS6 := Lib.hid (HS6.out.mono hb)
          replace HR2 := Lib.hid (HR2.out.mono hb)
          rw [decide_eq_true rfl]
          clear z0 z1 z2 z3
          clear hb
          obtain ⟨z0, z1, z2, z3⟩ := HZ2.out.cells
          go_wp2_with fail
          refine (awake_go _).mono ?_
          rintro e w29 ⟨rfl, hb⟩
          replace HZ2 := Lib.hid (HZ2.out.mono hb)
          replace HA2 := Lib.hid (HA2.out.mono hb)
          replace HF2 := Lib.hid (HF2.out.mono hb)
          replace HD := Lib.hid (HD.out.mono hb)
          replace HDD := Lib.hid (HDD.out.mono hb)
          replace HN2 := Lib.hid (HN2.out.mono hb)
          replace HS5 := Lib.hid (HS5.out.mono hb)
          replace HR := Lib.hid (HR.out.mono hb)
          replace HX := Lib.hid (HX.out.mono hb)
          replace HS6 := Lib.hid (HS6.out.mono hb)
          replace HR2 := Lib.hid (HR2.out.mono hb)
          clear z0 z1 z2 z3
          clear hb
          obtain ⟨z0, z1, z2, z3⟩ := HZ2.out.cells
          go_wp2
          go_ret
          exact ⟨rfl, btr HB0.out HD.out⟩
        | true =>
          have HFF := Lib.hid hf
          have HGT := Lib.hid (chain_gt HQ.out hf)
          have HMU := Lib.hid (chain_mu HQ.out hf)
          have HNP := Lib.hid (next_plan HQ.out)
          clear hf
          go_wp2_with fail
          refine (better_yes _ x6 sa m c6 m sc W q HS6.out HR2.out HQ.out HFF.out).mono ?_
          rintro e w36 ⟨ea, ec, rfl, hE, hb⟩
          replace HZ2 := Lib.hid (HZ2.out.mono hb)
          replace HA2 := Lib.hid (HA2.out.mono hb)
          replace HF2 := Lib.hid (HF2.out.mono hb)
          replace HD := Lib.hid (HD.out.mono hb)
          replace HDD := Lib.hid (HDD.out.mono hb)
          replace HN2 := Lib.hid (HN2.out.mono hb)
          replace HS5 := Lib.hid (HS5.out.mono hb)
          replace HR := Lib.hid (HR.out.mono hb)
          replace HX := Lib.hid (HX.out.mono hb)
          replace HS6 := Lib.hid (HS6.out.mono hb)
          replace HR2 := Lib.hid (HR2.out.mono hb)
          have HE := Lib.hid hE
          clear z0 z1 z2 z3
          clear hb
          obtain ⟨z0, z1, z2, z3⟩ := HZ2.out.cells
          go_wp2_with fail
          refine (lowest_ok _ xa m xc W q HX.out HQ.out).mono ?_
          rintro e w37 ⟨rfl, hb⟩
          replace HZ2 := Lib.hid (HZ2.out.mono hb)
          replace HA2 := Lib.hid (HA2.out.mono hb)
          replace HF2 := Lib.hid (HF2.out.mono hb)
          replace HD := Lib.hid (HD.out.mono hb)
          replace HDD := Lib.hid (HDD.out.mono hb)
          replace HN2 := Lib.hid (HN2.out.mono hb)
          replace HS5 := Lib.hid (HS5.out.mono hb)
          replace HR := Lib.hid (HR.out.mono hb)
          replace HX := Lib.hid (HX.out.mono hb)
          replace HS6 := Lib.hid (HS6.out.mono hb)
          replace HR2 := Lib.hid (HR2.out.mono hb)
          replace HE := Lib.hid (HE.out.mono hb)
          clear z0 z1 z2 z3
          clear hb
          obtain ⟨z0, z1, z2, z3⟩ := HZ2.out.cells
          go_wp2_with fail
          refine (of_ok _ x m c W HA2.out HV.out).mono ?_
          rintro e w38 ⟨x7, c7, rfl, hs7, hb⟩
          replace HZ2 := Lib.hid (HZ2.out.mono hb)
          replace HA2 := Lib.hid (HA2.out.mono hb)
          replace HF2 := Lib.hid (HF2.out.mono hb)
          replace HD := Lib.hid (HD.out.mono hb)
          replace HDD := Lib.hid (HDD.out.mono hb)
          replace HN2 := Lib.hid (HN2.out.mono hb)
          replace HS5 := Lib.hid (HS5.out.mono hb)
          replace HR := Lib.hid (HR.out.mono hb)
          replace HX := Lib.hid (HX.out.mono hb)
          replace HS6 := Lib.hid (HS6.out.mono hb)
          replace HR2 := Lib.hid (HR2.out.mono hb)
          replace HE := Lib.hid (HE.out.mono hb)
          have HS7 := Lib.hid hs7
          clear z0 z1 z2 z3
          clear hb
          obtain ⟨z0, z1, z2, z3⟩ := HZ2.out.cells
          go_wp2_with fail
          refine (clone_ok _ ea m ec (nextP W q) HE.out (by omega)).mono ?_
          rintro e w39 ⟨ta, tc, rfl, ht, hb⟩
          replace HZ2 := Lib.hid (HZ2.out.mono hb)
          replace HA2 := Lib.hid (HA2.out.mono hb)
          replace HF2 := Lib.hid (HF2.out.mono hb)
          replace HD := Lib.hid (HD.out.mono hb)
          replace HDD := Lib.hid (HDD.out.mono hb)
          replace HN2 := Lib.hid (HN2.out.mono hb)
          replace HS5 := Lib.hid (HS5.out.mono hb)
          replace HR := Lib.hid (HR.out.mono hb)
          replace HX := Lib.hid (HX.out.mono hb)
          replace HS6 := Lib.hid (HS6.out.mono hb)
          replace HR2 := Lib.hid (HR2.out.mono hb)
          replace HE := Lib.hid (HE.out.mono hb)
          replace HS7 := Lib.hid (HS7.out.mono hb)
          have HT := Lib.hid ht
          clear z0 z1 z2 z3
          clear hb
          obtain ⟨z0, z1, z2, z3⟩ := HZ2.out.cells
          go_wp2_with fail
          refine (worth_ok _ x7 ta m c7 m tc W (nextP W q) HS7.out HT.out HNP.out).mono ?_
          rintro e w40 ⟨ya, yc, rfl, hY, hb⟩
          replace HZ2 := Lib.hid (HZ2.out.mono hb)
          replace HA2 := Lib.hid (HA2.out.mono hb)
          replace HF2 := Lib.hid (HF2.out.mono hb)
          replace HD := Lib.hid (HD.out.mono hb)
          replace HDD := Lib.hid (HDD.out.mono hb)
          replace HN2 := Lib.hid (HN2.out.mono hb)
          replace HS5 := Lib.hid (HS5.out.mono hb)
          replace HR := Lib.hid (HR.out.mono hb)
          replace HX := Lib.hid (HX.out.mono hb)
          replace HS6 := Lib.hid (HS6.out.mono hb)
          replace HR2 := Lib.hid (HR2.out.mono hb)
          replace HE := Lib.hid (HE.out.mono hb)
          replace HS7 := Lib.hid (HS7.out.mono hb)
          replace HT := Lib.hid (HT.out.mono hb)
          have HY := Lib.hid hY
          clear z0 z1 z2 z3
          clear hb
          obtain ⟨z0, z1, z2, z3⟩ := HZ2.out.cells
          go_wp2_with fail
          refine (lowest_ok _ ya m yc W (nextP W q) HY.out HNP.out).mono ?_
          rintro e w41 ⟨rfl, hb⟩
          replace HZ2 := Lib.hid (HZ2.out.mono hb)
          replace HA2 := Lib.hid (HA2.out.mono hb)
          replace HF2 := Lib.hid (HF2.out.mono hb)
          replace HD := Lib.hid (HD.out.mono hb)
          replace HDD := Lib.hid (HDD.out.mono hb)
          replace HN2 := Lib.hid (HN2.out.mono hb)
          replace HS5 := Lib.hid (HS5.out.mono hb)
          replace HR := Lib.hid (HR.out.mono hb)
          replace HX := Lib.hid (HX.out.mono hb)
          replace HS6 := Lib.hid (HS6.out.mono hb)
          replace HR2 := Lib.hid (HR2.out.mono hb)
          replace HE := Lib.hid (HE.out.mono hb)
          replace HS7 := Lib.hid (HS7.out.mono hb)
          replace HT := Lib.hid (HT.out.mono hb)
          replace HY := Lib.hid (HY.out.mono hb)
          clear z0 z1 z2 z3
          clear hb
          obtain ⟨z0, z1, z2, z3⟩ := HZ2.out.cells
          have hcx := HX.out.2.cap
          have hcy := HY.out.2.cap
          have hcf := HF2.out.2.cap
          unfold maxLen at hcx hcy hcf
          clear HS5 HS6 HS7 HR HR2 HT HN2 z0 z1 z2 z3
          go_wp2
          go_loopw [18, 153] (fun v t wr => ∃ (s : Nat) (f : Bool), s ≤ m ∧ t = .int .i64 s ∧ v = .bool f ∧ Hid (f = true ∨ ∀ j, j < s → decide ((fr (worthF W q) j).n * (fr (worthF W (nextP W q)) j).d < (fr (worthF W (nextP W q)) j).n * (fr (worthF W q) j).d) = false) ∧ Hid (Below w41.heap.size w41 wr)) (fun _ t _ => m - (intOf t).toNat)
          case atStart => exact ⟨0, false, by omega, rfl, rfl, Lib.hid (Or.inr fun j hj => by omega), Lib.hid (Below.refl _ _)⟩
          case round =>
            obtain ⟨s, f, hs, rfl, rfl, HFN, HE2⟩ := hrel
            by_cases hl : s < m
            · have hsA : s < W.acts.length := by rw [HNA.out]; exact hl
              obtain ⟨b1, o1, rfl, hb1, h1⟩ := (HX.out.mono HE2.out).at (by omega)
              obtain ⟨b2, o2, rfl, hb2, h2⟩ := (HY.out.mono HE2.out).at (by omega)
              obtain ⟨b3, o3, rfl, hb3, h3⟩ := (HF2.out.mono HE2.out).at (by omega)
              obtain ⟨p1, p2⟩ := h1 s hl
              obtain ⟨p3, p4⟩ := h2 s hl
              obtain ⟨p5, p6⟩ := h3 s hl
              have hge := chain_ge HQ.out hsA
              have hop := chain_opt HPO.out HOP.out HNP.out hsA
              have lx := worth_low HQ.out hsA
              have ly := worth_low HNP.out hsA
              have lb := worth_low HPO.out hsA
              obtain ⟨gt, hgt⟩ : ∃ gt, decide ((fr (worthF W q) s).n * (fr (worthF W (nextP W q)) s).d < (fr (worthF W (nextP W q)) s).n * (fr (worthF W q) s).d) = gt := ⟨_, rfl⟩
              have HFS := Lib.hid (show ∀ f', f' = (f || gt) → (f' = true ∨ ∀ j, j < s + 1 → decide ((fr (worthF W q) j).n * (fr (worthF W (nextP W q)) j).d < (fr (worthF W (nextP W q)) j).n * (fr (worthF W q) j).d) = false) from by
                intro f' hf'
                subst hf'
                rcases HFN.out with h | h
                · rw [h]; exact Or.inl rfl
                · cases gt with
                  | true => exact Or.inl (by cases f <;> rfl)
                  | false =>
                    refine Or.inr fun j hj => ?_
                    by_cases e : j = s
                    · subst e; exact hgt
                    · exact h j (by omega))
              have i1 : s < xc := by omega
              have i2 : s < yc := by omega
              have i3 : s < fc := by omega
              generalize fr (worthF W q) s = fx at *
              generalize fr (worthF W (nextP W q)) s = fy at *
              generalize fr (worthF W po) s = fb at *
              have HGE := Lib.hid hge
              have HOP2 := Lib.hid hop
              have HGTT := Lib.hid hgt
              have HLX := Lib.hid lx
              have HLY := Lib.hid ly
              have HLB := Lib.hid lb
              have hC : Below wr.heap.size wr wr.drew := (Below.refl _ _).drew
              have HSX := Lib.hid (fun (w' : World) (hb : Below wr.heap.size wr w') =>
                (show w'.cell? ⟨b1, o1 + s * 2, none⟩ = some (.int .i64 fx.n) ∧ w'.cell? ⟨b1, o1 + s * 2 + 1, none⟩ = some (.int .i64 fx.d) ∧ w'.cell? ⟨b2, o2 + s * 2, none⟩ = some (.int .i64 fy.n) ∧ w'.cell? ⟨b2, o2 + s * 2 + 1, none⟩ = some (.int .i64 fy.d) ∧ w'.cell? ⟨b3, o3 + s * 2, none⟩ = some (.int .i64 fb.n) ∧ w'.cell? ⟨b3, o3 + s * 2 + 1, none⟩ = some (.int .i64 fb.d) from
                  ⟨((bcell hb).1 _ _ hb1).trans p1, ((bcell hb).1 _ _ hb1).trans p2, ((bcell hb).1 _ _ hb2).trans p3, ((bcell hb).1 _ _ hb2).trans p4, ((bcell hb).1 _ _ hb3).trans p5, ((bcell hb).1 _ _ hb3).trans p6⟩))
              obtain ⟨r1, r2, r3, r4, r5, r6⟩ := HSX.out _ hC
              clear h1 h2 h3 hge hop lx ly lb hgt p1 p2 p3 p4 p5 p6
              go_wp2
              go_region_held3 (fun w' => w'.cell? ⟨b1, o1 + s * 2, none⟩ = some (.int .i64 fx.n) ∧ w'.cell? ⟨b1, o1 + s * 2 + 1, none⟩ = some (.int .i64 fx.d) ∧ w'.cell? ⟨b2, o2 + s * 2, none⟩ = some (.int .i64 fy.n) ∧ w'.cell? ⟨b2, o2 + s * 2 + 1, none⟩ = some (.int .i64 fy.d) ∧ w'.cell? ⟨b3, o3 + s * 2, none⟩ = some (.int .i64 fb.n) ∧ w'.cell? ⟨b3, o3 + s * 2 + 1, none⟩ = some (.int .i64 fb.d))
                (first | exact HSX.out _ hC | go_keep)
                (first
                  | ((with_reducible refine (less_go _ fy fx HLY.out HLX.out).mono ?_); rintro e w' ⟨rfl, hb⟩; rw [HGE.out]; replace hC := btr hC hb; clear hb)
                  | ((with_reducible refine (less_go _ fb fy HLB.out HLY.out).mono ?_); rintro e w' ⟨rfl, hb⟩; rw [HOP2.out]; replace hC := btr hC hb; clear hb))
              clear r1 r2 r3 r4 r5 r6
              obtain ⟨r1, r2, r3, r4, r5, r6⟩ := HSX.out _ hC.drew
              go_wp2
              cases f with
              | true =>
                go_quiet (fail)
                all_goals go_wp2
                all_goals go_roundw
                all_goals first
                  | (case rel => go_light; exact ⟨s + 1, true, by omega, by go_num, rfl, Lib.hid (HFS.out _ rfl), (by first | exact Lib.hid (btr HE2.out hC) | exact Lib.hid (btr HE2.out hC.drew) | exact Lib.hid (btr HE2.out hC.drew.drew) | exact Lib.hid (btr HE2.out (drewN_below hC)) | trace_state)⟩)
                  | (case measure => simp [intOf]; omega)
              | false =>
                replace hC := hC.drew
                go_region_held3 (fun w' => w'.cell? ⟨b1, o1 + s * 2, none⟩ = some (.int .i64 fx.n) ∧ w'.cell? ⟨b1, o1 + s * 2 + 1, none⟩ = some (.int .i64 fx.d) ∧ w'.cell? ⟨b2, o2 + s * 2, none⟩ = some (.int .i64 fy.n) ∧ w'.cell? ⟨b2, o2 + s * 2 + 1, none⟩ = some (.int .i64 fy.d))
                  (first | exact ⟨r1, r2, r3, r4⟩ | (obtain ⟨q1, q2, q3, q4, _⟩ := HSX.out _ hC; exact ⟨q1, q2, q3, q4⟩) | go_keep)
                  (((with_reducible refine (less_go _ fx fy HLX.out HLY.out).mono ?_); rintro e w' ⟨rfl, hb⟩; rw [HGTT.out]; replace hC := btr hC hb; clear hb))
                all_goals go_wp2
                all_goals go_roundw
                all_goals first
                  | (case rel => go_light; exact ⟨s + 1, gt, by omega, by go_num, rfl, Lib.hid (HFS.out _ rfl), Lib.hid (btr HE2.out hC)⟩)
                  | (case measure => simp [intOf]; omega)
            · obtain rfl : s = m := by omega
              obtain rfl : f = true := by
                rcases HFN.out with h | h
                · exact h
                · obtain ⟨j, hj, hj2⟩ := HGT.out
                  rw [HNA.out] at hj
                  rw [h j hj] at hj2
                  cases hj2
              have HEL := Lib.hid (HE.out.mono HE2.out)
              have HDL := Lib.hid (btr HC.out (btr HDD.out HE2.out))
              go_wp2
              go_roundw
              case rel => go_light; exact ⟨i + 1, _, _, nextP W q, by omega, by go_num, rfl, HEL, HNP, Lib.hid (by have := HM.out; have := HMU.out; omega), HDL⟩
              case measure => simp [intOf]; omega
end Go.Proofs.Ytcmakddnjmeklaa
