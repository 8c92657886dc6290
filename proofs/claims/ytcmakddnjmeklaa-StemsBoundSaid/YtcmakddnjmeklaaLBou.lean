/- Chapter 9: StemsBound's walk. -/
import Derived.Test.YtcmakddnjmeklaaRk
namespace Go.Proofs.Ytcmakddnjmeklaa
open Go.RowKit
set_option linter.unusedSimpArgs false

theorem chk_take (W : Wd) (l : List Int) (d : Int) (h4 : W.acts.length ≤ 4) : chkB W (l.take 7) d = chkB W l d := by
  by_cases h : l.length ≤ 7
  · rw [List.take_of_length_le h]
  · rw [chk_no (l := l) fun hh => by have := hh.1; omega, chk_no (l := l.take 7) fun hh => by have := hh.1; rw [List.length_take] at this; omega]
set_option maxRecDepth 100000 in
set_option maxHeartbeats 8000000 in
theorem lbou_walk (w : World) (x : Option Addr) (n c : Nat) (W : Wd) (hA : A2Sl w x n c W.acts) (yn : Option Addr) (mn dn : Nat) (nu : List Int) (hnu : Sl w yn mn dn nu) (_hnb : ∀ z ∈ nu, -9223372036854775808 ≤ z ∧ z ≤ 9223372036854775807) (dv : Int) (_hd1 : -9223372036854775808 ≤ dv) (_hd2 : dv ≤ 9223372036854775807) :
    Calls Try.prog 6 #[wv W.a W.b x n c, .slice yn mn dn, .int .i64 dv] w fun e w' => e = .returned (.bool true) ∧ Below w.heap.size w w' := by
  have hb0 := bal (Below.refl w.heap.size w) (.cells #[.int .i64 W.a, .int .i64 W.b, .slice x n c] 25)
  have HZ := Lib.hid (boxR_new w W.a W.b x n c)
  have HA := Lib.hid (hA.mono hb0)
  have HB0 := Lib.hid hb0
  have HB := Lib.hid (Bel.refl (w.alloc (.cells #[.int .i64 W.a, .int .i64 W.b, .slice x n c] 25)))
  have HNA := Lib.hid hA.1
  have hcn := hA.2.cap
  have HNU := Lib.hid (hnu.mono hb0)
  have hcu := hnu.cap
  unfold maxLen at hcn hcu
  clear hA hnu hb0
  cases hv : vWd W with
  | false =>
    have HV := Lib.hid hv
    clear hv
    go_enter Try.func6, Try.ntmps6
    go_wp2_with fail
    refine (of_any _ x n c W HA.out).mono ?_
    rintro e w1 ⟨x2, n2, c2, rfl, hs, hb⟩
    replace HZ := Lib.hid (HZ.out.mono hb)
    replace HA := Lib.hid (HA.out.mono hb)
    replace HB := Lib.hid (HB.out.mono hb)
    replace HNU := Lib.hid (HNU.out.mono hb)
    have HS := Lib.hid hs
    clear hb
    obtain ⟨z0, z1, z2, z3⟩ := HZ.out.cells
    go_wp2_with fail
    refine (bound_bad _ x2 n2 c2 W HS.out HV.out).mono ?_
    rintro e w2 ⟨a2, d2, rfl, hb⟩
    replace HZ := Lib.hid (HZ.out.mono hb)
    replace HA := Lib.hid (HA.out.mono hb)
    replace HB := Lib.hid (HB.out.mono hb)
    replace HNU := Lib.hid (HNU.out.mono hb)
    replace HS := Lib.hid (HS.out.mono hb)
    clear z0 z1 z2 z3
    clear hb
    obtain ⟨z0, z1, z2, z3⟩ := HZ.out.cells
    go_wp2_with fail
    refine (of_any _ x n c W HA.out).mono ?_
    rintro e w3 ⟨x3, n3, c3, rfl, hs3, hb⟩
    replace HZ := Lib.hid (HZ.out.mono hb)
    replace HA := Lib.hid (HA.out.mono hb)
    replace HB := Lib.hid (HB.out.mono hb)
    replace HNU := Lib.hid (HNU.out.mono hb)
    replace HS := Lib.hid (HS.out.mono hb)
    have HS3 := Lib.hid hs3
    clear z0 z1 z2 z3
    clear hb
    obtain ⟨z0, z1, z2, z3⟩ := HZ.out.cells
    go_wp2_with fail
    refine (list_go _ yn mn dn nu HNU.out).mono ?_
    rintro e w4 ⟨ua, un, uc, rfl, ho, hb⟩
    replace HZ := Lib.hid (HZ.out.mono hb)
    replace HA := Lib.hid (HA.out.mono hb)
    replace HB := Lib.hid (HB.out.mono hb)
    replace HNU := Lib.hid (HNU.out.mono hb)
    replace HS := Lib.hid (HS.out.mono hb)
    replace HS3 := Lib.hid (HS3.out.mono hb)
    have HU := Lib.hid (own_sl ho)
    clear ho
    clear z0 z1 z2 z3
    clear hb
    obtain ⟨z0, z1, z2, z3⟩ := HZ.out.cells
    go_wp2_with fail
    refine (check_bad _ x3 ua n3 c3 un uc W (nu.take 7) dv HS3.out HV.out).mono ?_
    rintro e w5 ⟨rfl, hb⟩
    replace HZ := Lib.hid (HZ.out.mono hb)
    replace HA := Lib.hid (HA.out.mono hb)
    replace HB := Lib.hid (HB.out.mono hb)
    replace HNU := Lib.hid (HNU.out.mono hb)
    replace HS := Lib.hid (HS.out.mono hb)
    replace HS3 := Lib.hid (HS3.out.mono hb)
    replace HU := Lib.hid (HU.out.mono hb)
    clear z0 z1 z2 z3
    clear hb
    obtain ⟨z0, z1, z2, z3⟩ := HZ.out.cells
    go_wp2_with fail
    refine (rvalid_go _ x n c W HA.out).mono ?_
    rintro e w6 ⟨rfl, hb⟩
    replace HZ := Lib.hid (HZ.out.mono hb)
    replace HA := Lib.hid (HA.out.mono hb)
    replace HB := Lib.hid (HB.out.mono hb)
    replace HNU := Lib.hid (HNU.out.mono hb)
    replace HS := Lib.hid (HS.out.mono hb)
    replace HS3 := Lib.hid (HS3.out.mono hb)
    replace HU := Lib.hid (HU.out.mono hb)
    rw [HV.out]
    clear z0 z1 z2 z3
    clear hb
    obtain ⟨z0, z1, z2, z3⟩ := HZ.out.cells
    go_wp2_with fail
    refine (awake_go _).mono ?_
    rintro e w7 ⟨rfl, hb⟩
    replace HZ := Lib.hid (HZ.out.mono hb)
    replace HA := Lib.hid (HA.out.mono hb)
    replace HB := Lib.hid (HB.out.mono hb)
    replace HNU := Lib.hid (HNU.out.mono hb)
    replace HS := Lib.hid (HS.out.mono hb)
    replace HS3 := Lib.hid (HS3.out.mono hb)
    replace HU := Lib.hid (HU.out.mono hb)
    clear hb
    go_wp2
    go_ret
    exact ⟨rfl, btr HB0.out HB.out⟩
  | true =>
    obtain ⟨⟨hn1, hn4, _⟩, _⟩ := vWd_parts hv
    have HCT := Lib.hid (chk_take W nu dv hn4)
    rw [HNA.out] at hn1 hn4
    have HV := Lib.hid hv
    clear hv
    go_enter Try.func6, Try.ntmps6
    go_wp2_with fail
    refine (of_ok _ x n c W HA.out HV.out).mono ?_
    rintro e w1 ⟨x2, c2, rfl, hs, hb⟩
    replace HZ := Lib.hid (HZ.out.mono hb)
    replace HA := Lib.hid (HA.out.mono hb)
    replace HB := Lib.hid (HB.out.mono hb)
    replace HNU := Lib.hid (HNU.out.mono hb)
    have HS := Lib.hid hs
    clear hb
    obtain ⟨z0, z1, z2, z3⟩ := HZ.out.cells
    go_wp2_with fail
    refine (bound_ok _ x2 n c2 W HS.out HV.out).mono ?_
    rintro e w2 ⟨po, hpo, hop, fa, fc, rfl, hF, hb⟩
    replace HZ := Lib.hid (HZ.out.mono hb)
    replace HA := Lib.hid (HA.out.mono hb)
    replace HB := Lib.hid (HB.out.mono hb)
    replace HNU := Lib.hid (HNU.out.mono hb)
    replace HS := Lib.hid (HS.out.mono hb)
    have HF := Lib.hid hF
    have HPO := Lib.hid hpo
    have HOP := Lib.hid hop
    have HEX := Lib.hid (show ∃ q, isPlanB W q = true ∧ isBestB W q = true from ⟨po, hpo, isBest_opt hpo hop⟩)
    clear hpo hop
    clear z0 z1 z2 z3
    clear hb
    obtain ⟨z0, z1, z2, z3⟩ := HZ.out.cells
    go_wp2_with fail
    refine (of_ok _ x n c W HA.out HV.out).mono ?_
    rintro e w3 ⟨x3, c3, rfl, hs3, hb⟩
    replace HZ := Lib.hid (HZ.out.mono hb)
    replace HA := Lib.hid (HA.out.mono hb)
    replace HB := Lib.hid (HB.out.mono hb)
    replace HNU := Lib.hid (HNU.out.mono hb)
    replace HS := Lib.hid (HS.out.mono hb)
    replace HF := Lib.hid (HF.out.mono hb)
    have HS3 := Lib.hid hs3
    clear z0 z1 z2 z3
    clear hb
    obtain ⟨z0, z1, z2, z3⟩ := HZ.out.cells
    go_wp2_with fail
    refine (list_go _ yn mn dn nu HNU.out).mono ?_
    rintro e w4 ⟨ua, un, uc, rfl, ho, hb⟩
    replace HZ := Lib.hid (HZ.out.mono hb)
    replace HA := Lib.hid (HA.out.mono hb)
    replace HB := Lib.hid (HB.out.mono hb)
    replace HNU := Lib.hid (HNU.out.mono hb)
    replace HS := Lib.hid (HS.out.mono hb)
    replace HF := Lib.hid (HF.out.mono hb)
    replace HS3 := Lib.hid (HS3.out.mono hb)
    have HU := Lib.hid (own_sl ho)
    clear ho
    clear z0 z1 z2 z3
    clear hb
    obtain ⟨z0, z1, z2, z3⟩ := HZ.out.cells
    go_wp2_with fail
    refine (check_go _ x3 ua n c3 un uc W (nu.take 7) dv HS3.out HU.out HV.out).mono ?_
    rintro e w5 ⟨rfl, hb⟩
    replace HZ := Lib.hid (HZ.out.mono hb)
    replace HA := Lib.hid (HA.out.mono hb)
    replace HB := Lib.hid (HB.out.mono hb)
    replace HNU := Lib.hid (HNU.out.mono hb)
    replace HS := Lib.hid (HS.out.mono hb)
    replace HF := Lib.hid (HF.out.mono hb)
    replace HS3 := Lib.hid (HS3.out.mono hb)
    replace HU := Lib.hid (HU.out.mono hb)
    rw [HCT.out]
    have HRBD := Lib.hid (fun w' y' hA' hs' => rbounds_go w' x yn n c mn y' W nu dv hA' hs' HV.out)
    clear z0 z1 z2 z3
    clear hb
    obtain ⟨z0, z1, z2, z3⟩ := HZ.out.cells
    go_wp2_with fail
    refine (rvalid_go _ x n c W HA.out).mono ?_
    rintro e w6 ⟨rfl, hb⟩
    replace HZ := Lib.hid (HZ.out.mono hb)
    replace HA := Lib.hid (HA.out.mono hb)
    replace HB := Lib.hid (HB.out.mono hb)
    replace HNU := Lib.hid (HNU.out.mono hb)
    replace HS := Lib.hid (HS.out.mono hb)
    replace HF := Lib.hid (HF.out.mono hb)
    replace HS3 := Lib.hid (HS3.out.mono hb)
    replace HU := Lib.hid (HU.out.mono hb)
    rw [HV.out]
    clear hb
    generalize chkB W nu dv = B at *
    have tB : (B == B) = true := by simp
    clear z0 z1 z2 z3
    have hC : Below w6.heap.size w6 w6.drew := (Below.refl _ _).drew
    have HSX := Lib.hid (fun (w' : World) (hb : Below w6.heap.size w6 w') =>
      (show w'.cell? ⟨w.heap.size, 0, none⟩ = some (.int .i64 W.a) ∧ w'.cell? ⟨w.heap.size, 1, none⟩ = some (.int .i64 W.b) ∧ w'.cell? ⟨w.heap.size, 2, none⟩ = some (.slice x n c) from (BoxR.cells (HZ.out.mono hb)).2))
    have HB6 := Lib.hid (btr HB0.out HB.out)
    have hzz := HZ.out.cells.1
    go_wp2
    go_region_held3 (fun w' => w'.cell? ⟨w.heap.size, 0, none⟩ = some (.int .i64 W.a) ∧ w'.cell? ⟨w.heap.size, 1, none⟩ = some (.int .i64 W.b) ∧ w'.cell? ⟨w.heap.size, 2, none⟩ = some (.slice x n c))
      (first | exact HSX.out _ hC | go_keep)
      (first
        | ((with_reducible refine (rbest_go _ x n c W (HA.out.mono hC) HV.out HEX.out).mono ?_); rintro e w' ⟨ra, rc, q, rfl, hSl, hq, hfd, hb⟩; have HRB := Lib.hid hSl; have HRQ := Lib.hid hq; have HRW := Lib.hid (isBest_same HPO.out HOP.out hq (List.find?_some hfd)); clear hfd; replace hC := btr hC hb; clear hb hSl hq)
        | ((with_reducible refine (rworth_go _ x ra n c n rc W q (HA.out.mono hC) HRB.out HRQ.out).mono ?_); rintro e w' hq9; obtain ⟨ya, yc, rfl, hG, hb⟩ := gives_fr2 hq9 (n := n) (by rw [worthF_len]; exact HNA.out); have HG := Lib.hid hG; replace hC := btr hC hb; clear hb hG hq9)
        | ((with_reducible refine (freq_go _ fa ya n fc n yc _ _ (HF.out.mono hC) HG.out).mono ?_); rintro e w' ⟨rfl, hb⟩; have hb := drewB hb; rw [decide_eq_true HRW.out.symm]; replace hC := btr hC hb; clear hb)
        | ((with_reducible refine (HRBD.out _ dn (HA.out.mono hC) (HNU.out.mono hC)).mono ?_); rintro e w' ⟨rfl, hb⟩; replace hC := btr hC hb; clear hb)
        | ((with_reducible refine (awake_go _).mono ?_); rintro e w' ⟨rfl, hb⟩; replace hC := btr hC hb; clear hb))
    all_goals go_wp2
    all_goals go_ret
    all_goals exact ⟨rfl, btr HB6.out hC⟩
end Go.Proofs.Ytcmakddnjmeklaa
