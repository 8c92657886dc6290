/- Chapter 9: StemsBest's walk. -/
import Derived.Test.YtcmakddnjmeklaaRn
namespace Go.Proofs.Ytcmakddnjmeklaa
open Go.RowKit
set_option linter.unusedSimpArgs false

set_option maxHeartbeats 400000 in
theorem ieq_nil (w : World) (a b : Option Addr) (c d : Nat) :
    Calls Try.prog 29 #[.slice a 0 c, .slice b 0 d] w fun e w' => e = .returned (.bool true) ∧ ∃ m, w' = w.drewN m := by
  go_enter Try.func29, Try.ntmps29
  go_wp2
  go_loop [13] (fun i => i = .int .i64 0) (fun _ => 0)
  case atStart => rfl
  case round =>
    subst hrel
    go_wp2
    go_ret
    exact ⟨rfl, 0, rfl⟩
set_option maxHeartbeats 400000 in
theorem ieq_go (w : World) (a c : Option Addr) (n p m q : Nat) (l k : List Int) (hs : Sl w a n p l) (ht : Sl w c m q k) :
    Calls Try.prog 29 #[.slice a n p, .slice c m q] w fun e w' => e = .returned (.bool (decide (l = k))) ∧ ∃ m, w' = w.drewN m := by
  have hl := hs.len
  have hk := ht.len
  by_cases hnm : n = m
  · subst hnm
    have HL := Lib.hid hl
    have HK := Lib.hid hk
    have hcp := hs.cap
    have hcq := ht.cap
    unfold maxLen at hcp hcq
    by_cases h0 : n = 0
    · subst h0
      refine (ieq_nil w a c p q).mono fun e w' h => ⟨?_, h.2⟩
      rw [h.1, List.eq_nil_of_length_eq_zero hl, List.eq_nil_of_length_eq_zero hk]
      rfl
    obtain ⟨b, off, rfl, hb, hc⟩ := hs.at (by omega)
    obtain ⟨b2, off2, rfl, hb2, hc2⟩ := ht.at (by omega)
    clear hs ht hl hk
    go_enter Try.func29, Try.ntmps29
    go_wp2
    go_loopw [13] (fun i wr => ∃ j : Nat, j ≤ n ∧ i = .int .i64 j ∧ Hid (∃ m, wr = w.drewN m) ∧ Hid (∀ i, i < j → nth l i = nth k i)) (fun i _ => n - (intOf i).toNat)
    case atStart => exact ⟨0, by omega, rfl, Lib.hid ⟨0, rfl⟩, Lib.hid fun i hi => by omega⟩
    case round =>
      obtain ⟨j, hj, rfl, HW, HR⟩ := hrel
      by_cases hlt : j < n
      · have hck : wr.cell? ⟨b, off + j, none⟩ = some (.int .i64 (nth l j)) := by obtain ⟨m, rfl⟩ := HW.out; exact hc j hlt
        have hck2 : wr.cell? ⟨b2, off2 + j, none⟩ = some (.int .i64 (nth k j)) := by obtain ⟨m, rfl⟩ := HW.out; exact hc2 j hlt
        go_wp2
        go_quiet (fail)
        by_cases q : nth l j = nth k j
        · go_wp2
          go_roundw
          case rel =>
            refine ⟨j + 1, by omega, by go_num, ?_, Lib.hid fun i hi => ?_⟩
            · obtain ⟨m, rfl⟩ := HW.out; exact Lib.hid ⟨m + nq, by rw [World.drewN_drewN]⟩
            · rcases Nat.lt_or_ge i j with h | h
              · exact HR.out i h
              · obtain rfl : i = j := by omega
                exact q
          case measure => simp [intOf]; omega
        · go_wp2
          go_ret
          rw [decide_eq_false fun e => q (by rw [e])]
          refine ⟨rfl, ?_⟩
          obtain ⟨m, rfl⟩ := HW.out; exact ⟨m + nq, by rw [World.drewN_drewN]⟩
      · obtain rfl : j = n := by omega
        go_wp2
        go_ret
        rw [decide_eq_true (show l = k from nth_ext (by rw [HL.out, HK.out]) fun i hi => HR.out i (by have := HL.out; omega))]
        exact ⟨rfl, HW.out⟩
  · have hne : ((n : Int) != (m : Int)) = true := by rw [bne_iff_ne]; omega
    go_enter Try.func29, Try.ntmps29
    go_wp2
    go_ret
    rw [decide_eq_false fun e => hnm (by rw [← hl, ← hk, e])]
    exact ⟨rfl, 0, rfl⟩
set_option maxRecDepth 100000 in
set_option maxHeartbeats 8000000 in
theorem lbst_walk (w : World) (x : Option Addr) (n c : Nat) (W : Wd) (hA : A2Sl w x n c W.acts) (y : Option Addr) (m d : Nat) (p : List Int) (hp : Sl w y m d p) (_hpb : ∀ z ∈ p, -9223372036854775808 ≤ z ∧ z ≤ 9223372036854775807) :
    Calls Try.prog 5 #[wv W.a W.b x n c, .slice y m d] w fun e w' => e = .returned (.bool true) ∧ Below w.heap.size w w' := by
  have hb0 := bal (Below.refl w.heap.size w) (.cells #[.int .i64 W.a, .int .i64 W.b, .slice x n c] 25)
  have HZ := Lib.hid (boxR_new w W.a W.b x n c)
  have HA := Lib.hid (hA.mono hb0)
  have HB0 := Lib.hid hb0
  have HB := Lib.hid (Bel.refl (w.alloc (.cells #[.int .i64 W.a, .int .i64 W.b, .slice x n c] 25)))
  have HNA := Lib.hid hA.1
  have hcn := hA.2.cap
  have HP := Lib.hid (hp.mono hb0)
  have hcm := hp.cap
  unfold maxLen at hcn hcm
  clear hA hp hb0
  cases hv : vWd W with
  | false =>
    have HV := Lib.hid hv
    have HOK := Lib.hid (show isPlanB W p = false by unfold isPlanB; rw [hv]; rfl)
    clear hv
    go_enter Try.func5, Try.ntmps5
    go_wp2_with fail
    refine (of_any _ x n c W HA.out).mono ?_
    rintro e w1 ⟨x2, n2, c2, rfl, hs, hb⟩
    replace HZ := Lib.hid (HZ.out.mono hb)
    replace HA := Lib.hid (HA.out.mono hb)
    replace HB := Lib.hid (HB.out.mono hb)
    replace HP := Lib.hid (HP.out.mono hb)
    have HS := Lib.hid hs
    clear hb
    obtain ⟨z0, z1, z2, z3⟩ := HZ.out.cells
    go_wp2_with fail
    refine (best_bad _ x2 n2 c2 W HS.out HV.out).mono ?_
    rintro e w2 ⟨a2, d2, rfl, hb⟩
    replace HZ := Lib.hid (HZ.out.mono hb)
    replace HA := Lib.hid (HA.out.mono hb)
    replace HB := Lib.hid (HB.out.mono hb)
    replace HP := Lib.hid (HP.out.mono hb)
    replace HS := Lib.hid (HS.out.mono hb)
    clear z0 z1 z2 z3
    clear hb
    obtain ⟨z0, z1, z2, z3⟩ := HZ.out.cells
    go_wp2_with fail
    refine (of_any _ x n c W HA.out).mono ?_
    rintro e w3 ⟨x3, n3, c3, rfl, hs3, hb⟩
    replace HZ := Lib.hid (HZ.out.mono hb)
    replace HA := Lib.hid (HA.out.mono hb)
    replace HB := Lib.hid (HB.out.mono hb)
    replace HP := Lib.hid (HP.out.mono hb)
    replace HS := Lib.hid (HS.out.mono hb)
    have HS3 := Lib.hid hs3
    clear z0 z1 z2 z3
    clear hb
    obtain ⟨z0, z1, z2, z3⟩ := HZ.out.cells
    go_wp2_with fail
    refine (list_go _ y m d p HP.out).mono ?_
    rintro e w4 ⟨ua, un, uc, rfl, ho, hb⟩
    replace HZ := Lib.hid (HZ.out.mono hb)
    replace HA := Lib.hid (HA.out.mono hb)
    replace HB := Lib.hid (HB.out.mono hb)
    replace HP := Lib.hid (HP.out.mono hb)
    replace HS := Lib.hid (HS.out.mono hb)
    replace HS3 := Lib.hid (HS3.out.mono hb)
    have HU := Lib.hid (own_sl ho)
    clear ho
    clear z0 z1 z2 z3
    clear hb
    obtain ⟨z0, z1, z2, z3⟩ := HZ.out.cells
    go_wp2_with fail
    refine (better_bad _ x3 ua n3 c3 un uc W p HS3.out HU.out HOK.out).mono ?_
    rintro e w5 ⟨a4, d4, rfl, hb⟩
    replace HZ := Lib.hid (HZ.out.mono hb)
    replace HA := Lib.hid (HA.out.mono hb)
    replace HB := Lib.hid (HB.out.mono hb)
    replace HP := Lib.hid (HP.out.mono hb)
    replace HS := Lib.hid (HS.out.mono hb)
    replace HS3 := Lib.hid (HS3.out.mono hb)
    replace HU := Lib.hid (HU.out.mono hb)
    clear z0 z1 z2 z3
    clear hb
    obtain ⟨z0, z1, z2, z3⟩ := HZ.out.cells
    go_wp2_with fail
    refine (rvalid_go _ x n c W HA.out).mono ?_
    rintro e w6 ⟨rfl, hb⟩
    replace HZ := Lib.hid (HZ.out.mono hb)
    replace HA := Lib.hid (HA.out.mono hb)
    replace HB := Lib.hid (HB.out.mono hb)
    replace HP := Lib.hid (HP.out.mono hb)
    replace HS := Lib.hid (HS.out.mono hb)
    replace HS3 := Lib.hid (HS3.out.mono hb)
    replace HU := Lib.hid (HU.out.mono hb)
    rw [HV.out]
    clear z0 z1 z2 z3
    clear hb
    obtain ⟨z0, z1, z2, z3⟩ := HZ.out.cells
    go_wp2_with fail
    refine (awake_go _).mono ?_
    rintro e w7 ⟨rfl, hb⟩
    replace HZ := Lib.hid (HZ.out.mono hb)
    replace HA := Lib.hid (HA.out.mono hb)
    replace HB := Lib.hid (HB.out.mono hb)
    replace HP := Lib.hid (HP.out.mono hb)
    replace HS := Lib.hid (HS.out.mono hb)
    replace HS3 := Lib.hid (HS3.out.mono hb)
    replace HU := Lib.hid (HU.out.mono hb)
    clear hb
    go_wp2
    go_ret
    exact ⟨rfl, btr HB0.out HB.out⟩
  | true =>
    obtain ⟨⟨hn1, hn4, _⟩, _⟩ := vWd_parts hv
    rw [HNA.out] at hn1 hn4
    have HV := Lib.hid hv
    cases hok : isPlanB W p with
    | false =>
      have HOK := Lib.hid hok
      have HPK := Lib.hid (show planOk W.acts p = false by unfold isPlanB at hok; rw [hv, Bool.true_and] at hok; exact hok)
      clear hv hok
      go_enter Try.func5, Try.ntmps5
      go_wp2_with fail
      refine (of_ok _ x n c W HA.out HV.out).mono ?_
      rintro e w1 ⟨x2, c2, rfl, hs, hb⟩
      replace HZ := Lib.hid (HZ.out.mono hb)
      replace HA := Lib.hid (HA.out.mono hb)
      replace HB := Lib.hid (HB.out.mono hb)
      replace HP := Lib.hid (HP.out.mono hb)
      have HS := Lib.hid hs
      clear hb
      obtain ⟨z0, z1, z2, z3⟩ := HZ.out.cells
      go_wp2_with fail
      refine (best_ok _ x2 n c2 W HS.out HV.out).mono ?_
      rintro e w2 ⟨po, hpo, hop, fa, fc, rfl, hF, hb⟩
      replace HZ := Lib.hid (HZ.out.mono hb)
      replace HA := Lib.hid (HA.out.mono hb)
      replace HB := Lib.hid (HB.out.mono hb)
      replace HP := Lib.hid (HP.out.mono hb)
      replace HS := Lib.hid (HS.out.mono hb)
      have HF := Lib.hid hF
      have HPO := Lib.hid hpo
      have HOP := Lib.hid hop
      clear hpo hop
      clear z0 z1 z2 z3
      clear hb
      obtain ⟨z0, z1, z2, z3⟩ := HZ.out.cells
      go_wp2_with fail
      refine (of_any _ x n c W HA.out).mono ?_
      rintro e w3 ⟨x3, n3, c3, rfl, hs3, hb⟩
      replace HZ := Lib.hid (HZ.out.mono hb)
      replace HA := Lib.hid (HA.out.mono hb)
      replace HB := Lib.hid (HB.out.mono hb)
      replace HP := Lib.hid (HP.out.mono hb)
      replace HS := Lib.hid (HS.out.mono hb)
      replace HF := Lib.hid (HF.out.mono hb)
      have HS3 := Lib.hid hs3
      clear z0 z1 z2 z3
      clear hb
      obtain ⟨z0, z1, z2, z3⟩ := HZ.out.cells
      go_wp2_with fail
      refine (list_go _ y m d p HP.out).mono ?_
      rintro e w4 ⟨ua, un, uc, rfl, ho, hb⟩
      replace HZ := Lib.hid (HZ.out.mono hb)
      replace HA := Lib.hid (HA.out.mono hb)
      replace HB := Lib.hid (HB.out.mono hb)
      replace HP := Lib.hid (HP.out.mono hb)
      replace HS := Lib.hid (HS.out.mono hb)
      replace HF := Lib.hid (HF.out.mono hb)
      replace HS3 := Lib.hid (HS3.out.mono hb)
      have HU := Lib.hid (own_sl ho)
      clear ho
      clear z0 z1 z2 z3
      clear hb
      obtain ⟨z0, z1, z2, z3⟩ := HZ.out.cells
      go_wp2_with fail
      refine (better_bad _ x3 ua n3 c3 un uc W p HS3.out HU.out HOK.out).mono ?_
      rintro e w5 ⟨a4, d4, rfl, hb⟩
      replace HZ := Lib.hid (HZ.out.mono hb)
      replace HA := Lib.hid (HA.out.mono hb)
      replace HB := Lib.hid (HB.out.mono hb)
      replace HP := Lib.hid (HP.out.mono hb)
      replace HS := Lib.hid (HS.out.mono hb)
      replace HF := Lib.hid (HF.out.mono hb)
      replace HS3 := Lib.hid (HS3.out.mono hb)
      replace HU := Lib.hid (HU.out.mono hb)
      clear z0 z1 z2 z3
      clear hb
      obtain ⟨z0, z1, z2, z3⟩ := HZ.out.cells
      go_wp2_with fail
      refine (rvalid_go _ x n c W HA.out).mono ?_
      rintro e w6 ⟨rfl, hb⟩
      replace HZ := Lib.hid (HZ.out.mono hb)
      replace HA := Lib.hid (HA.out.mono hb)
      replace HB := Lib.hid (HB.out.mono hb)
      replace HP := Lib.hid (HP.out.mono hb)
      replace HS := Lib.hid (HS.out.mono hb)
      replace HF := Lib.hid (HF.out.mono hb)
      replace HS3 := Lib.hid (HS3.out.mono hb)
      replace HU := Lib.hid (HU.out.mono hb)
      rw [HV.out]
      clear z0 z1 z2 z3
      clear hb
      obtain ⟨z0, z1, z2, z3⟩ := HZ.out.cells
      go_wp2_with fail
      refine (rbest_go _ x n c W HA.out HV.out ⟨po, HPO.out, isBest_opt HPO.out HOP.out⟩).mono ?_
      rintro e w7 ⟨ra, rc, q, rfl, hRB, hq, hfd, hb⟩
      replace HZ := Lib.hid (HZ.out.mono hb)
      replace HA := Lib.hid (HA.out.mono hb)
      replace HB := Lib.hid (HB.out.mono hb)
      replace HP := Lib.hid (HP.out.mono hb)
      replace HS := Lib.hid (HS.out.mono hb)
      replace HF := Lib.hid (HF.out.mono hb)
      replace HS3 := Lib.hid (HS3.out.mono hb)
      replace HU := Lib.hid (HU.out.mono hb)
      obtain rfl : q = firstP W po := Option.some.inj (hfd.symm.trans (first_find HPO.out HOP.out))
      have HRB := Lib.hid hRB
      clear hRB hq hfd
      clear z0 z1 z2 z3
      clear hb
      obtain ⟨z0, z1, z2, z3⟩ := HZ.out.cells
      go_wp2_with fail
      refine (ieq_go _ fa ra n fc n rc _ _ HF.out HRB.out).mono ?_
      rintro e w8 ⟨rfl, hb⟩
      have hb := drewB hb
      replace HZ := Lib.hid (HZ.out.mono hb)
      replace HA := Lib.hid (HA.out.mono hb)
      replace HB := Lib.hid (HB.out.mono hb)
      replace HP := Lib.hid (HP.out.mono hb)
      replace HS := Lib.hid (HS.out.mono hb)
      replace HF := Lib.hid (HF.out.mono hb)
      replace HS3 := Lib.hid (HS3.out.mono hb)
      replace HU := Lib.hid (HU.out.mono hb)
      replace HRB := Lib.hid (HRB.out.mono hb)
      rw [decide_eq_true rfl]
      clear z0 z1 z2 z3
      clear hb
      obtain ⟨z0, z1, z2, z3⟩ := HZ.out.cells
      go_wp2_with fail
      refine (awake_go _).mono ?_
      rintro e w9 ⟨rfl, hb⟩
      replace HZ := Lib.hid (HZ.out.mono hb)
      replace HA := Lib.hid (HA.out.mono hb)
      replace HB := Lib.hid (HB.out.mono hb)
      replace HP := Lib.hid (HP.out.mono hb)
      replace HS := Lib.hid (HS.out.mono hb)
      replace HF := Lib.hid (HF.out.mono hb)
      replace HS3 := Lib.hid (HS3.out.mono hb)
      replace HU := Lib.hid (HU.out.mono hb)
      replace HRB := Lib.hid (HRB.out.mono hb)
      clear z0 z1 z2 z3
      clear hb
      obtain ⟨z0, z1, z2, z3⟩ := HZ.out.cells
      go_wp2_with fail
      refine (rplan_go _ x y n c m d W p HA.out HP.out).mono ?_
      rintro e w10 ⟨rfl, hb⟩
      replace HZ := Lib.hid (HZ.out.mono hb)
      replace HA := Lib.hid (HA.out.mono hb)
      replace HB := Lib.hid (HB.out.mono hb)
      replace HP := Lib.hid (HP.out.mono hb)
      replace HS := Lib.hid (HS.out.mono hb)
      replace HF := Lib.hid (HF.out.mono hb)
      replace HS3 := Lib.hid (HS3.out.mono hb)
      replace HU := Lib.hid (HU.out.mono hb)
      replace HRB := Lib.hid (HRB.out.mono hb)
      rw [HPK.out]
      clear z0 z1 z2 z3
      clear hb
      obtain ⟨z0, z1, z2, z3⟩ := HZ.out.cells
      go_wp2
      go_ret
      exact ⟨rfl, btr HB0.out HB.out⟩
    | true =>
      have HOK := Lib.hid hok
      have HPK := Lib.hid (show planOk W.acts p = true by unfold isPlanB at hok; rw [hv, Bool.true_and] at hok; exact hok)
      obtain rfl : m = n := by have h1 := (plan_parts hok).2.1; have h2 := HP.out.len; have h3 := HNA.out; omega
      clear hv hok
      go_enter Try.func5, Try.ntmps5
      go_wp2_with fail
      refine (of_ok _ x m c W HA.out HV.out).mono ?_
      rintro e w1 ⟨x2, c2, rfl, hs, hb⟩
      replace HZ := Lib.hid (HZ.out.mono hb)
      replace HA := Lib.hid (HA.out.mono hb)
      replace HB := Lib.hid (HB.out.mono hb)
      replace HP := Lib.hid (HP.out.mono hb)
      have HS := Lib.hid hs
      clear hb
      obtain ⟨z0, z1, z2, z3⟩ := HZ.out.cells
      go_wp2_with fail
      refine (best_ok _ x2 m c2 W HS.out HV.out).mono ?_
      rintro e w2 ⟨po, hpo, hop, fa, fc, rfl, hF, hb⟩
      replace HZ := Lib.hid (HZ.out.mono hb)
      replace HA := Lib.hid (HA.out.mono hb)
      replace HB := Lib.hid (HB.out.mono hb)
      replace HP := Lib.hid (HP.out.mono hb)
      replace HS := Lib.hid (HS.out.mono hb)
      have HF := Lib.hid hF
      have HPO := Lib.hid hpo
      have HOP := Lib.hid hop
      clear hpo hop
      clear z0 z1 z2 z3
      clear hb
      obtain ⟨z0, z1, z2, z3⟩ := HZ.out.cells
      go_wp2_with fail
      refine (of_ok _ x m c W HA.out HV.out).mono ?_
      rintro e w3 ⟨x3, c3, rfl, hs3, hb⟩
      replace HZ := Lib.hid (HZ.out.mono hb)
      replace HA := Lib.hid (HA.out.mono hb)
      replace HB := Lib.hid (HB.out.mono hb)
      replace HP := Lib.hid (HP.out.mono hb)
      replace HS := Lib.hid (HS.out.mono hb)
      replace HF := Lib.hid (HF.out.mono hb)
      have HS3 := Lib.hid hs3
      clear z0 z1 z2 z3
      clear hb
      obtain ⟨z0, z1, z2, z3⟩ := HZ.out.cells
      go_wp2_with fail
      refine (list_ok _ y m d W p HP.out HOK.out).mono ?_
      rintro e w4 ⟨ua, uc, rfl, ho, hb⟩
      replace HZ := Lib.hid (HZ.out.mono hb)
      replace HA := Lib.hid (HA.out.mono hb)
      replace HB := Lib.hid (HB.out.mono hb)
      replace HP := Lib.hid (HP.out.mono hb)
      replace HS := Lib.hid (HS.out.mono hb)
      replace HF := Lib.hid (HF.out.mono hb)
      replace HS3 := Lib.hid (HS3.out.mono hb)
      have HU := Lib.hid ho
      clear z0 z1 z2 z3
      clear hb
      obtain ⟨z0, z1, z2, z3⟩ := HZ.out.cells
      cases hf : foundP W p with
      | false =>
        have HFP := Lib.hid hf
        clear hf
        go_wp2_with fail
        refine (better_end _ x3 ua m c3 m uc W p HS3.out HU.out HOK.out HFP.out).mono ?_
        rintro e w5 ⟨a4, d4, rfl, hb⟩
        replace HZ := Lib.hid (HZ.out.mono hb)
        replace HA := Lib.hid (HA.out.mono hb)
        replace HB := Lib.hid (HB.out.mono hb)
        replace HP := Lib.hid (HP.out.mono hb)
        replace HS := Lib.hid (HS.out.mono hb)
        replace HF := Lib.hid (HF.out.mono hb)
        replace HS3 := Lib.hid (HS3.out.mono hb)
        replace HU := Lib.hid (HU.out.mono hb)
        clear z0 z1 z2 z3
        clear hb
        obtain ⟨z0, z1, z2, z3⟩ := HZ.out.cells
        go_wp2_with fail
        refine (rvalid_go _ x m c W HA.out).mono ?_
        rintro e w6 ⟨rfl, hb⟩
        replace HZ := Lib.hid (HZ.out.mono hb)
        replace HA := Lib.hid (HA.out.mono hb)
        replace HB := Lib.hid (HB.out.mono hb)
        replace HP := Lib.hid (HP.out.mono hb)
        replace HS := Lib.hid (HS.out.mono hb)
        replace HF := Lib.hid (HF.out.mono hb)
        replace HS3 := Lib.hid (HS3.out.mono hb)
        replace HU := Lib.hid (HU.out.mono hb)
        rw [HV.out]
        clear z0 z1 z2 z3
        clear hb
        obtain ⟨z0, z1, z2, z3⟩ := HZ.out.cells
        go_wp2_with fail
        refine (rbest_go _ x m c W HA.out HV.out ⟨po, HPO.out, isBest_opt HPO.out HOP.out⟩).mono ?_
        rintro e w7 ⟨ra, rc, q, rfl, hRB, hq, hfd, hb⟩
        replace HZ := Lib.hid (HZ.out.mono hb)
        replace HA := Lib.hid (HA.out.mono hb)
        replace HB := Lib.hid (HB.out.mono hb)
        replace HP := Lib.hid (HP.out.mono hb)
        replace HS := Lib.hid (HS.out.mono hb)
        replace HF := Lib.hid (HF.out.mono hb)
        replace HS3 := Lib.hid (HS3.out.mono hb)
        replace HU := Lib.hid (HU.out.mono hb)
        obtain rfl : q = firstP W po := Option.some.inj (hfd.symm.trans (first_find HPO.out HOP.out))
        have HRB := Lib.hid hRB
        clear hRB hq hfd
        clear z0 z1 z2 z3
        clear hb
        obtain ⟨z0, z1, z2, z3⟩ := HZ.out.cells
        go_wp2_with fail
        refine (ieq_go _ fa ra m fc m rc _ _ HF.out HRB.out).mono ?_
        rintro e w8 ⟨rfl, hb⟩
        have hb := drewB hb
        replace HZ := Lib.hid (HZ.out.mono hb)
        replace HA := Lib.hid (HA.out.mono hb)
        replace HB := Lib.hid (HB.out.mono hb)
        replace HP := Lib.hid (HP.out.mono hb)
        replace HS := Lib.hid (HS.out.mono hb)
        replace HF := Lib.hid (HF.out.mono hb)
        replace HS3 := Lib.hid (HS3.out.mono hb)
        replace HU := Lib.hid (HU.out.mono hb)
        replace HRB := Lib.hid (HRB.out.mono hb)
        rw [decide_eq_true rfl]
        clear z0 z1 z2 z3
        clear hb
        obtain ⟨z0, z1, z2, z3⟩ := HZ.out.cells
        go_wp2_with fail
        refine (awake_go _).mono ?_
        rintro e w9 ⟨rfl, hb⟩
        replace HZ := Lib.hid (HZ.out.mono hb)
        replace HA := Lib.hid (HA.out.mono hb)
        replace HB := Lib.hid (HB.out.mono hb)
        replace HP := Lib.hid (HP.out.mono hb)
        replace HS := Lib.hid (HS.out.mono hb)
        replace HF := Lib.hid (HF.out.mono hb)
        replace HS3 := Lib.hid (HS3.out.mono hb)
        replace HU := Lib.hid (HU.out.mono hb)
        replace HRB := Lib.hid (HRB.out.mono hb)
        clear z0 z1 z2 z3
        clear hb
        obtain ⟨z0, z1, z2, z3⟩ := HZ.out.cells
        go_wp2_with fail
        refine (rplan_go _ x y m c m d W p HA.out HP.out).mono ?_
        rintro e w10 ⟨rfl, hb⟩
        replace HZ := Lib.hid (HZ.out.mono hb)
        replace HA := Lib.hid (HA.out.mono hb)
        replace HB := Lib.hid (HB.out.mono hb)
        replace HP := Lib.hid (HP.out.mono hb)
        replace HS := Lib.hid (HS.out.mono hb)
        replace HF := Lib.hid (HF.out.mono hb)
        replace HS3 := Lib.hid (HS3.out.mono hb)
        replace HU := Lib.hid (HU.out.mono hb)
        replace HRB := Lib.hid (HRB.out.mono hb)
        rw [HPK.out]
        clear z0 z1 z2 z3
        clear hb
        obtain ⟨z0, z1, z2, z3⟩ := HZ.out.cells
        go_wp2_with fail
        refine (rbetter_go _ x y m c m d W p HA.out HP.out HOK.out).mono ?_
        rintro e w11 hq9
        unfold GivesRBt at hq9
        rw [if_neg (by rw [HFP.out]; simp)] at hq9
        obtain ⟨rfl, hb⟩ := hq9
        replace HZ := Lib.hid (HZ.out.mono hb)
        replace HA := Lib.hid (HA.out.mono hb)
        replace HB := Lib.hid (HB.out.mono hb)
        replace HP := Lib.hid (HP.out.mono hb)
        replace HS := Lib.hid (HS.out.mono hb)
        replace HF := Lib.hid (HF.out.mono hb)
        replace HS3 := Lib.hid (HS3.out.mono hb)
        replace HU := Lib.hid (HU.out.mono hb)
        replace HRB := Lib.hid (HRB.out.mono hb)
        clear hb
        clear z0 z1 z2 z3
        go_wp2_with fail
        refine (ieq_nil _ _ _ _ _).mono ?_
        rintro e w12 ⟨rfl, hb⟩
        have hb := drewB hb
        replace HZ := Lib.hid (HZ.out.mono hb)
        replace HA := Lib.hid (HA.out.mono hb)
        replace HB := Lib.hid (HB.out.mono hb)
        replace HP := Lib.hid (HP.out.mono hb)
        replace HS := Lib.hid (HS.out.mono hb)
        replace HF := Lib.hid (HF.out.mono hb)
        replace HS3 := Lib.hid (HS3.out.mono hb)
        replace HU := Lib.hid (HU.out.mono hb)
        replace HRB := Lib.hid (HRB.out.mono hb)
        clear hb
        go_wp2
        go_ret
        exact ⟨rfl, btr HB0.out HB.out⟩
      | true =>
        have HFP := Lib.hid hf
        clear hf
        go_wp2_with fail
        refine (better_yes _ x3 ua m c3 m uc W p HS3.out HU.out HOK.out HFP.out).mono ?_
        rintro e w5 ⟨a4, d4, rfl, hE, hb⟩
        replace HZ := Lib.hid (HZ.out.mono hb)
        replace HA := Lib.hid (HA.out.mono hb)
        replace HB := Lib.hid (HB.out.mono hb)
        replace HP := Lib.hid (HP.out.mono hb)
        replace HS := Lib.hid (HS.out.mono hb)
        replace HF := Lib.hid (HF.out.mono hb)
        replace HS3 := Lib.hid (HS3.out.mono hb)
        replace HU := Lib.hid (HU.out.mono hb)
        have HE := Lib.hid hE
        clear z0 z1 z2 z3
        clear hb
        obtain ⟨z0, z1, z2, z3⟩ := HZ.out.cells
        go_wp2_with fail
        refine (rvalid_go _ x m c W HA.out).mono ?_
        rintro e w6 ⟨rfl, hb⟩
        replace HZ := Lib.hid (HZ.out.mono hb)
        replace HA := Lib.hid (HA.out.mono hb)
        replace HB := Lib.hid (HB.out.mono hb)
        replace HP := Lib.hid (HP.out.mono hb)
        replace HS := Lib.hid (HS.out.mono hb)
        replace HF := Lib.hid (HF.out.mono hb)
        replace HS3 := Lib.hid (HS3.out.mono hb)
        replace HU := Lib.hid (HU.out.mono hb)
        replace HE := Lib.hid (HE.out.mono hb)
        rw [HV.out]
        clear z0 z1 z2 z3
        clear hb
        obtain ⟨z0, z1, z2, z3⟩ := HZ.out.cells
        go_wp2_with fail
        refine (rbest_go _ x m c W HA.out HV.out ⟨po, HPO.out, isBest_opt HPO.out HOP.out⟩).mono ?_
        rintro e w7 ⟨ra, rc, q, rfl, hRB, hq, hfd, hb⟩
        replace HZ := Lib.hid (HZ.out.mono hb)
        replace HA := Lib.hid (HA.out.mono hb)
        replace HB := Lib.hid (HB.out.mono hb)
        replace HP := Lib.hid (HP.out.mono hb)
        replace HS := Lib.hid (HS.out.mono hb)
        replace HF := Lib.hid (HF.out.mono hb)
        replace HS3 := Lib.hid (HS3.out.mono hb)
        replace HU := Lib.hid (HU.out.mono hb)
        replace HE := Lib.hid (HE.out.mono hb)
        obtain rfl : q = firstP W po := Option.some.inj (hfd.symm.trans (first_find HPO.out HOP.out))
        have HRB := Lib.hid hRB
        clear hRB hq hfd
        clear z0 z1 z2 z3
        clear hb
        obtain ⟨z0, z1, z2, z3⟩ := HZ.out.cells
        go_wp2_with fail
        refine (ieq_go _ fa ra m fc m rc _ _ HF.out HRB.out).mono ?_
        rintro e w8 ⟨rfl, hb⟩
        have hb := drewB hb
        replace HZ := Lib.hid (HZ.out.mono hb)
        replace HA := Lib.hid (HA.out.mono hb)
        replace HB := Lib.hid (HB.out.mono hb)
        replace HP := Lib.hid (HP.out.mono hb)
        replace HS := Lib.hid (HS.out.mono hb)
        replace HF := Lib.hid (HF.out.mono hb)
        replace HS3 := Lib.hid (HS3.out.mono hb)
        replace HU := Lib.hid (HU.out.mono hb)
        replace HE := Lib.hid (HE.out.mono hb)
        replace HRB := Lib.hid (HRB.out.mono hb)
        rw [decide_eq_true rfl]
        clear z0 z1 z2 z3
        clear hb
        obtain ⟨z0, z1, z2, z3⟩ := HZ.out.cells
        go_wp2_with fail
        refine (awake_go _).mono ?_
        rintro e w9 ⟨rfl, hb⟩
        replace HZ := Lib.hid (HZ.out.mono hb)
        replace HA := Lib.hid (HA.out.mono hb)
        replace HB := Lib.hid (HB.out.mono hb)
        replace HP := Lib.hid (HP.out.mono hb)
        replace HS := Lib.hid (HS.out.mono hb)
        replace HF := Lib.hid (HF.out.mono hb)
        replace HS3 := Lib.hid (HS3.out.mono hb)
        replace HU := Lib.hid (HU.out.mono hb)
        replace HE := Lib.hid (HE.out.mono hb)
        replace HRB := Lib.hid (HRB.out.mono hb)
        clear z0 z1 z2 z3
        clear hb
        obtain ⟨z0, z1, z2, z3⟩ := HZ.out.cells
        go_wp2_with fail
        refine (rplan_go _ x y m c m d W p HA.out HP.out).mono ?_
        rintro e w10 ⟨rfl, hb⟩
        replace HZ := Lib.hid (HZ.out.mono hb)
        replace HA := Lib.hid (HA.out.mono hb)
        replace HB := Lib.hid (HB.out.mono hb)
        replace HP := Lib.hid (HP.out.mono hb)
        replace HS := Lib.hid (HS.out.mono hb)
        replace HF := Lib.hid (HF.out.mono hb)
        replace HS3 := Lib.hid (HS3.out.mono hb)
        replace HU := Lib.hid (HU.out.mono hb)
        replace HE := Lib.hid (HE.out.mono hb)
        replace HRB := Lib.hid (HRB.out.mono hb)
        rw [HPK.out]
        clear z0 z1 z2 z3
        clear hb
        obtain ⟨z0, z1, z2, z3⟩ := HZ.out.cells
        go_wp2_with fail
        refine (rbetter_go _ x y m c m d W p HA.out HP.out HOK.out).mono ?_
        rintro e w11 hq9
        unfold GivesRBt at hq9
        rw [if_pos HFP.out] at hq9
        obtain ⟨ga, gc, rfl, hG, hb⟩ := hq9
        replace HZ := Lib.hid (HZ.out.mono hb)
        replace HA := Lib.hid (HA.out.mono hb)
        replace HB := Lib.hid (HB.out.mono hb)
        replace HP := Lib.hid (HP.out.mono hb)
        replace HS := Lib.hid (HS.out.mono hb)
        replace HF := Lib.hid (HF.out.mono hb)
        replace HS3 := Lib.hid (HS3.out.mono hb)
        replace HU := Lib.hid (HU.out.mono hb)
        replace HE := Lib.hid (HE.out.mono hb)
        replace HRB := Lib.hid (HRB.out.mono hb)
        have HG := Lib.hid hG
        clear hG
        clear hb
        clear z0 z1 z2 z3
        go_wp2_with fail
        refine (ieq_go _ a4 ga m d4 m gc _ _ HE.out HG.out).mono ?_
        rintro e w12 ⟨rfl, hb⟩
        have hb := drewB hb
        replace HZ := Lib.hid (HZ.out.mono hb)
        replace HA := Lib.hid (HA.out.mono hb)
        replace HB := Lib.hid (HB.out.mono hb)
        replace HP := Lib.hid (HP.out.mono hb)
        replace HS := Lib.hid (HS.out.mono hb)
        replace HF := Lib.hid (HF.out.mono hb)
        replace HS3 := Lib.hid (HS3.out.mono hb)
        replace HU := Lib.hid (HU.out.mono hb)
        replace HE := Lib.hid (HE.out.mono hb)
        replace HRB := Lib.hid (HRB.out.mono hb)
        replace HG := Lib.hid (HG.out.mono hb)
        rw [decide_eq_true rfl]
        clear hb
        go_wp2
        go_ret
        exact ⟨rfl, btr HB0.out HB.out⟩
end Go.Proofs.Ytcmakddnjmeklaa
