/- Chapter 9, the reference: Bounds. -/
import Derived.Test.YtcmakddnjmeklaaRj
namespace Go.Proofs.Ytcmakddnjmeklaa
open Go.RowKit
set_option linter.unusedSimpArgs false

set_option maxRecDepth 100000 in
set_option maxHeartbeats 4000000 in
theorem rbounds_go (w : World) (x y : Option Addr) (n c m d : Nat) (W : Wd) (l : List Int) (dv : Int) (hA : A2Sl w x n c W.acts) (hl : Sl w y m d l) (hok : vWd W = true) :
    Calls Try.prog 36 #[wv W.a W.b x n c, .slice y m d, .int .i64 dv] w fun e w' => e = .returned (.bool (chkB W l dv)) ∧ Below w.heap.size w w' := by
  have hb0 := bal (Below.refl w.heap.size w) (.cells #[.int .i64 W.a, .int .i64 W.b, .slice x n c] 25)
  have HZ := Lib.hid (boxR_new w W.a W.b x n c)
  have HA := Lib.hid (hA.mono hb0)
  have HS := Lib.hid (hl.mono hb0)
  have HB0 := Lib.hid hb0
  have HNA := Lib.hid hA.1
  have hml := hl.len
  have hcn := hA.2.cap
  have hcm := hl.cap
  unfold maxLen at hcn hcm
  obtain ⟨⟨hn1, hn4, ha1, hab, hb4⟩, hvv⟩ := vWd_parts hok
  rw [HNA.out] at hn1 hn4
  have HVV := Lib.hid hvv
  clear hA hl hb0 hok hvv
  by_cases q1 : m = n
  · by_cases q2 : dv < 1
    · have HV := Lib.hid (chk_no (W := W) (l := l) (d := dv) fun h => by have := h.2.2.1; omega)
      subst q1
      clear hml
      go_enter Try.func36, Try.ntmps36
      go_wp2
      go_ret
      rw [HV.out]
      exact ⟨rfl, HB0.out⟩
    · by_cases q3 : 1000000000 < dv
      · have HV := Lib.hid (chk_no (W := W) (l := l) (d := dv) fun h => by have := h.2.2.2; omega)
        subst q1
        clear hml
        go_enter Try.func36, Try.ntmps36
        go_wp2
        go_ret
        rw [HV.out]
        exact ⟨rfl, HB0.out⟩
      · subst q1
        have HML := Lib.hid hml
        clear hml
        go_enter Try.func36, Try.ntmps36
        go_wp2
        generalize w.alloc (.cells #[.int .i64 W.a, .int .i64 W.b, .slice x m c] 25) = V0 at *
        go_loopw [33] (fun t wr => ∃ i : Nat, i ≤ m ∧ t = .int .i64 i ∧ Hid (∀ j, j < i → -1000000000000 ≤ nth l j ∧ nth l j ≤ 1000000000000) ∧ wr = V0) (fun t _ => m - (intOf t).toNat)
        case atStart => exact ⟨0, by omega, rfl, Lib.hid (fun j hj => by omega), rfl⟩
        case round =>
          obtain ⟨i, hi, rfl, HR, rfl⟩ := hrel
          by_cases hli : i < m
          · obtain ⟨b, off, rfl, hb, hc⟩ := HS.out.at (by omega)
            have e1 := hc i hli
            have HNO := Lib.hid (show (nth l i < -1000000000000 ∨ 1000000000000 < nth l i) → chkB W l dv = false from fun h => chk_no fun hh => by
              have := hh.2.1 (nth l i) (nth_mem (by rw [HML.out]; exact hli))
              omega)
            have HRS := Lib.hid (show ¬ nth l i < -1000000000000 → ¬ 1000000000000 < nth l i → ∀ j, j < i + 1 → -1000000000000 ≤ nth l j ∧ nth l j ≤ 1000000000000 from fun h1 h2 j hj => by
              by_cases e : j = i
              · subst e; omega
              · exact HR.out j (by omega))
            clear hc
            generalize nth l i = li at *
            by_cases r1 : li < -1000000000000
            · have HV := Lib.hid (HNO.out (.inl r1))
              go_wp2
              go_ret
              rw [HV.out]
              exact ⟨rfl, HB0.out⟩
            · by_cases r2 : 1000000000000 < li
              · have HV := Lib.hid (HNO.out (.inr r2))
                go_wp2
                go_ret
                rw [HV.out]
                exact ⟨rfl, HB0.out⟩
              · have HR2 := Lib.hid (HRS.out r1 r2)
                go_wp2
                go_roundw
                case rel => go_light; exact ⟨i + 1, by omega, by go_num, HR2, by first | rfl | trivial⟩
                case measure => simp [intOf]; omega
          · obtain rfl : i = m := by omega
            have HLB := Lib.hid (show ∀ e ∈ l, -1000000000000 ≤ e ∧ e ≤ 1000000000000 from fun e he => by
              obtain ⟨j, hj, rfl⟩ := List.mem_iff_getElem.1 he
              have := HR.out j (by rw [← HML.out]; exact hj)
              rwa [nth_of_lt hj] at this)
            have HH := Lib.hid (show chkHead W l dv from ⟨by rw [HML.out, HNA.out], HLB.out, by omega, by omega⟩)
            obtain ⟨z0, z1, z2, z3⟩ := HZ.out.cells
            go_wp2
            generalize wr = V0 at *
            clear z0 z1 z2 z3
            go_loopw [47] (fun t wr => ∃ s : Nat, s ≤ i ∧ t = .int .i64 s ∧ Hid (∀ j, j < s → chkS W l dv j = true) ∧ Hid (Below V0.heap.size V0 wr)) (fun t _ => i - (intOf t).toNat)
            case atStart => exact ⟨0, by omega, rfl, Lib.hid (fun j hj => by omega), Lib.hid (Below.refl _ _)⟩
            case round =>
              obtain ⟨s, hs, rfl, HC, HB⟩ := hrel
              by_cases hl : s < i
              · have hsA : s < W.acts.length := by rw [HNA.out]; exact hl
                obtain ⟨hv1, hv3, hvi⟩ := HVV.out s hsA
                obtain ⟨b1, o1, rfl, hb1, hc1⟩ := (HA.out.mono HB.out).at (by omega)
                obtain ⟨a2, n2, c2, e2, h2⟩ := hc1 s hl
                have hl2 := h2.1
                have HVI := Lib.hid (show ∀ t, t < n2 → vAc i (ac (acl W.acts s) t) = true from fun t ht => by have := hvi t (by omega); rwa [HNA.out] at this)
                have H2 := Lib.hid h2
                have HCS := Lib.hid (show chkS W l dv s = (List.range n2).all fun t => decide (tel W.a W.b (ac (acl W.acts s) t) (nth l) dv ≤ W.b * isum (ac (acl W.acts s) t).o * nth l s) by unfold chkS; rw [hl2])
                have hcc := h2.2.cap
                unfold maxLen at hcc
                clear hc1 h2 hvi hl2 hv1 hv3
                go_wp2
                generalize wr = U at *
                go_loopw [54] (fun t wr => ∃ k : Nat, k ≤ n2 ∧ t = .int .i64 k ∧ Hid (∀ j, j < k → decide (tel W.a W.b (ac (acl W.acts s) j) (nth l) dv ≤ W.b * isum (ac (acl W.acts s) j).o * nth l s) = true) ∧ Hid (Below U.heap.size U wr)) (fun t _ => n2 - (intOf t).toNat)
                case atStart => exact ⟨0, by omega, rfl, Lib.hid (fun j hj => by omega), Lib.hid (Below.refl _ _)⟩
                case round =>
                  obtain ⟨k, hk, rfl, HK, HD⟩ := hrel
                  by_cases hlk : k < n2
                  · obtain ⟨b3, o3, rfl, hb3, hc3⟩ := (H2.out.mono HD.out).at (by omega)
                    obtain ⟨eg, z, oz, q, eo, hSz⟩ := hc3 k hlk
                    have hva := vAc_at (HVI.out k hlk)
                    have hNO : decide (tel W.a W.b (ac (acl W.acts s) k) (nth l) dv ≤ W.b * isum (ac (acl W.acts s) k).o * nth l s) = false → chkB W l dv = false := fun hf => by
                      have hkey : (List.range W.acts.length).all (chkS W l dv) = false := by
                        rw [List.all_eq_false]
                        refine ⟨s, List.mem_range.2 hsA, ?_⟩
                        rw [HCS.out]
                        intro hall
                        rw [List.all_eq_true] at hall
                        have := hall k (List.mem_range.2 hlk)
                        rw [hf] at this
                        cases this
                      unfold chkB
                      rw [hkey, Bool.and_false]
                    have hYES : decide (tel W.a W.b (ac (acl W.acts s) k) (nth l) dv ≤ W.b * isum (ac (acl W.acts s) k).o * nth l s) = true → ∀ j, j < k + 1 → decide (tel W.a W.b (ac (acl W.acts s) j) (nth l) dv ≤ W.b * isum (ac (acl W.acts s) j).o * nth l s) = true := fun hf j hj => by
                      by_cases e : j = k
                      · subst e; exact hf
                      · exact HK.out j (by omega)
                    have htd := tel_dot W.a W.b (ac (acl W.acts s) k) l dv
                    have HKE := Lib.hid (show ac (acl W.acts s) k = ac (acl W.acts s) k from rfl)
                    generalize ac (acl W.acts s) k = X at *
                    obtain ⟨gg, o⟩ := X
                    simp only at hva htd eg hSz hNO hYES
                    obtain ⟨hg1, hg2, hol, hor, hS1, hS2⟩ := hva
                    have hoz : oz = i := by rw [← hSz.len]; exact hol
                    subst hoz
                    have HOR := Lib.hid hor
                    have HOL := Lib.hid hol
                    have HYES := Lib.hid hYES
                    have HNO := Lib.hid hNO
                    have hba := bal (Below.refl wr.heap.size wr) (.cells #[.int .i64 gg, .slice z oz q] 42)
                    have HZZ := Lib.hid (hSz.mono hba)
                    have HBX := Lib.hid (new_at wr (.cells #[.int .i64 gg, .slice z oz q] 42))
                    have HDA := Lib.hid (show Below U.heap.size U _ from btr HD.out hba)
                    have HSA := Lib.hid (HS.out.mono (btr HB.out HDA.out))
                    obtain ⟨z0, z1, z2, z3⟩ := (HZ.out.mono (btr HB.out HDA.out)).cells
                    have hcz := hSz.cap
                    unfold maxLen at hcz
                    have HDB := Lib.hid (dot_bound (o := o) (l := l) (B := 1000000000000) (by omega) hor HLB.out (by rw [hol, HML.out]; omega))
                    have hdl := HDB.out oz (by rw [hol]; omega)
                    rw [hol] at htd
                    clear hc3 hSz hba hor hol hYES hNO
                    go_wp2
                    generalize hV1 : wr.alloc (.cells #[.int .i64 gg, .slice z oz q] 42) = V1 at *
                    have y0 : V1.cell? ⟨wr.heap.size, 0, none⟩ = some (.int .i64 gg) := by rw [cells_at HBX.out]; rfl
                    have y1 : V1.cell? ⟨wr.heap.size, 1, none⟩ = some (.slice z oz q) := by rw [cells_at HBX.out]; rfl
                    have y2 := lt_of_block HBX.out
                    clear hV1
                    go_loopw [13, 61] (fun v t wr => ∃ j : Nat, j ≤ oz ∧ t = .int .i64 j ∧ v = .int .i64 (dotTo o l j) ∧ wr = V1) (fun _ t _ => oz - (intOf t).toNat)
                    case atStart => exact ⟨0, by omega, rfl, rfl, rfl⟩
                    case round =>
                      obtain ⟨j, hj, rfl, rfl, rfl⟩ := hrel
                      by_cases hlj : j < oz
                      · obtain ⟨b5, o5, rfl, hb5, hc5⟩ := HZZ.out.at (by omega)
                        obtain ⟨b6, o6, rfl, hb6, hc6⟩ := HSA.out.at (by omega)
                        have e5 := hc5 j hlj
                        have e6 := hc6 j hlj
                        have h1 := HDB.out j (by rw [HOL.out]; exact hj)
                        have h2 := HLB.out _ (nth_mem (l := l) (k := j) (by rw [HML.out]; exact hlj))
                        have h3 := HOR.out _ (nth_mem (l := o) (k := j) (by rw [HOL.out]; exact hlj))
                        have h4 := mul_le3 (A := 3) (B := 1000000000000) (show -3 ≤ nth o j by omega) h3.2 h2.1 h2.2 (by omega)
                        have HN := Lib.hid (show dotTo o l (j + 1) = dotTo o l j + nth o j * nth l j from rfl)
                        clear hc5 hc6
                        generalize dotTo o l j = dj at *
                        generalize nth o j = oj at *
                        generalize nth l j = lj at *
                        generalize hpe : oj * lj = pj at *
                        go_wp2
                        go_roundw
                        case rel => go_light; exact ⟨j + 1, by omega, by go_num, by rw [HN.out], by first | rfl | trivial⟩
                        case measure => simp [intOf]; omega
                      · obtain rfl : j = oz := by omega
                        obtain ⟨b6, o6, rfl, hb6, hc6⟩ := HSA.out.at (by omega)
                        have e6 := hc6 s hl
                        have hls := HLB.out _ (nth_mem (l := l) (k := s) (by rw [HML.out]; exact hl))
                        have hsb := mul_le3 (A := 4) (B := 12) (show -4 ≤ W.b by omega) hb4 (show -12 ≤ isum o by omega) (by omega) (by omega)
                        obtain ⟨ls, hls0⟩ : ∃ ls, nth l s = ls := ⟨_, rfl⟩
                        rw [hls0] at e6 hls
                        have HLS := Lib.hid hls0
                        clear hls0
                        generalize dotTo o l j = dt at *
                        obtain ⟨bS, hbS⟩ : ∃ bS, W.b * isum o = bS := ⟨_, rfl⟩
                        rw [hbS] at hsb
                        have hm1 := mul_le3 (A := 1000000000000) (B := 48) hls.1 hls.2 hsb.1 hsb.2 (by omega)
                        have hm2 := mul_le3 (A := 1000000000) (B := 9) (show -1000000000 ≤ dv by omega) (by omega) hg1 hg2 (by omega)
                        have hm3 := mul_le3 (A := 9000000000) (B := 48) (show -9000000000 ≤ dv * gg by omega) (by omega) hsb.1 hsb.2 (by omega)
                        have hm4 := mul_le3 (A := 4) (B := 12000000000000) (show -4 ≤ W.a by omega) (by omega) (show -12000000000000 ≤ dt by omega) (by omega) (by omega)
                        have v1 : wrap64 bS = bS := IntWalk.wrap64_in _ (by omega)
                        have v1' : IntKind.i64.wrap bS = bS := wrap_i64j _ (by omega) (by omega)
                        have v2 : wrap64 (ls * bS) = ls * bS := IntWalk.wrap64_in _ (by omega)
                        have v3 : wrap64 (dv * gg) = dv * gg := IntWalk.wrap64_in _ (by omega)
                        have v4 : wrap64 (dv * gg * bS) = dv * gg * bS := IntWalk.wrap64_in _ (by omega)
                        have v5 : wrap64 (W.a * dt) = W.a * dt := IntWalk.wrap64_in _ (by omega)
                        have v6 : wrap64 (dv * gg * bS + W.a * dt) = dv * gg * bS + W.a * dt := IntWalk.wrap64_in _ (by omega)
                        have v2' : IntKind.i64.wrap (ls * bS) = ls * bS := wrap_i64j _ (by omega) (by omega)
                        have v3' : IntKind.i64.wrap (dv * gg) = dv * gg := wrap_i64j _ (by omega) (by omega)
                        have v4' : IntKind.i64.wrap (dv * gg * bS) = dv * gg * bS := wrap_i64j _ (by omega) (by omega)
                        have v5' : IntKind.i64.wrap (W.a * dt) = W.a * dt := wrap_i64j _ (by omega) (by omega)
                        have v6' : IntKind.i64.wrap (dv * gg * bS + W.a * dt) = dv * gg * bS + W.a * dt := wrap_i64j _ (by omega) (by omega)
                        have HEQ := Lib.hid (show (tel W.a W.b ⟨gg, o⟩ (nth l) dv ≤ W.b * isum o * ls) ↔ ¬ ls * bS < dv * gg * bS + W.a * dt by
                          rw [htd, ← hbS, Int.not_lt]
                          have r1 : dv * gg * (W.b * isum o) = W.b * isum o * dv * gg := by grind
                          have r2 : ls * (W.b * isum o) = W.b * isum o * ls := by grind
                          rw [r1, r2])
                        have y0n : ∀ k, (wr.drewN k).cell? ⟨_, 0, none⟩ = some (.int .i64 gg) := fun _ => y0
                        have y1n : ∀ k, (wr.drewN k).cell? ⟨_, 1, none⟩ = some (.slice z j q) := fun _ => y1
                        have z1n : ∀ k, (wr.drewN k).cell? ⟨w.heap.size, 0, none⟩ = some (.int .i64 W.a) := fun _ => z1
                        have z2n : ∀ k, (wr.drewN k).cell? ⟨w.heap.size, 1, none⟩ = some (.int .i64 W.b) := fun _ => z2
                        have e6n : ∀ k, (wr.drewN k).cell? ⟨b6, o6 + s, none⟩ = some (.int .i64 ls) := fun _ => e6
                        have z2d : wr.drew.cell? ⟨w.heap.size, 1, none⟩ = some (.int .i64 W.b) := z2
                        have y1d : wr.drew.cell? ⟨_, 1, none⟩ = some (.slice z j q) := y1
                        clear hc6 hm1 hm2 hm3 hm4 htd
                        by_cases hlt : ls * bS < dv * gg * bS + W.a * dt
                        · have HV := Lib.hid (HNO.out (decide_eq_false fun h => HEQ.out.1 (by rw [HLS.out] at h; exact h) hlt))
                          go_wp2
                          go_quiet ((go_at_call 22; exact quiet_is (rsum_go _ z j q o (HZZ.out.mono (drewN_below (Below.refl _ _))) (by omega) HOR.out)))
                          go_wp2
                          go_quiet (fail)
                          go_wp2
                          go_ret
                          rw [HV.out]
                          exact ⟨rfl, btr HB0.out (btr HB.out (btr HDA.out (by first | exact drewN_below (Below.refl _ _) | exact drewN_below (drewN_below (Below.refl _ _)))))⟩
                        · have HK2 := Lib.hid (HYES.out (decide_eq_true (by rw [HLS.out]; exact HEQ.out.2 hlt)))
                          go_wp2
                          go_quiet ((go_at_call 22; exact quiet_is (rsum_go _ z j q o (HZZ.out.mono (drewN_below (Below.refl _ _))) (by omega) HOR.out)))
                          go_wp2
                          go_quiet (fail)
                          go_wp2
                          go_roundw
                          case rel => go_light; first | exact ⟨k + 1, by omega, by go_num, HK2, Lib.hid (btr HDA.out (by first | exact drewN_below (Below.refl _ _) | exact drewN_below (drewN_below (Below.refl _ _))))⟩ | ((repeat apply Exists.intro); exact ⟨⟨k + 1, by omega, by go_num, HK2, Lib.hid (btr HDA.out (by first | exact drewN_below (Below.refl _ _) | exact drewN_below (drewN_below (Below.refl _ _))))⟩, rfl⟩)
                          case measure => simp [intOf]; omega
                  · obtain rfl : k = n2 := by omega
                    have HC2 := Lib.hid (show ∀ j, j < s + 1 → chkS W l dv j = true from fun j hj => by
                      by_cases e : j = s
                      · subst e
                        rw [HCS.out, List.all_eq_true]
                        exact fun t ht => HK.out t (List.mem_range.1 ht)
                      · exact HC.out j (by omega))
                    go_wp2
                    go_roundw
                    case rel => go_light; first | exact ⟨s + 1, by omega, by go_num, HC2, Lib.hid (btr HB.out HD.out)⟩ | ((repeat apply Exists.intro); exact ⟨⟨s + 1, by omega, by go_num, HC2, Lib.hid (btr HB.out HD.out)⟩, rfl⟩)
                    case measure => simp [intOf]; omega
              · obtain rfl : s = i := by omega
                have HV := Lib.hid (show chkB W l dv = true by
                  unfold chkB
                  rw [decide_eq_true HH.out, Bool.true_and, List.all_eq_true]
                  exact fun j hj => HC.out j (by have := List.mem_range.1 hj; rw [HNA.out] at this; exact this))
                go_wp2
                go_ret
                rw [HV.out]
                exact ⟨rfl, btr HB0.out HB.out⟩
  · have HV := Lib.hid (chk_no (W := W) (l := l) (d := dv) fun h => q1 (by rw [← hml, h.1]; exact HNA.out))
    have t1 : ((m : Int) != (n : Int)) = true := by simp; omega
    have t2 : (m != n) = true := by simp; omega
    clear hml q1
    go_enter Try.func36, Try.ntmps36
    go_wp2
    go_ret
    rw [HV.out]
    exact ⟨rfl, HB0.out⟩
end Go.Proofs.Ytcmakddnjmeklaa
