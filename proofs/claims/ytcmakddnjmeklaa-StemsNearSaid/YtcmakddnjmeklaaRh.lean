/- Chapter 9, the reference: Worth. -/
import Derived.Test.YtcmakddnjmeklaaRg
namespace Go.Proofs.Ytcmakddnjmeklaa
open Go.RowKit
set_option linter.unusedSimpArgs false

set_option maxRecDepth 100000 in
set_option maxHeartbeats 4000000 in
theorem rworth_go (w : World) (x y : Option Addr) (n c m d : Nat) (W : Wd) (p : List Int) (hA : A2Sl w x n c W.acts) (hp : Sl w y m d p) (hok : isPlanB W p = true) :
    Calls Try.prog 35 #[wv W.a W.b x n c, .slice y m d] w (GivesFr w (worthF W p)) := by
  have hb0 := bal (Below.refl w.heap.size w) (.cells #[.int .i64 W.a, .int .i64 W.b, .slice x n c] 25)
  have HZ := Lib.hid (boxR_new w W.a W.b x n c)
  have HA := Lib.hid (hA.mono hb0)
  have HP := Lib.hid (hp.mono hb0)
  have HB0 := Lib.hid hb0
  have hX := okX_plan hok
  have hcn := hA.2.cap
  have hcm := hp.cap
  unfold maxLen at hcn hcm
  obtain ⟨_, hpl, hpa, ⟨hn1, hn4, ha1, hab, hb4⟩, hvv⟩ := plan_parts hok
  have hnA := hA.1
  have hmp := hp.len
  obtain rfl : m = n := by omega
  have HX := Lib.hid hX
  have HNA := Lib.hid hnA
  have HXL := Lib.hid (show (planActs W.acts p).length = m by rw [planActs_len]; exact hnA)
  have HPA := Lib.hid (show ∀ s, s < m → 0 ≤ nth p s ∧ nth p s < (acl W.acts s).length from fun s hs => hpa s (by omega))
  have HVV := Lib.hid (show ∀ s, s < m → vAc m (pact W.acts p s) = true from fun s hs => by have := vAc_pact hok (s := s) (by omega); rwa [hnA] at this)
  have HWF := Lib.hid (show worthF W p = fracsL (colDs m (mMat W.a W.b (planActs W.acts p)) (mRight W.b (planActs W.acts p))) (detL m (mMat W.a W.b (planActs W.acts p))) by unfold worthF wD; rw [wNs_cols, HXL.out])
  have HSQ := Lib.hid (show Sq m (mMat W.a W.b (planActs W.acts p)) by have := mMat_sq hX; rwa [HXL.out] at this)
  have HD := Lib.hid (show 0 < detL m (mMat W.a W.b (planActs W.acts p)) ∧ detL m (mMat W.a W.b (planActs W.acts p)) ≤ 5308416 by have := wD_pos hX; unfold wD at this; rwa [HXL.out] at this)
  have HRB := Lib.hid (show ∀ i, i < m → -500 ≤ nth (mRight W.b (planActs W.acts p)) i ∧ nth (mRight W.b (planActs W.acts p)) i ≤ 500 from fun i hi => by have := mRight_bound hX (s := i) (by rw [HXL.out]; exact hi); omega)
  have hn1 : 1 ≤ m := by omega
  have hn4 : m ≤ 4 := by omega
  clear hA hp hb0 hX hok hpl hpa hvv hnA hmp
  go_enter Try.func35, Try.ntmps35
  go_wp2
  generalize w.alloc (.cells #[.int .i64 W.a, .int .i64 W.b, .slice x m c] 25) = V0 at *
  go_loopw [5, 6, 16] (fun mv rv t wr => ∃ s : Nat, s ≤ m ∧ t = .int .i64 s ∧ Hid (WoSt wr V0.heap.size mv rv ((mMat W.a W.b (planActs W.acts p)).take s) ((mRight W.b (planActs W.acts p)).take s)) ∧ Hid (Below V0.heap.size V0 wr)) (fun _ _ t _ => m - (intOf t).toNat)
  case atStart => exact ⟨0, by omega, rfl, Lib.hid (WoSt.nil _ _ (Nat.le_refl _)), Lib.hid (Below.refl _ _)⟩
  case round =>
    obtain ⟨s, hs, rfl, HS, HB⟩ := hrel
    by_cases hl : s < m
    · generalize wr = U at *
      have hsA : s < W.acts.length := by rw [HNA.out]; exact hl
      obtain ⟨hp0, hp1⟩ := HPA.out s hl
      obtain ⟨b1, o1, rfl, hb1, hc1⟩ := (HA.out.mono HB.out).at (by omega)
      obtain ⟨a2, m2, q2, e2, h2⟩ := hc1 s hl
      have hl2 := h2.1
      obtain ⟨t, ht⟩ : ∃ t : Nat, nth p s = (t : Int) := ⟨(nth p s).toNat, by omega⟩
      obtain ⟨b2, o2, rfl, hb2, hc2⟩ := h2.at (by omega)
      obtain ⟨eg, z, k, q, eo, hSz⟩ := hc2 t (by omega)
      obtain ⟨b3, o3, rfl, hb3, hc3⟩ := (HP.out.mono HB.out).at (by omega)
      have e3 := hc3 s hl
      rw [ht] at e3
      have hPt : pact W.acts p s = ac (acl W.acts s) t := by unfold pact; rw [ht]; rfl
      have hva := vAc_at (HVV.out s hl)
      rw [hPt] at hva
      obtain ⟨hg1, hg2, hol, hor, hS1, hS2⟩ := hva
      have hk : k = m := by rw [← hSz.len]; exact hol
      have HAC := Lib.hid (show ac (planActs W.acts p) s = ac (acl W.acts s) t by rw [planActs_at hsA]; exact hPt)
      obtain ⟨gg, hgg⟩ : ∃ gg, (ac (acl W.acts s) t).g = gg := ⟨_, rfl⟩
      obtain ⟨o, ho⟩ : ∃ o, (ac (acl W.acts s) t).o = o := ⟨_, rfl⟩
      rw [hgg] at eg hg1 hg2
      rw [ho] at hSz hol hor hS1 hS2
      have HAC2 := Lib.hid (show ac (planActs W.acts p) s = ⟨gg, o⟩ by rw [HAC.out, ← hgg, ← ho])
      have HOL := Lib.hid hol
      have HOR := Lib.hid hor
      have hcn2 := h2.2.cap
      have hcz := hSz.cap
      unfold maxLen at hcn2 hcz
      subst hk
      have htm : t < m2 := by omega
      obtain ⟨z0, z1, z2, z3⟩ := (HZ.out.mono HB.out).cells
      have hba := bal (Below.refl U.heap.size U) (.cells #[.int .i64 gg, .slice z k q] 42)
      have HBA := Lib.hid hba
      have HBX := Lib.hid (new_at U (.cells #[.int .i64 gg, .slice z k q] 42))
      have HZA := Lib.hid (hSz.mono hba)
      have HWA := Lib.hid (show Below V0.heap.size V0 _ from btr HB.out hba)
      have hsb := mul_le3 (A := 4) (B := 12) (show -4 ≤ W.b by omega) hb4 (show -12 ≤ isum o by omega) (by omega) (by omega)
      have k1 : IntKind.i64.wrap (W.b * isum o) = W.b * isum o := wrap_i64j _ (by omega) (by omega)
      have hzr := HB.out.size
      clear hc1 hc2 hc3 h2 hSz hPt ht hol hor hgg ho hba
      go_wp2
      generalize hV1 : U.alloc (.cells #[.int .i64 gg, .slice z k q] 42) = V1 at *
      have hv1 : V1.heap.size = U.heap.size + 1 := by rw [← hV1]; simp
      clear z0 z1 z2 z3
      obtain ⟨z0, z1, z2, z3⟩ := (HZ.out.mono HWA.out).cells
      have y0 : V1.cell? ⟨U.heap.size, 0, none⟩ = some (.int .i64 gg) := by rw [cells_at HBX.out]; rfl
      have y1 : V1.cell? ⟨U.heap.size, 1, none⟩ = some (.slice z k q) := by rw [cells_at HBX.out]; rfl
      have y2 := lt_of_block HBX.out
      have z1' : V1.drew.cell? ⟨w.heap.size, 1, none⟩ = some (.int .i64 W.b) := z2
      have y1' : V1.drew.cell? ⟨U.heap.size, 1, none⟩ = some (.slice z k q) := y1
      have hq1 : (1 : Nat) = 1 := rfl
      clear hV1
      go_quiet ((go_at_call 22; exact quiet_is (rsum_go _ z k q o (HZA.out.mono (drewN_below (Below.refl _ _))) (by omega) HOR.out)))
      have y1N : ∀ n, (V1.drewN n).cell? ⟨U.heap.size, 1, none⟩ = some (.slice z k q) := fun _ => y1
      clear z0 z1 z2 z3 z1' y1'
      go_wp2
      go_loopw [11, 39] (fun v t wr => ∃ j : Nat, j ≤ k ∧ t = .int .i64 j ∧ wr.ownsRow V1.heap.size 3 1 v j ((mb W.a (o.take j)).map (Value.int .i64)) ∧ Below V1.heap.size V1 wr) (fun _ t _ => k - (intOf t).toNat)
      case atStart => exact ⟨0, by omega, rfl, World.ownsRow_nil _ _ _ _, drewN_below (Below.refl _ _)⟩
      case round =>
        clear y1N y0 y1 y2
        obtain ⟨j, hj, rfl, hown, hB⟩ := hrel
        obtain ⟨z0, z1, z2, z3⟩ := (HZ.out.mono (btr HWA.out hB)).cells
        by_cases hlj : j < k
        · obtain ⟨b4, o4, rfl, hb4', hc⟩ := (HZA.out.mono hB).at (by omega)
          have hcj := hc j hlj
          have hy := HOR.out _ (nth_mem (l := o) (k := j) (by rw [HOL.out]; exact hlj))
          have HF := Lib.hid (mb_snoc (a := W.a) (o := o) (j := j) (by rw [HOL.out]; exact hlj))
          have hwz := hB.size
          obtain ⟨va, vc, rfl⟩ := own_form hown
          have hpp := mul_le3 (A := 3) (B := 3) (show -3 ≤ -W.a by omega) (by omega) (show -3 ≤ nth o j by omega) hy.2 (by omega)
          clear hc
          generalize nth o j = yy at *
          generalize hpe : -W.a * yy = pr at *
          go_wp2_with (at_builtin; refine wpList_app1 rfl _ _ 26 rfl Try.underlying26 infoInt rfl (by decide) V1.heap.size (.slice va j vc) j _ rfl (hown.alloc _) wr.heap.size #[.int .i64 pr] rfl (new_at _ _) rfl (by simp [Value.oneCell']) (by omega) (by omega) (by simp; omega) ?_; intro v' wn hown' hgrow; obtain ⟨wa, wc, rfl⟩ := own_form hown')
          have HO2 := Lib.hid (show wn.ownsRow V1.heap.size 3 1 (.slice wa (j + 1) wc) (j + 1) ((mb W.a (o.take (j + 1))).map (Value.int .i64)) by rw [HF.out, List.map_append]; exact hown')
          have HBN := Lib.hid ((bal hB (.cells #[.int .i64 pr] 3)).grown hgrow (by simp; omega) (fun i hi => (hown.lt i hi).1))
          clear hown hown' hgrow hB
          go_wp2
          go_roundw
          case rel => go_light; exact ⟨j + 1, by omega, by go_num, HO2.out, HBN.out⟩
          case measure => simp [intOf]; omega
        · obtain rfl : j = k := by omega
          rw [List.take_of_length_le (by rw [HOL.out]; omega)] at hown
          obtain ⟨va, vc, rfl⟩ := own_form hown
          obtain ⟨g, rfl, _⟩ := own_cells hown (by omega)
          obtain ⟨q1, q2', q3, q4, q5, q6, cur, q7⟩ := own_at hown (by omega)
          have e1 := q3 s hl
          have e2' := q4 s
          have hy := HOR.out _ (nth_mem (l := o) (k := s) (by rw [HOL.out]; exact hl))
          have hpp := mul_le3 (A := 3) (B := 3) (show -3 ≤ -W.a by omega) (by omega) (show -3 ≤ nth o s by omega) hy.2 (by omega)
          have HRS := Lib.hid (show nth (mb W.a o) s = -W.a * nth o s by unfold mb; rw [nth_map (by rw [HOL.out]; exact hl)])
          rw [HRS.out] at e1
          obtain ⟨rs, hrs⟩ : ∃ rs, -W.a * nth o s = rs := ⟨_, rfl⟩
          rw [hrs] at e1 hpp HRS
          have k2 : IntKind.i64.wrap (rs + W.b * isum o) = rs + W.b * isum o := wrap_i64j _ (by omega) (by omega)
          have k2' : wrap64 (rs + W.b * isum o) = rs + W.b * isum o := (IntWalk.i64_left _).symm.trans k2
          have hrb3 := mul_le3 (A := 48) (B := 9) (show -48 ≤ W.b * isum o by omega) (by omega) (show -9 ≤ gg by omega) hg2 (by omega)
          have k3 : IntKind.i64.wrap (W.b * isum o * gg) = W.b * isum o * gg := wrap_i64j _ (by omega) (by omega)
          have k3' : wrap64 (W.b * isum o * gg) = W.b * isum o * gg := (IntWalk.i64_left _).symm.trans k3
          have HB5 := Lib.hid ((btr HBA.out hB).setCell (p := ⟨g, s, none⟩) (show U.heap.size ≤ g by omega) (.int .i64 (rs + W.b * isum o)))
          have hz5 := HB5.out.size
          have HX5 := Lib.hid ((Below.heap_setCell wr ⟨g, s, none⟩ (.int .i64 (rs + W.b * isum o)) U.heap.size (by show U.heap.size ≠ g; omega)).trans (persist HBX.out hB))
          have HE := Lib.hid (show (wr.setCell ⟨g, s, none⟩ (.int .i64 (rs + W.b * isum o))).ownsRow U.heap.size 3 1 (.slice (some ⟨g, 0, none⟩) j vc) (mRow W.a W.b ⟨gg, o⟩ s).length ((mRow W.a W.b ⟨gg, o⟩ s).map (Value.int .i64)) by
            have q := own_base (hown.stored s (.int .i64 (rs + W.b * isum o))).1 (show U.heap.size ≤ V1.heap.size by omega)
            rw [← List.map_set] at q
            rw [show mRow W.a W.b ⟨gg, o⟩ s = (mb W.a o).set s (rs + W.b * isum o) by unfold mRow; rw [show mBare W.a ⟨gg, o⟩ = mb W.a o from rfl, HRS.out], List.length_set, mb_len, HOL.out]
            exact q)
          obtain ⟨E, D, hT, hlo, hR, hsep⟩ := HS.out
          have hMl : ((mMat W.a W.b (planActs W.acts p)).take s).length = s := by rw [List.length_take, mMat_len, HXL.out]; omega
          have hRl : ((mRight W.b (planActs W.acts p)).take s).length = s := by rw [List.length_take, mRight_len, HXL.out]; omega
          have hmown := hT.1.1
          have hrown := hR
          rw [hMl] at hmown
          rw [hRl] at hrown
          obtain ⟨ma, mc, rfl⟩ := own_form hmown
          obtain ⟨ra, rc, rfl⟩ := own_form hrown
          have HT := Lib.hid hT
          have HR := Lib.hid hR
          have HSEP := Lib.hid hsep
          have HML := Lib.hid hMl
          have HRL := Lib.hid hRl
          have hmt : (mMat W.a W.b (planActs W.acts p)).take (s + 1) = (mMat W.a W.b (planActs W.acts p)).take s ++ [mRow W.a W.b ⟨gg, o⟩ s] := by
            rw [take_row (by rw [mMat_len, HXL.out]; exact hl), mMat_at (by rw [HXL.out]; exact hl), HAC2.out]
          have hrt : (mRight W.b (planActs W.acts p)).take (s + 1) = (mRight W.b (planActs W.acts p)).take s ++ [W.b * isum o * gg] := by
            rw [take_nth (by rw [mRight_len, HXL.out]; exact hl), mRight_at (by rw [HXL.out]; exact hl), HAC2.out]
          have HMT := Lib.hid hmt
          have HRT := Lib.hid hrt
          have hzU := HB.out.size
          clear hT hR hsep hMl hRl hmt hrt q3 q4 q7 hrs hy
          go_wp2_with (at_builtin; first
            | (refine wpList_app1 rfl _ _ 90 rfl Try.underlying90 infoSl rfl (by decide) V0.heap.size (.slice ma s mc) s _ rfl ((own_mono hmown HB5.out).alloc _) wr.heap.size #[.slice (some ⟨g, 0, none⟩) j vc] rfl (by rw [show wr.heap.size = (wr.setCell ⟨g, s, none⟩ (.int .i64 (rs + W.b * isum o))).heap.size from by simp]; exact new_at _ _) rfl (by simp [Value.oneCell']) (by omega) (by omega) (by simp at hz5; simp; omega) ?_; intro v' w6 hown' hgrow; obtain ⟨na, nc, rfl⟩ := own_form hown'; have HW6 := Lib.hid (WoSt.row HT.out hlo HR.out HSEP.out HB5.out HE.out (by rw [HML.out]; exact hown') hgrow); have HBX6 := Lib.hid (((app_keep (own_mono hmown HB5.out) (Below.refl _ _) hgrow).2.2 _ _ _ (by decide) HX5.out).trans HX5.out); have y6 : w6.cell? ⟨U.heap.size, 0, none⟩ = some (.int .i64 gg) := (by rw [cells_at HBX6.out]; rfl); have y7 := lt_of_block HBX6.out; have hR6 := HW6.out.choose_spec.choose_spec.2.2.1; rw [HRL.out] at hR6; have HB6 := Lib.hid ((bal (btr HB.out HB5.out) (.cells #[.slice (some ⟨g, 0, none⟩) j vc] 26)).grown hgrow (by simp at hz5; simp; omega) (fun i hi => (hmown.lt i hi).1)); have hz6 := HB6.out.size)
            | (refine wpList_app2 rfl _ _ 26 rfl Try.underlying26 infoInt rfl (by decide) V0.heap.size (.slice ra s rc) s _ rfl (hR6.alloc _) w6.heap.size #[.int .i64 (W.b * isum o * gg)] rfl (new_at _ _) rfl (by simp [Value.oneCell']) (by omega) (by omega) (by simp; omega) ?_; intro v8 w8 hown8 hgrow8 hat; obtain ⟨qa, qc, rfl⟩ := own_form hown8))
          obtain ⟨E6, D6, hT6, hlo6, hR6', hsep6⟩ := HW6.out
          have HWN := Lib.hid (show WoSt w8 V0.heap.size (.slice na (s + 1) nc) (.slice qa (s + 1) qc) ((mMat W.a W.b (planActs W.acts p)).take (s + 1)) ((mRight W.b (planActs W.acts p)).take (s + 1)) by
            rw [HMT.out, HRT.out]
            exact WoSt.right hT6 hlo6 hR6' hsep6 (Below.refl _ _) (by rw [HRL.out, List.map_append]; exact hown8) hgrow8 (by simpa using hat))
          have HBN := Lib.hid ((bal HB6.out (.cells #[.int .i64 (W.b * isum o * gg)] 3)).grown hgrow8 (by simp; omega) (fun i hi => (hR6.lt i hi).1))
          clear hown' hgrow hat hown8 hgrow8 hT6 hR6' hsep6
          go_wp2
          go_roundw
          case rel => go_light; first | exact ⟨s + 1, by omega, by go_num, HWN, HBN⟩ | ((repeat apply Exists.intro); exact ⟨⟨s + 1, by omega, by go_num, HWN, HBN⟩, rfl⟩)
          case measure => simp [intOf]; omega
    · obtain rfl : s = m := by omega
      have hQ := HS.out
      rw [List.take_of_length_le (by rw [mMat_len, HXL.out]; omega), List.take_of_length_le (by rw [mRight_len, HXL.out]; omega)] at hQ
      obtain ⟨⟨ma, mc, rfl, hm1⟩, ⟨ra, rc, rfl, hr1⟩⟩ := hQ.sl
      rw [mMat_len, HXL.out] at hm1
      rw [mRight_len, HXL.out] at hr1
      have HM1 := Lib.hid hm1
      have HR1 := Lib.hid hr1
      clear hQ hm1 hr1
      rw [mMat_len, HXL.out, mRight_len, HXL.out]
      have hD := HD.out
      go_wp2_with fail
      refine (rsolve_go _ _ _ s _ _ _ _ HM1.out HSQ.out HR1.out HRB.out hn4 (fun w' a ha => rfrac_go w' a _ ha hD.1 (by omega))).mono ?_
      rintro e w9 ⟨fa, fn, fc, rfl, hfn, hfo, hfb⟩
      have hz0 := HB0.out.size
      have hzB := HB.out.size
      have HFO := Lib.hid (own_base hfo (show w.heap.size ≤ wr.heap.size by omega))
      have HFN := Lib.hid hfn
      have HFB := Lib.hid (btr HB0.out (btr HB.out hfb))
      clear hfo hfn hfb
      go_wp2
      go_ret
      rw [HWF.out]
      exact ⟨_, _, _, rfl, HFN.out, HFO.out, HFB.out⟩
end Go.Proofs.Ytcmakddnjmeklaa
