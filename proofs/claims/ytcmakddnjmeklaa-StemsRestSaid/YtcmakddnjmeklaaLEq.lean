/- Chapter 9: StemsEquations' walk. -/
import Derived.Test.YtcmakddnjmeklaaWe
import Derived.Test.YtcmakddnjmeklaaWo
namespace Go.Proofs.Ytcmakddnjmeklaa
open Go.RowKit

theorem whole_worth {W : Wd} {p l : List Int} {d : Int} (h : isPlanB W p = true) (hw : WholeOf (worthF W p) (wD W.a W.b (planActs W.acts p)) l d) {s : Nat} (hs : s < W.acts.length) :
    nth l s * wD W.a W.b (planActs W.acts p) = wN W.a W.b (planActs W.acts p) s * d := by
  have hX := okX_plan h
  have hl := planActs_len W.acts p
  have hD := wD_pos hX
  obtain ⟨_, _, _, h3⟩ := hw
  have h4 := h3 s (by rw [worthF_len]; exact hs)
  unfold worthF at h4
  rw [fracsL_at (by rw [wNs_len, hl]; exact hs), wNs_at (by rw [hl]; exact hs)] at h4
  have h5 := frq_mul (a := wN W.a W.b (planActs W.acts p) s) hD.1
  have h6 := frq_pos (((wN W.a W.b (planActs W.acts p) s : Int) : Rat) / ((wD W.a W.b (planActs W.acts p) : Int) : Rat))
  generalize toFr (((wN W.a W.b (planActs W.acts p) s : Int) : Rat) / ((wD W.a W.b (planActs W.acts p) : Int) : Rat)) = x at *
  refine Int.eq_of_mul_eq_mul_right (show x.d ≠ 0 by omega) ?_
  grind
theorem whole_tel {W : Wd} {p l : List Int} {d : Int} (h : isPlanB W p = true) (hw : WholeOf (worthF W p) (wD W.a W.b (planActs W.acts p)) l d) {s : Nat} (hs : s < W.acts.length) :
    nth l s * W.b * isum (pact W.acts p s).o = tel W.a W.b (pact W.acts p s) (nth l) d := by
  have hX := okX_plan h
  have hl := planActs_len W.acts p
  have hD := wD_pos hX
  have h1 := worth_eq hX (s := s) (by rw [hl]; exact hs)
  rw [planActs_at hs] at h1
  have h2 := tel_lin W.a W.b (pact W.acts p s) (nth l) (wN W.a W.b (planActs W.acts p)) d (wD W.a W.b (planActs W.acts p))
  have hv := vAc_at (hX.2.2.2.2.2 s (by rw [hl]; exact hs))
  rw [planActs_at hs, hl] at hv
  rw [sumN_congr (g := fun k => 0 * nth (pact W.acts p s).o k) (fun k hk => by rw [whole_worth h hw (by rw [hv.2.2.1] at hk; exact hk), Int.sub_self, Int.mul_zero, Int.zero_mul]), sumN_mul, Int.zero_mul, Int.mul_zero] at h2
  have h3 := whole_worth h hw hs
  refine Int.eq_of_mul_eq_mul_right (show wD W.a W.b (planActs W.acts p) ≠ 0 by omega) ?_
  rw [show tel W.a W.b (pact W.acts p s) (nth l) d * wD W.a W.b (planActs W.acts p) = tel W.a W.b (pact W.acts p s) (wN W.a W.b (planActs W.acts p)) (wD W.a W.b (planActs W.acts p)) * d by omega, ← h1]
  grind
theorem whole_36 {W : Wd} {p l : List Int} {d : Int} (h : isPlanB W p = true) (hw : WholeOf (worthF W p) (wD W.a W.b (planActs W.acts p)) l d) {s : Nat} (hs : s < W.acts.length) :
    0 < d ∧ d ≤ 5308416 ∧ -191102976 ≤ nth l s ∧ nth l s ≤ 191102976 := by
  have hX := okX_plan h
  have hl := planActs_len W.acts p
  have hD := wD_pos hX
  have h1 := Int.le_of_dvd hD.1 hw.2.1
  have h2 := whole_worth h hw hs
  have h3 := wN_36 hX (s := s) (by rw [hl]; exact hs)
  have h0 := hw.1
  have h4 := Int.mul_le_mul_of_nonneg_right h3.1 (Int.le_of_lt h0)
  have h5 := Int.mul_le_mul_of_nonneg_right h3.2 (Int.le_of_lt h0)
  rw [← h2] at h4 h5
  have h6 : nth l s ≤ 36 * d := Int.le_of_mul_le_mul_right (by grind) hD.1
  have h7 : -(36 * d) ≤ nth l s := Int.le_of_mul_le_mul_right (by grind) hD.1
  exact ⟨h0, by omega, by omega, by omega⟩
theorem worth_dvd {W : Wd} {p : List Int} (h : isPlanB W p = true) {s : Nat} (hs : s < W.acts.length) : (fr (worthF W p) s).d ∣ wD W.a W.b (planActs W.acts p) := by
  have hX := okX_plan h
  have hl := planActs_len W.acts p
  unfold worthF
  rw [fracsL_at (by rw [wNs_len, hl]; exact hs)]
  exact frq_dvd (wD_pos hX).1

set_option maxRecDepth 100000 in
set_option maxHeartbeats 1000000 in
theorem leq_walk (w : World) (x : Option Addr) (n c : Nat) (W : Wd) (hA : A2Sl w x n c W.acts) (y : Option Addr) (m d : Nat) (p : List Int) (hp : Sl w y m d p) (_hpb : ∀ z ∈ p, -9223372036854775808 ≤ z ∧ z ≤ 9223372036854775807) :
    Calls Try.prog 3 #[wv W.a W.b x n c, .slice y m d] w fun e w' => e = .returned (.bool true) ∧ Below w.heap.size w w' := by
  have hb0 := bal (Below.refl w.heap.size w) (.cells #[.int .i64 W.a, .int .i64 W.b, .slice x n c] 25)
  have HZ := Lib.hid (new_at w (.cells #[.int .i64 W.a, .int .i64 W.b, .slice x n c] 25))
  have HA := Lib.hid (hA.mono hb0)
  have HP := Lib.hid (hp.mono hb0)
  have HB0 := Lib.hid hb0
  have HNA := Lib.hid hA.1
  have HNP := Lib.hid hp.len
  have hcn := hA.2.cap
  have hcm := hp.cap
  unfold maxLen at hcn hcm
  clear hA hp hb0
  cases hok : isPlanB W p with
  | false =>
    have HOK := Lib.hid hok
    clear hok
    go_enter Try.func3, Try.ntmps3
    go_wp2_with fail
    refine (of_go _ x n c W.a W.b W.acts HA.out).mono ?_
    rintro e w2 ⟨x2, n2, c2, rfl, hO, hb2⟩
    obtain ⟨xa, xc, e1, hs2⟩ := hO.sl
    injection e1 with e1 e2 e3
    subst e1 e2 e3
    have HA2 := Lib.hid hs2
    have HB2 := Lib.hid hb2
    clear hO hs2 hb2
    go_wp2_with fail
    refine (list_go _ y m d p (HP.out.mono HB2.out)).mono ?_
    rintro e w3 ⟨y3, n3, c3, rfl, ho3, hb3⟩
    have HP3 := Lib.hid (own_sl ho3)
    have HB3 := Lib.hid hb3
    clear ho3 hb3
    go_wp2_with fail
    refine (worthU_no _ _ _ _ _ _ _ (trW W) (p.take 7) (HA2.out.mono HB3.out) HP3.out (by rw [isPlan_tr]; exact HOK.out)).mono ?_
    rintro e w4 ⟨x4, n4, c4, rfl, hn4, ho4, hb4⟩
    have HB4 := Lib.hid (btr (btr (btr HB0.out HB2.out) HB3.out) hb4)
    clear ho4 hb4
    go_wp2_with fail
    refine (awake_go _).mono ?_
    rintro e w5 ⟨rfl, hb5⟩
    go_wp2
    go_ret
    exact ⟨rfl, btr HB4.out hb5⟩
  | true =>
    have hl4 := (okX_plan hok).2.1
    rw [planActs_len] at hl4
    have hpl := (planOk_at (by unfold isPlanB at hok; rw [Bool.and_eq_true] at hok; exact hok.2)).1
    have hpa := (planOk_at (by unfold isPlanB at hok; rw [Bool.and_eq_true] at hok; exact hok.2)).2
    obtain ⟨⟨hn1, _, hab1, hab2, hab3⟩, hvv⟩ := vWd_parts (by unfold isPlanB at hok; rw [Bool.and_eq_true] at hok; exact hok.1)
    have HOK := Lib.hid hok
    have hAn := HNA.out
    have hPm := HNP.out
    obtain rfl : m = n := by omega
    have hm4 : m ≤ 4 := by omega
    have hm1 : 1 ≤ m := by omega
    have HPA := Lib.hid hpa
    have HVV := Lib.hid hvv
    have HTW := Lib.hid (trW_same (W := W) (by unfold isPlanB at hok; rw [Bool.and_eq_true] at hok; exact hok.1))
    have HTP := Lib.hid (take_plan hok)
    clear hok hpl hAn hPm hn1 hpa hvv
    go_enter Try.func3, Try.ntmps3
    go_wp2_with fail
    refine (of_go _ x m c W.a W.b W.acts HA.out).mono ?_
    rintro e w2 ⟨x2, n2, c2, rfl, hO, hb2⟩
    obtain ⟨xa, xc, e1, hs2⟩ := hO.sl
    injection e1 with e1 e2 e3
    subst e1 e2 e3
    have HA2 := Lib.hid hs2
    have HB2 := Lib.hid hb2
    clear hO hs2 hb2
    go_wp2_with fail
    refine (list_go _ y m d p (HP.out.mono HB2.out)).mono ?_
    rintro e w3 ⟨y3, n3, c3, rfl, ho3, hb3⟩
    have HP3 := Lib.hid (own_sl ho3)
    have HB3 := Lib.hid hb3
    clear ho3 hb3
    go_wp2_with fail
    refine (worthU_go _ _ _ _ _ _ _ (trW W) (p.take 7) (HA2.out.mono HB3.out) HP3.out (by rw [isPlan_tr]; exact HOK.out)).mono ?_
    rintro e w4 ⟨x4, n4, c4, rfl, hn4, ho4, hb4⟩
    rw [HTW.out, HTP.out] at hn4 ho4
    have hq4 : n4 = m := by rw [hn4, worthF_len]; exact HNA.out
    clear hn4
    subst hq4
    have HF4 := Lib.hid (own_fr ho4 (by rw [worthF_len]; exact HNA.out.symm))
    have HB4 := Lib.hid (btr (btr HB2.out HB3.out) hb4)
    have hz4 := persist HZ.out HB4.out
    have k0 : w4.cell? ⟨w.heap.size, 0, none⟩ = some (.int .i64 W.a) := by rw [cells_at hz4]; rfl
    have k1 : w4.cell? ⟨w.heap.size, 1, none⟩ = some (.int .i64 W.b) := by rw [cells_at hz4]; rfl
    have k2 : w4.cell? ⟨w.heap.size, 2, none⟩ = some (.slice x n4 c) := by rw [cells_at hz4]; rfl
    have k3 := lt_of_block hz4
    clear ho4 hb4 hz4
    go_wp2_with fail
    refine (fine_go _ x y n4 c n4 d W p (HA.out.mono HB4.out) (HP.out.mono HB4.out)).mono ?_
    rintro e w5 ⟨rfl, hb5⟩
    rw [HOK.out]
    have HB5 := Lib.hid (btr HB4.out hb5)
    have HF5 := Lib.hid (HF4.out.mono hb5)
    clear hb5 k0 k1 k2 k3
    go_wp2_with fail
    refine (lowest_go _ x4 n4 c4 _ HF5.out (fun i hi => worth_low HOK.out (by have := HNA.out; omega))).mono ?_
    rintro e w6 ⟨rfl, hb6⟩
    have HB6 := Lib.hid (btr HB5.out hb6)
    have HF6 := Lib.hid (HF5.out.mono hb6)
    clear hb6
    have hD := wD_pos (okX_plan HOK.out)
    have HD := Lib.hid hD
    clear hD
    go_wp2_with fail
    refine (whole_go _ x4 n4 c4 _ _ HF6.out (by omega) HD.out.1 (by have := HD.out.2; omega) (fun i hi => worth_low HOK.out (by have := HNA.out; omega)) (fun i hi => worth_dvd HOK.out (by have := HNA.out; omega))).mono ?_
    rintro e w7 ⟨x7, n7, c7, l, dd, rfl, hW7, hs7, hb7⟩
    have hn7 : n7 = n4 := by rw [← hs7.len, hW7.2.2.1, worthF_len]; exact HNA.out
    subst hn7
    have HW7 := Lib.hid hW7
    have HS7 := Lib.hid hs7
    have HB7 := Lib.hid (btr HB6.out hb7)
    clear hW7 hs7 hb7
    go_wp2
    go_loopw [54] (fun t wr => ∃ s : Nat, s ≤ n7 ∧ t = .int .i64 s ∧ Below w7.heap.size w7 wr) (fun t _ => n7 - (intOf t).toNat)
    case atStart => exact ⟨0, by omega, rfl, Below.refl _ _⟩
    case round =>
      obtain ⟨s, hs, rfl, hB⟩ := hrel
      by_cases hl : s < n7
      · have HBB := Lib.hid (btr HB7.out hB)
        have hsA : s < W.acts.length := by have := HNA.out; omega
        obtain ⟨hp0, hp1⟩ := HPA.out s hsA
        obtain ⟨b1, o1, rfl, hb1, hc1⟩ := (HA.out.mono HBB.out).at (by omega)
        obtain ⟨a2, m2, q2, e2, h2⟩ := hc1 s hl
        have hl2 := h2.1
        obtain ⟨t, ht⟩ : ∃ t : Nat, nth p s = (t : Int) := ⟨(nth p s).toNat, by omega⟩
        obtain ⟨b2, o2, rfl, hb2, hc2⟩ := h2.at (by omega)
        obtain ⟨eg, z, k, q, eo, hS⟩ := hc2 t (by omega)
        obtain ⟨b3, o3, rfl, hb3, hc3⟩ := (HP.out.mono HBB.out).at (by omega)
        have e3 := hc3 s hl
        rw [ht] at e3
        have hP : pact W.acts p s = ac (acl W.acts s) t := by unfold pact; rw [ht]; rfl
        have hv := (HVV.out s hsA).2.2 t (by omega)
        rw [HNA.out] at hv
        have h36 := whole_36 HOK.out HW7.out hsA
        have htel := whole_tel HOK.out HW7.out hsA
        rw [hP] at htel
        obtain ⟨b4, o4, rfl, hb4, hc4⟩ := (HS7.out.mono hB).at (by omega)
        have e4 := hc4 s hl
        have hcap7 := HS7.out.cap
        have hcn2 := h2.2.cap
        unfold maxLen at hcap7 hcn2
        have hzr := persist HZ.out HBB.out
        have k0 : wr.cell? ⟨w.heap.size, 0, none⟩ = some (.int .i64 W.a) := by rw [cells_at hzr]; rfl
        have k1 : wr.cell? ⟨w.heap.size, 1, none⟩ = some (.int .i64 W.b) := by rw [cells_at hzr]; rfl
        have k2 : wr.cell? ⟨w.heap.size, 2, none⟩ = some (.slice (some ⟨b1, o1, none⟩) n7 c) := by rw [cells_at hzr]; rfl
        have k3 := lt_of_block hzr
        have htm : t < m2 := by omega
        have HV := Lib.hid hv
        have HS := Lib.hid hS
        obtain ⟨gg, hgg⟩ : ∃ gg, (ac (acl W.acts s) t).g = gg := ⟨_, rfl⟩
        obtain ⟨o, ho⟩ : ∃ o, (ac (acl W.acts s) t).o = o := ⟨_, rfl⟩
        have HAC := Lib.hid (show ac (acl W.acts s) t = ⟨gg, o⟩ by rw [← hgg, ← ho])
        rw [hgg] at eg
        have HTEL := Lib.hid htel
        obtain ⟨ls, hls⟩ : ∃ ls, nth l s = ls := ⟨_, rfl⟩
        have HLS := Lib.hid hls
        rw [hls] at e4 h36
        clear hc1 hc2 hc3 hc4 h2 hl2 hS hP ht hp0 hp1 hv hgg ho htel hls hzr
        have hwa := bal (Below.refl wr.heap.size wr) (.cells #[.int .i64 gg, .slice z k q] 42)
        have hbx := new_at wr (.cells #[.int .i64 gg, .slice z k q] 42)
        have HS2 := Lib.hid (show Sl (wr.alloc (.cells #[.int .i64 gg, .slice z k q] 42)).drew z k q o by have := HS.out; rw [HAC.out] at this; exact this.mono hwa.drew)
        have HL2 := Lib.hid ((HS7.out.mono hB).mono hwa.drew)
        have hk : k = n7 := by
          have h1 := HS2.out.len
          have h2 := (vAc_at HV.out).2.2.1
          rw [HAC.out] at h2
          exact h1.symm.trans h2
        subst hk
        have hv9 := vAc_at HV.out
        rw [HAC.out] at hv9
        obtain ⟨_, _, hol, hor, hS1, hS2⟩ := hv9
        have hol : o.length = k := hol
        have hS1 : 1 ≤ isum o := hS1
        have hS2 : isum o ≤ 3 * k := hS2
        have HOR := Lib.hid (show ∀ x ∈ o, 0 ≤ x ∧ x ≤ 3 from hor)
        have HV2 := Lib.hid (show vAc k ⟨gg, o⟩ = true by have := HV.out; rwa [HAC.out] at this)
        have HLB := Lib.hid (show ∀ e ∈ l, -1000000000000000 ≤ e ∧ e ≤ 1000000000000000 from fun e he => by
          obtain ⟨i, hi, rfl⟩ := List.mem_iff_getElem.1 he
          have hi2 : i < W.acts.length := by rw [HNA.out, ← HS7.out.len]; exact hi
          have := whole_36 HOK.out HW7.out hi2
          rw [nth_of_lt hi] at this
          omega)
        have hm1 := mul_le3 (A := 191102976) (B := 4) (show -191102976 ≤ ls by omega) (by omega) (show -4 ≤ W.b by omega) (by omega) (by omega)
        have hm2 := mul_le3 (A := 764411904) (B := 12) (show -764411904 ≤ ls * W.b by omega) (by omega) (show -12 ≤ isum o by omega) (by omega) (by omega)
        have w1 : IntKind.i64.wrap (ls * W.b) = ls * W.b := wrap_i64j _ (by omega) (by omega)
        have w2 : IntKind.i64.wrap (ls * W.b * isum o) = ls * W.b * isum o := wrap_i64j _ (by omega) (by omega)
        have HEQ := Lib.hid (show ls * W.b * isum o = tel W.a W.b ⟨gg, o⟩ (nth l) dd by have := HTEL.out; rw [HLS.out, HAC.out] at this; exact this)
        have t1 : (ls * W.b * isum o != tel W.a W.b ⟨gg, o⟩ (nth l) dd) = false := by rw [HEQ.out]; simp
        have t2 : (ls * W.b * isum o == tel W.a W.b ⟨gg, o⟩ (nth l) dd) = true := by rw [HEQ.out]; simp
        have HBN := Lib.hid ((bal hB (.cells #[.int .i64 gg, .slice z k q] 42)).drew)
        have HSX := Lib.hid (fun (w' : World) (hb : Below (wr.alloc (.cells #[.int .i64 gg, .slice z k q] 42)).drew.heap.size (wr.alloc (.cells #[.int .i64 gg, .slice z k q] 42)).drew w') =>
          (show w'.cell? ⟨b4, o4 + s, none⟩ = some (.int .i64 ls) ∧ w'.cell? ⟨w.heap.size, 0, none⟩ = some (.int .i64 W.a) ∧ w'.cell? ⟨w.heap.size, 1, none⟩ = some (.int .i64 W.b) ∧ w'.cell? ⟨w.heap.size, 2, none⟩ = some (.slice (some ⟨b1, o1, none⟩) k c) ∧ w'.cell? ⟨wr.heap.size, 0, none⟩ = some (.int .i64 gg) ∧ w'.cell? ⟨wr.heap.size, 1, none⟩ = some (.slice z k q) from
            have hh := btr hwa.drew hb
            have q := persist (w := (wr.alloc (.cells #[.int .i64 gg, .slice z k q] 42)).drew) hbx hb
            ⟨((bcell hh).1 _ _ hb4).trans e4, ((bcell hh).1 _ _ k3).trans k0, ((bcell hh).1 _ _ k3).trans k1, ((bcell hh).1 _ _ k3).trans k2, by rw [cells_at q]; rfl, by rw [cells_at q]; rfl⟩))
        obtain ⟨f1, f2, f3, f4, f5, f6⟩ := HSX.out _ (Below.refl _ _)
        clear hwa hbx hol hor hm1 hm2
        go_wp2
        go_region_held3 (fun w' => w'.cell? ⟨b4, o4 + s, none⟩ = some (.int .i64 ls) ∧ w'.cell? ⟨w.heap.size, 0, none⟩ = some (.int .i64 W.a) ∧ w'.cell? ⟨w.heap.size, 1, none⟩ = some (.int .i64 W.b) ∧ w'.cell? ⟨w.heap.size, 2, none⟩ = some (.slice (some ⟨b1, o1, none⟩) k c) ∧ w'.cell? ⟨wr.heap.size, 0, none⟩ = some (.int .i64 gg) ∧ w'.cell? ⟨wr.heap.size, 1, none⟩ = some (.slice z k q))
          (first | exact HSX.out _ hb9 | go_keep)
          (first
            | (go_at_call 22; refine (rsum_go _ z k q o (by first | exact HS2.out | exact HS2.out.mono hb9) (by omega) HOR.out).mono ?_; rintro e w' ⟨rfl, rfl⟩)
            | (go_at_call 23; refine (stepped_go _ W.a W.b gg _ z _ _ _ k q k _ o l dd HS2.out HL2.out HV2.out (by omega) (by omega) (by omega) (by omega) (by omega) HLB.out (by omega)).mono ?_; rintro e w9 ⟨rfl, hb9⟩))
        all_goals go_wp2
        all_goals go_roundw
        all_goals first
          | (case rel => go_light; exact ⟨s + 1, by omega, by go_num, btr HBN.out hb9⟩)
          | skip
        all_goals (simp [intOf]; omega)
      · obtain rfl : s = n7 := by omega
        go_wp2_with fail
        refine (awake_go _).mono ?_
        rintro e w8 ⟨rfl, hb8⟩
        go_wp2
        go_ret
        exact ⟨rfl, btr (btr HB0.out (btr HB7.out hB)) hb8⟩
end Go.Proofs.Ytcmakddnjmeklaa
