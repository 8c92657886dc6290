/- Chapter 9, walk: Check. -/
import Derived.Test.YtcmakddnjmeklaaWl
namespace Go.Proofs.Ytcmakddnjmeklaa
open Go.RowKit

/-! ### Check -/
def chkHead (W : Wd) (l : List Int) (d : Int) : Prop := l.length = W.acts.length ∧ (∀ e ∈ l, -1000000000000 ≤ e ∧ e ≤ 1000000000000) ∧ 1 ≤ d ∧ d ≤ 1000000000
instance (W : Wd) (l : List Int) (d : Int) : Decidable (chkHead W l d) := by unfold chkHead; exact inferInstance
def chkS (W : Wd) (l : List Int) (d : Int) (s : Nat) : Bool := (List.range (acl W.acts s).length).all fun i => decide (tel W.a W.b (ac (acl W.acts s) i) (nth l) d ≤ W.b * isum (ac (acl W.acts s) i).o * nth l s)
def chkB (W : Wd) (l : List Int) (d : Int) : Bool := decide (chkHead W l d) && (List.range W.acts.length).all (chkS W l d)
theorem chk_no {W : Wd} {l : List Int} {d : Int} (h : ¬ chkHead W l d) : chkB W l d = false := by unfold chkB; rw [decide_eq_false h]; rfl
def GivesChk (b : Bool) (err : Int) (w : World) (e : Ending) (w' : World) : Prop := e = .returned (.tuple #[.bool b, .int .i64 err]) ∧ Below w.heap.size w w'
set_option maxHeartbeats 400000 in
theorem check_no (w : World) (x y : Option Addr) (n c m d : Nat) (W : Wd) (_l : List Int) (dv : Int) (hA : A2Sl w x n c W.acts) (hok : vWd W = false) :
    Calls Try.prog 33 #[wv W.a W.b x n c, .slice y m d, .int .i64 dv] w (GivesChk false 2 w) := by
  have hb0 := bal (bal (Below.refl w.heap.size w) (.cells #[.int .i64 W.a, .int .i64 W.b, .slice x n c] 33)) (.cells #[.slice y m d] 26)
  have HA := Lib.hid (hA.mono hb0)
  have HB0 := Lib.hid hb0
  have HOK := Lib.hid hok
  clear hA hb0 hok
  go_enter Try.func33, Try.ntmps33
  go_wp2_with fail
  refine (wvalid_go _ x n c W HA.out).mono ?_
  rintro e w2 ⟨rfl, hb2⟩
  rw [HOK.out]
  go_wp2
  go_ret2
  exact ⟨rfl, btr HB0.out hb2⟩
set_option maxRecDepth 100000 in
set_option maxHeartbeats 1000000 in
theorem check_go (w : World) (x y : Option Addr) (n c m d : Nat) (W : Wd) (l : List Int) (dv : Int) (hA : A2Sl w x n c W.acts) (hl : Sl w y m d l) (hok : vWd W = true) :
    Calls Try.prog 33 #[wv W.a W.b x n c, .slice y m d, .int .i64 dv] w (GivesChk (chkB W l dv) 0 w) := by
  have hcf := cf_check1
  have hb0 := bal (bal (Below.refl w.heap.size w) (.cells #[.int .i64 W.a, .int .i64 W.b, .slice x n c] 33)) (.cells #[.slice y m d] 26)
  have HA := Lib.hid (hA.mono hb0)
  have HS := Lib.hid (hl.mono hb0)
  have HB0 := Lib.hid hb0
  have HOK := Lib.hid hok
  have HZ := Lib.hid (show BoxW ((w.alloc (.cells #[.int .i64 W.a, .int .i64 W.b, .slice x n c] 33)).alloc (.cells #[.slice y m d] 26)) w.heap.size W.a W.b x n c from persist (new_at w _) (bal (Below.refl _ _) _))
  have HY := Lib.hid (show BoxS ((w.alloc (.cells #[.int .i64 W.a, .int .i64 W.b, .slice x n c] 33)).alloc (.cells #[.slice y m d] 26)) (w.heap.size + 1) y m d from new_at2 w _ _)
  have HAN := Lib.hid hA.1
  have hml := hl.len
  obtain ⟨⟨hn1, hn4, ha1, hab, hb4⟩, hvv⟩ := vWd_parts hok
  rw [HAN.out] at hn1 hn4
  have HVV := Lib.hid hvv
  clear hA hl hb0 hok hvv
  by_cases q1 : m = n
  · subst q1
    have HML := Lib.hid hml
    by_cases q2 : ∃ e ∈ l, e < -1000000000000
    · have HV := Lib.hid (chk_no (W := W) (l := l) (d := dv) fun h => by obtain ⟨e, he, h1⟩ := q2; have := h.2.1 e he; omega)
      have HQ := Lib.hid q2
      clear q2 hml
      go_enter Try.func33, Try.ntmps33
      go_wp2_with fail
      refine (wvalid_go _ x m c W HA.out).mono ?_
      rintro e w2 ⟨rfl, hb2⟩
      rw [HOK.out]
      obtain ⟨z0, z1, z2, z3⟩ := BoxW.cells (persist HZ.out hb2)
      obtain ⟨u0, u1⟩ := BoxS.cell (persist HY.out hb2)
      have HB2 := Lib.hid (btr HB0.out hb2)
      have HS2 := Lib.hid (HS.out.mono hb2)
      go_wp2_with fail
      refine (min_go _ y m d l HS2.out (by omega)).mono ?_
      rintro e w3 ⟨mn, hmn, rfl, rfl⟩
      have q : mn < -1000000000000 := by
        obtain ⟨e, he, h1⟩ := HQ.out
        have := hmn.2 e he
        omega
      clear hmn
      go_wp2
      go_ret2
      rw [HV.out]
      exact ⟨rfl, HB2.out⟩
    · by_cases q3 : ∃ e ∈ l, 1000000000000 < e
      · have HV := Lib.hid (chk_no (W := W) (l := l) (d := dv) fun h => by obtain ⟨e, he, h1⟩ := q3; have := h.2.1 e he; omega)
        have HQ := Lib.hid q3
        have HQ2 := Lib.hid q2
        clear q2 q3 hml
        go_enter Try.func33, Try.ntmps33
        go_wp2_with fail
        refine (wvalid_go _ x m c W HA.out).mono ?_
        rintro e w2 ⟨rfl, hb2⟩
        rw [HOK.out]
        obtain ⟨z0, z1, z2, z3⟩ := BoxW.cells (persist HZ.out hb2)
        obtain ⟨u0, u1⟩ := BoxS.cell (persist HY.out hb2)
        have HB2 := Lib.hid (btr HB0.out hb2)
        have HS2 := Lib.hid (HS.out.mono hb2)
        go_wp2_with fail
        refine (min_go _ y m d l HS2.out (by omega)).mono ?_
        rintro e w3 ⟨mn, hmn, rfl, rfl⟩
        have q : ¬ mn < -1000000000000 := fun h => HQ2.out ⟨mn, hmn.1, h⟩
        clear hmn
        go_wp2_with fail
        refine (max_go _ y m d l HS2.out (by omega)).mono ?_
        rintro e w3 ⟨mx, hmx, rfl, rfl⟩
        have q' : 1000000000000 < mx := by
          obtain ⟨e, he, h1⟩ := HQ.out
          have := hmx.2 e he
          omega
        clear hmx
        go_wp2
        go_ret2
        rw [HV.out]
        exact ⟨rfl, HB2.out⟩
      · have hlb : ∀ e ∈ l, -1000000000000 ≤ e ∧ e ≤ 1000000000000 := fun e he => ⟨Int.not_lt.1 fun h => q2 ⟨e, he, h⟩, Int.not_lt.1 fun h => q3 ⟨e, he, h⟩⟩
        have HLB := Lib.hid hlb
        clear q2 q3 hlb hml
        by_cases q4 : 1 ≤ dv ∧ dv ≤ 1000000000
        · have HH := Lib.hid (show chkHead W l dv from ⟨by rw [HML.out, HAN.out], HLB.out, q4⟩)
          have q4a : ¬ dv < 1 := by omega
          have q4b : ¬ 1000000000 < dv := by omega
          go_enter Try.func33, Try.ntmps33
          go_wp2_with fail
          refine (wvalid_go _ x m c W HA.out).mono ?_
          rintro e w2 ⟨rfl, hb2⟩
          rw [HOK.out]
          obtain ⟨z0, z1, z2, z3⟩ := BoxW.cells (persist HZ.out hb2)
          obtain ⟨u0, u1⟩ := BoxS.cell (persist HY.out hb2)
          have HB2 := Lib.hid (btr HB0.out hb2)
          have HS2 := Lib.hid (HS.out.mono hb2)
          go_wp2_with fail
          refine (min_go _ y m d l HS2.out (by omega)).mono ?_
          rintro e w3 ⟨mn, hmn, rfl, rfl⟩
          have q : ¬ mn < -1000000000000 := fun h => by have := HLB.out mn hmn.1; omega
          clear hmn
          go_wp2_with fail
          refine (max_go _ y m d l HS2.out (by omega)).mono ?_
          rintro e w3 ⟨mx, hmx, rfl, rfl⟩
          have q' : ¬ 1000000000000 < mx := fun h => by have := HLB.out mx hmx.1; omega
          clear hmx
          have hba := bal (Below.refl w2.heap.size w2) (.cells #[.slice y m d, .int .i64 dv] 80)
          have HBP := Lib.hid (show BoxP (w2.alloc (.cells #[.slice y m d, .int .i64 dv] 80)) w2.heap.size y m d dv from new_at w2 _)
          have HA3 := Lib.hid (HA.out.mono (btr hb2 hba))
          have HS3 := Lib.hid (HS2.out.mono hba)
          have HZ3 := Lib.hid (show BoxW _ w.heap.size W.a W.b x m c from persist HZ.out (btr hb2 hba))
          have HY3 := Lib.hid (show BoxS _ (w.heap.size + 1) y m d from persist HY.out (btr hb2 hba))
          have HB3 := Lib.hid (btr HB2.out hba)
          obtain ⟨v0, v1, v2, v3⟩ := BoxW.cells HZ3.out
          have hcap := HA.out.2.cap
          have hcap2 := HS2.out.cap
          unfold maxLen at hcap hcap2
          clear hba hb2 z0 z1 z2 z3
          go_wp2
          clear u0 u1
          generalize hVe : w2.alloc (.cells #[.slice y m d, .int .i64 dv] 80) = V at *
          clear hVe
          go_loopw [44] (fun t wr => ∃ s : Nat, s ≤ m ∧ t = .int .i64 s ∧ Hid (∀ i, i < s → chkS W l dv i = true) ∧ Hid (Below V.heap.size V wr)) (fun t _ => m - (intOf t).toNat)
          case atStart => exact ⟨0, by omega, rfl, Lib.hid (fun i hi => by omega), Lib.hid (Below.refl _ _)⟩
          case round =>
            clear v0 v1 v2 v3
            obtain ⟨s, hs, rfl, HC, HB⟩ := hrel
            by_cases hl : s < m
            · have hsA : s < W.acts.length := by rw [HAN.out]; exact hl
              obtain ⟨hv1, hv3, hvi⟩ := HVV.out s hsA
              obtain ⟨z0, z1, z2, z3⟩ := BoxW.cells (persist HZ3.out HB.out)
              obtain ⟨b1, o1, rfl, hb1, hc1⟩ := (HA3.out.mono HB.out).at (by omega)
              obtain ⟨a2, n2, c2, e2, h2⟩ := hc1 s hl
              have hl2 := h2.1
              have hbx := bal (Below.refl wr.heap.size wr) (.cells #[.int .i64 (s : Int)] 3)
              have HI := Lib.hid (show BoxI (wr.alloc (.cells #[.int .i64 (s : Int)] 3)) wr.heap.size (s : Int) from new_at wr _)
              have HBX := Lib.hid (btr HB.out hbx)
              have H2' := Lib.hid (h2.mono hbx)
              have HL2 := Lib.hid hl2
              have HVI := Lib.hid (show ∀ i, i < n2 → vAc m (ac (acl W.acts s) i) = true from fun i hi => by have := hvi i (by omega); rwa [HAN.out] at this)
              have HCS := Lib.hid (show chkS W l dv s = (List.range n2).all fun i => decide (tel W.a W.b (ac (acl W.acts s) i) (nth l) dv ≤ W.b * isum (ac (acl W.acts s) i).o * nth l s) by unfold chkS; rw [hl2])
              clear hc1 h2 hvi hl2 hv1 hv3 hbx
              go_wp2_with fail
              refine (evA_go _ a2 n2 c2 (acl W.acts s) H2'.out 62 #[.pointer (some ⟨w.heap.size, 0, none⟩), .pointer (some ⟨w2.heap.size, 0, none⟩), .pointer (some ⟨w.heap.size + 1, 0, none⟩), .pointer (some ⟨wr.heap.size, 0, none⟩)] (fun i => decide (tel W.a W.b (ac (acl W.acts s) i) (nth l) dv ≤ W.b * isum (ac (acl W.acts s) i).o * nth l s)) cf_check1 (fun w' i z k q hb hi hS => by
                have hv := HVI.out i hi
                have hk : k = m := by rw [← hS.len]; exact (vAc_at hv).2.2.1
                have hbb := btr HBX.out hb
                exact check1_go w' W.a W.b w.heap.size w2.heap.size (w.heap.size + 1) wr.heap.size m c k q m d s (some ⟨b1, o1, none⟩) y z (ac (acl W.acts s) i) l dv (persist HZ3.out hbb) (persist HBP.out hbb) (persist HY3.out hbb) (persist HI.out hb) hS (HS3.out.mono hbb) hl
                  (by rw [hk]; exact hv) (by omega) (by omega) (by omega) (by omega) (by omega) HLB.out (by omega))).mono ?_
              rintro e w9 ⟨rfl, hb9⟩
              have HB9 := Lib.hid (btr HBX.out hb9)
              clear hb9
              rw [← HCS.out]
              cases hr : chkS W l dv s with
              | true =>
                have HC2 := Lib.hid (show ∀ i, i < s + 1 → chkS W l dv i = true from fun i hi => by
                  by_cases e : i = s
                  · subst e; exact hr
                  · exact HC.out i (by omega))
                clear hr
                go_wp2
                go_roundw
                case rel => go_light; exact ⟨s + 1, by omega, by go_num, HC2, HB9⟩
                case measure => simp [intOf]; omega
              | false =>
                have HV := Lib.hid (show chkB W l dv = false by
                  unfold chkB
                  rw [show (List.range W.acts.length).all (chkS W l dv) = false from by
                    rw [List.all_eq_false]; exact ⟨s, List.mem_range.2 hsA, by rw [hr]; simp⟩, Bool.and_false])
                clear hr
                go_wp2
                go_ret2
                rw [HV.out]
                exact ⟨rfl, btr HB3.out HB9.out⟩
            · obtain rfl : s = m := by omega
              have HV := Lib.hid (show chkB W l dv = true by
                unfold chkB
                rw [decide_eq_true HH.out, Bool.true_and, List.all_eq_true]
                exact fun i hi => HC.out i (by have := List.mem_range.1 hi; rw [HAN.out] at this; exact this))
              go_wp2
              go_ret2
              rw [HV.out]
              exact ⟨rfl, btr HB3.out HB.out⟩
        · have HV := Lib.hid (chk_no (W := W) (l := l) (d := dv) fun h => q4 h.2.2)
          by_cases q5 : dv < 1
          · clear q4
            go_enter Try.func33, Try.ntmps33
            go_wp2_with fail
            refine (wvalid_go _ x m c W HA.out).mono ?_
            rintro e w2 ⟨rfl, hb2⟩
            rw [HOK.out]
            obtain ⟨z0, z1, z2, z3⟩ := BoxW.cells (persist HZ.out hb2)
            obtain ⟨u0, u1⟩ := BoxS.cell (persist HY.out hb2)
            have HB2 := Lib.hid (btr HB0.out hb2)
            have HS2 := Lib.hid (HS.out.mono hb2)
            go_wp2_with fail
            refine (min_go _ y m d l HS2.out (by omega)).mono ?_
            rintro e w3 ⟨mn, hmn, rfl, rfl⟩
            have q : ¬ mn < -1000000000000 := fun h => by have := HLB.out mn hmn.1; omega
            clear hmn
            go_wp2_with fail
            refine (max_go _ y m d l HS2.out (by omega)).mono ?_
            rintro e w3 ⟨mx, hmx, rfl, rfl⟩
            have q' : ¬ 1000000000000 < mx := fun h => by have := HLB.out mx hmx.1; omega
            clear hmx
            go_wp2
            go_ret2
            rw [HV.out]
            exact ⟨rfl, HB2.out⟩
          · have q6 : 1000000000 < dv := by omega
            clear q4
            go_enter Try.func33, Try.ntmps33
            go_wp2_with fail
            refine (wvalid_go _ x m c W HA.out).mono ?_
            rintro e w2 ⟨rfl, hb2⟩
            rw [HOK.out]
            obtain ⟨z0, z1, z2, z3⟩ := BoxW.cells (persist HZ.out hb2)
            obtain ⟨u0, u1⟩ := BoxS.cell (persist HY.out hb2)
            have HB2 := Lib.hid (btr HB0.out hb2)
            have HS2 := Lib.hid (HS.out.mono hb2)
            go_wp2_with fail
            refine (min_go _ y m d l HS2.out (by omega)).mono ?_
            rintro e w3 ⟨mn, hmn, rfl, rfl⟩
            have q : ¬ mn < -1000000000000 := fun h => by have := HLB.out mn hmn.1; omega
            clear hmn
            go_wp2_with fail
            refine (max_go _ y m d l HS2.out (by omega)).mono ?_
            rintro e w3 ⟨mx, hmx, rfl, rfl⟩
            have q' : ¬ 1000000000000 < mx := fun h => by have := HLB.out mx hmx.1; omega
            clear hmx
            go_wp2
            go_ret2
            rw [HV.out]
            exact ⟨rfl, HB2.out⟩
  · have HV := Lib.hid (chk_no (W := W) (l := l) (d := dv) fun h => q1 (by rw [← hml, h.1]; exact HAN.out))
    have t1 : ((m : Int) != (n : Int)) = true := by simp; omega
    have t2 : (m != n) = true := by simp; omega
    clear q1 hml
    go_enter Try.func33, Try.ntmps33
    go_wp2_with fail
    refine (wvalid_go _ x n c W HA.out).mono ?_
    rintro e w2 ⟨rfl, hb2⟩
    rw [HOK.out]
    obtain ⟨z0, z1, z2, z3⟩ := BoxW.cells (persist HZ.out hb2)
    obtain ⟨u0, u1⟩ := BoxS.cell (persist HY.out hb2)
    have HB2 := Lib.hid (btr HB0.out hb2)
    have HS2 := Lib.hid (HS.out.mono hb2)
    go_wp2
    go_ret2
    rw [HV.out]
    exact ⟨rfl, HB2.out⟩
end Go.Proofs.Ytcmakddnjmeklaa
