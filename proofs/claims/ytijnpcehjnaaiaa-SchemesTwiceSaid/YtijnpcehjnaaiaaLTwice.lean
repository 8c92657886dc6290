/- Walk: the statement SchemesTwice. -/
import Derived.Test.YtijnpcehjnaaiaaTwP
namespace Go.Proofs.Ytijnpcehjnaaiaa
open Go.RowKit

theorem switch_badn (w : World) (a : Option Addr) (n cap : Nat) (l : List Int) (s : Int) (hs : Sl w a n cap l) (hv : VldP l) (h : s < 0 ∨ (0 ≤ s ∧ ((2 ^ n : Nat) : Int) ≤ s)) :
    Calls Try.prog 38 #[.slice a n cap, .int .i64 s] w fun e w' => e = .returned (.tuple #[.slice none 0 0, .int .i64 2]) ∧ Below w.heap.size w w' := by
  rcases h with h0 | ⟨h0, h1⟩
  · exact switch_bad2 w a n cap l s hs hv h0
  · exact switch_bad3 w a n cap l s hs hv h0 h1

set_option maxRecDepth 100000 in
set_option maxHeartbeats 1000000 in
theorem ltwice_bad1 (w : World) (a : Option Addr) (n cap : Nat) (l : List Int) (a2 : Option Addr) (n2 cap2 : Nat) (l2 : List Int) (s : Int) (hs : Sl w a n cap l) (hs2 : Sl w a2 n2 cap2 l2) (hv : ¬ VldP l) :
    Calls Try.prog 10 #[.slice a n cap, .slice a2 n2 cap2, .int .i64 s] w fun e w' => e = .returned (.bool true) ∧ Below w.heap.size w w' := by
  have hd : decide (VldP l) = false := by simp [hv]
  have hv2 : ¬ VldP (l.take 20) := fun h => hv (vld_len.1 h)
  go_enter Try.func10, Try.ntmps10
  go_wp2_with fail
  refine (list_go _ _ _ _ _ hs).mono ?_
  rintro e w1 ⟨c1, m1, q1, rfl, ho1, hb1⟩
  go_wp2_with fail
  refine (switch_bad1 _ _ _ _ _ _ (own_sl ho1) hv2).mono ?_
  rintro e w2 ⟨rfl, hb2⟩
  have hB := btr hb1 hb2
  clear ho1 hb1 hb2
  go_wp2_with fail
  refine (list_go _ _ _ _ _ (hs.mono hB)).mono ?_
  rintro e w3 ⟨c3, m3, q3, rfl, ho3, hb3⟩
  go_wp2_with fail
  refine (list_go _ _ _ _ _ (hs2.mono (btr hB hb3))).mono ?_
  rintro e w4 ⟨c4, m4, q4, rfl, ho4, hb4⟩
  go_wp2_with fail
  refine (same_bad1 _ _ _ _ _ _ _ _ ((own_sl ho3).mono hb4) hv2).mono ?_
  rintro e w5 ⟨rfl, hb5⟩
  have hB5 := btr (btr (btr hB hb3) hb4) hb5
  clear ho3 ho4 hb3 hb4 hb5 hB
  go_wp2_with fail
  refine (awake_go _).mono ?_
  rintro e w6 ⟨rfl, hb6⟩
  go_wp2
  go_ret
  exact ⟨rfl, btr hB5 hb6⟩

set_option maxRecDepth 100000 in
set_option maxHeartbeats 2000000 in
theorem ltwice_bad2 (w : World) (a : Option Addr) (n cap : Nat) (G : List Nat) (a2 : Option Addr) (n2 cap2 : Nat) (l2 : List Int) (s : Int) (hs : Sl w a n cap (ints G)) (hs2 : Sl w a2 n2 cap2 l2) (hG : Gr G) (hv2 : ¬ VldP l2) (hA : (s < 0 ∨ (0 ≤ s ∧ ((2 ^ n : Nat) : Int) ≤ s)) ∨ ∃ k : Nat, s = k ∧ k < 2 ^ n) :
    Calls Try.prog 10 #[.slice a n cap, .slice a2 n2 cap2, .int .i64 s] w fun e w' => e = .returned (.bool true) ∧ Below w.heap.size w w' := by
  have hv := vld_ints hG
  have hd : decide (VldP (ints G)) = true := by simp [hv]
  have ht := Lib.hid (vld_take hv)
  have hl := Lib.hid hs.len
  have hn16 : n ≤ 16 := by have := hs.len; rw [ints_length] at this; have := hG.2.1; omega
  have HA := Lib.hid hA
  clear hA
  go_enter Try.func10, Try.ntmps10
  go_wp2_with fail
  refine (list_go _ _ _ _ _ hs).mono ?_
  rw [ht.out]
  rintro e w1 ⟨c1, m1, q1, rfl, ho1, hb1⟩
  have hm1 : n = m1 := by rw [← hl.out]; exact (own_sl ho1).len
  subst hm1
  go_wp2_with fail
  rcases HA.out with h0 | ⟨k, rfl, hk⟩
  · refine (switch_badn _ _ _ _ _ _ (own_sl ho1) hv h0).mono ?_
    rintro e w2 ⟨rfl, hb2⟩
    have hB := btr hb1 hb2
    clear ho1 hb1 hb2
    go_wp2_with fail
    refine (list_go _ _ _ _ _ (hs.mono hB)).mono ?_
    rw [ht.out]
    rintro e x3 ⟨c3, m3, q3, rfl, ho3, hb3⟩
    have hm3 : n = m3 := by rw [← hl.out]; exact (own_sl ho3).len
    subst hm3
    go_wp2_with fail
    refine (list_go _ _ _ _ _ (hs2.mono (btr hB hb3))).mono ?_
    rintro e x4 ⟨c4, m4, q4, rfl, ho4, hb4⟩
    go_wp2_with fail
    refine (same_bad2 _ _ _ _ _ _ _ _ _ ((own_sl ho3).mono hb4) (own_sl ho4) hv (fun h => hv2 (vld_len.1 h))).mono ?_
    rintro e x5 ⟨rfl, hb5⟩
    have hB5 := btr (btr (btr hB hb3) hb4) hb5
    clear ho3 ho4 hb3 hb4 hb5 hB
    go_wp2_with fail
    refine (awake_go _).mono ?_
    rintro e x6 ⟨rfl, hb6⟩
    go_wp2
    go_ret
    exact ⟨rfl, btr hB5 hb6⟩
  · refine (switch_go _ _ _ _ G k (own_sl ho1) hG hk).mono ?_
    rintro e w2 ⟨b2, m2, q2, rfl, ho2, hb2⟩
    have hB2 := btr hb1 hb2
    have hS2 := Lib.hid (own_sl ho2)
    have hm2 : n = m2 := by have e1 := (own_sl ho2).len; rw [ints_length, swL_length] at e1; have e2 := hl.out; rw [ints_length] at e2; omega
    subst hm2
    clear ho1 hb1 hb2 ho2
    go_wp2_with fail
    refine (clone_go _ _ _ _ _ hS2.out (by omega)).mono ?_
    rintro e w3 ⟨b3, m3, q3, rfl, ho3, hb3⟩
    have hB3 := btr hB2 hb3
    have hC3 := hb3
    have hm3 : n = m3 := by have e1 := (own_sl ho3).len; rw [ints_length, swL_length] at e1; have e2 := hl.out; rw [ints_length] at e2; omega
    subst hm3
    clear hb3 hB2
    go_wp2_with fail
    refine (switch_go _ _ _ _ (swL G k) k (own_sl ho3) (sw_gr hG k) hk).mono ?_
    rw [sw_twice hG]
    rintro e w4 ⟨b4, m4, q4, rfl, ho4, hb4⟩
    have hB4 := btr hB3 hb4
    have hC4 := btr hC3 hb4
    have hS4 := Lib.hid (own_sl ho4)
    clear ho3 hb4 hB3 hC3 ho4
    go_wp2_with fail
    refine (list_go _ _ _ _ _ (hs.mono hB4)).mono ?_
    rw [ht.out]
    rintro e w5 ⟨b5, m5, q5, rfl, ho5, hb5⟩
    have hB5 := btr hB4 hb5
    have hC5 := btr hC4 hb5
    have hD5 := hb5
    clear hb5 hB4 hC4
    go_wp2_with fail
    refine (odd_go _ _ _ _ G (own_sl ho5) hG).mono ?_
    rintro e w6 ⟨rfl, hb6⟩
    have hB6 := btr hB5 hb6
    have hC6 := btr hC5 hb6
    have hD6 := btr hD5 hb6
    clear ho5 hb6 hB5 hC5 hD5
    go_wp2_with fail
    refine (clone_go _ _ _ _ _ (hS2.out.mono hC6) (by omega)).mono ?_
    rintro e w7 ⟨b7, m7, q7, rfl, ho7, hb7⟩
    have hB7 := btr hB6 hb7
    have hD7 := btr hD6 hb7
    clear hb7 hB6 hC6 hD6
    go_wp2_with fail
    refine (odd_go _ _ _ _ (swL G k) (own_sl ho7) (sw_gr hG k)).mono ?_
    rw [sw_oddN hG]
    rintro e w8 ⟨rfl, hb8⟩
    have hB8 := btr hB7 hb8
    have hD8 := btr hD7 hb8
    clear ho7 hb8 hB7 hD7
    go_wp2_with fail
    refine (equal_same _ _ _ _ _ _ _ _ (hS4.out.mono hD8) (hs.mono hB8)).mono ?_
    rintro e w9 ⟨rfl, hb9⟩
    have hB := btr hB8 hb9
    clear hb9 hB8 hD8 hS4 hS2
    go_wp2_with fail
    refine (list_go _ _ _ _ _ (hs.mono hB)).mono ?_
    rw [ht.out]
    rintro e x3 ⟨c3, m3, q3, rfl, ho3, hb3⟩
    have hm3 : n = m3 := by rw [← hl.out]; exact (own_sl ho3).len
    subst hm3
    go_wp2_with fail
    refine (list_go _ _ _ _ _ (hs2.mono (btr hB hb3))).mono ?_
    rintro e x4 ⟨c4, m4, q4, rfl, ho4, hb4⟩
    go_wp2_with fail
    refine (same_bad2 _ _ _ _ _ _ _ _ _ ((own_sl ho3).mono hb4) (own_sl ho4) hv (fun h => hv2 (vld_len.1 h))).mono ?_
    rintro e x5 ⟨rfl, hb5⟩
    have hB5 := btr (btr (btr hB hb3) hb4) hb5
    clear ho3 ho4 hb3 hb4 hb5 hB
    go_wp2_with fail
    refine (awake_go _).mono ?_
    rintro e x6 ⟨rfl, hb6⟩
    go_wp2
    go_ret
    exact ⟨rfl, btr hB5 hb6⟩

set_option maxRecDepth 100000 in
set_option maxHeartbeats 2000000 in
theorem ltwice_bad3 (w : World) (a : Option Addr) (n cap : Nat) (G : List Nat) (a2 : Option Addr) (n2 cap2 : Nat) (l2 : List Int) (s : Int) (hs : Sl w a n cap (ints G)) (hs2 : Sl w a2 n2 cap2 l2) (hG : Gr G) (hv2 : VldP l2) (hne : n ≠ n2) (hA : (s < 0 ∨ (0 ≤ s ∧ ((2 ^ n : Nat) : Int) ≤ s)) ∨ ∃ k : Nat, s = k ∧ k < 2 ^ n) :
    Calls Try.prog 10 #[.slice a n cap, .slice a2 n2 cap2, .int .i64 s] w fun e w' => e = .returned (.bool true) ∧ Below w.heap.size w w' := by
  have hv := vld_ints hG
  have hd : decide (VldP (ints G)) = true := by simp [hv]
  have ht := Lib.hid (vld_take hv)
  have hl := Lib.hid hs.len
  have hn16 : n ≤ 16 := by have := hs.len; rw [ints_length] at this; have := hG.2.1; omega
  have HA := Lib.hid hA
  clear hA
  have hl2 := Lib.hid hs2.len
  go_enter Try.func10, Try.ntmps10
  go_wp2_with fail
  refine (list_go _ _ _ _ _ hs).mono ?_
  rw [ht.out]
  rintro e w1 ⟨c1, m1, q1, rfl, ho1, hb1⟩
  have hm1 : n = m1 := by rw [← hl.out]; exact (own_sl ho1).len
  subst hm1
  go_wp2_with fail
  rcases HA.out with h0 | ⟨k, rfl, hk⟩
  · refine (switch_badn _ _ _ _ _ _ (own_sl ho1) hv h0).mono ?_
    rintro e w2 ⟨rfl, hb2⟩
    have hB := btr hb1 hb2
    clear ho1 hb1 hb2
    go_wp2_with fail
    refine (list_go _ _ _ _ _ (hs.mono hB)).mono ?_
    rw [ht.out]
    rintro e x3 ⟨c3, m3, q3, rfl, ho3, hb3⟩
    have hm3 : n = m3 := by rw [← hl.out]; exact (own_sl ho3).len
    subst hm3
    go_wp2_with fail
    refine (list_go _ _ _ _ _ (hs2.mono (btr hB hb3))).mono ?_
    rintro e x4 ⟨c4, m4, q4, rfl, ho4, hb4⟩
    have hm4 : n2 = m4 := by have e1 := (own_sl ho4).len; rw [vld_take hv2] at e1; have e2 := hl2.out; omega
    subst hm4
    go_wp2_with fail
    refine (same_bad3 _ _ _ _ _ _ _ _ _ ((own_sl ho3).mono hb4) (own_sl ho4) hv (vld_len.2 hv2) (by omega)).mono ?_
    rintro e x5 ⟨rfl, hb5⟩
    have hB5 := btr (btr (btr hB hb3) hb4) hb5
    clear ho3 ho4 hb3 hb4 hb5 hB
    go_wp2_with fail
    refine (awake_go _).mono ?_
    rintro e x6 ⟨rfl, hb6⟩
    go_wp2
    go_ret
    exact ⟨rfl, btr hB5 hb6⟩
  · refine (switch_go _ _ _ _ G k (own_sl ho1) hG hk).mono ?_
    rintro e w2 ⟨b2, m2, q2, rfl, ho2, hb2⟩
    have hB2 := btr hb1 hb2
    have hS2 := Lib.hid (own_sl ho2)
    have hm2 : n = m2 := by have e1 := (own_sl ho2).len; rw [ints_length, swL_length] at e1; have e2 := hl.out; rw [ints_length] at e2; omega
    subst hm2
    clear ho1 hb1 hb2 ho2
    go_wp2_with fail
    refine (clone_go _ _ _ _ _ hS2.out (by omega)).mono ?_
    rintro e w3 ⟨b3, m3, q3, rfl, ho3, hb3⟩
    have hB3 := btr hB2 hb3
    have hC3 := hb3
    have hm3 : n = m3 := by have e1 := (own_sl ho3).len; rw [ints_length, swL_length] at e1; have e2 := hl.out; rw [ints_length] at e2; omega
    subst hm3
    clear hb3 hB2
    go_wp2_with fail
    refine (switch_go _ _ _ _ (swL G k) k (own_sl ho3) (sw_gr hG k) hk).mono ?_
    rw [sw_twice hG]
    rintro e w4 ⟨b4, m4, q4, rfl, ho4, hb4⟩
    have hB4 := btr hB3 hb4
    have hC4 := btr hC3 hb4
    have hS4 := Lib.hid (own_sl ho4)
    clear ho3 hb4 hB3 hC3 ho4
    go_wp2_with fail
    refine (list_go _ _ _ _ _ (hs.mono hB4)).mono ?_
    rw [ht.out]
    rintro e w5 ⟨b5, m5, q5, rfl, ho5, hb5⟩
    have hB5 := btr hB4 hb5
    have hC5 := btr hC4 hb5
    have hD5 := hb5
    clear hb5 hB4 hC4
    go_wp2_with fail
    refine (odd_go _ _ _ _ G (own_sl ho5) hG).mono ?_
    rintro e w6 ⟨rfl, hb6⟩
    have hB6 := btr hB5 hb6
    have hC6 := btr hC5 hb6
    have hD6 := btr hD5 hb6
    clear ho5 hb6 hB5 hC5 hD5
    go_wp2_with fail
    refine (clone_go _ _ _ _ _ (hS2.out.mono hC6) (by omega)).mono ?_
    rintro e w7 ⟨b7, m7, q7, rfl, ho7, hb7⟩
    have hB7 := btr hB6 hb7
    have hD7 := btr hD6 hb7
    clear hb7 hB6 hC6 hD6
    go_wp2_with fail
    refine (odd_go _ _ _ _ (swL G k) (own_sl ho7) (sw_gr hG k)).mono ?_
    rw [sw_oddN hG]
    rintro e w8 ⟨rfl, hb8⟩
    have hB8 := btr hB7 hb8
    have hD8 := btr hD7 hb8
    clear ho7 hb8 hB7 hD7
    go_wp2_with fail
    refine (equal_same _ _ _ _ _ _ _ _ (hS4.out.mono hD8) (hs.mono hB8)).mono ?_
    rintro e w9 ⟨rfl, hb9⟩
    have hB := btr hB8 hb9
    clear hb9 hB8 hD8 hS4 hS2
    go_wp2_with fail
    refine (list_go _ _ _ _ _ (hs.mono hB)).mono ?_
    rw [ht.out]
    rintro e x3 ⟨c3, m3, q3, rfl, ho3, hb3⟩
    have hm3 : n = m3 := by rw [← hl.out]; exact (own_sl ho3).len
    subst hm3
    go_wp2_with fail
    refine (list_go _ _ _ _ _ (hs2.mono (btr hB hb3))).mono ?_
    rintro e x4 ⟨c4, m4, q4, rfl, ho4, hb4⟩
    have hm4 : n2 = m4 := by have e1 := (own_sl ho4).len; rw [vld_take hv2] at e1; have e2 := hl2.out; omega
    subst hm4
    go_wp2_with fail
    refine (same_bad3 _ _ _ _ _ _ _ _ _ ((own_sl ho3).mono hb4) (own_sl ho4) hv (vld_len.2 hv2) (by omega)).mono ?_
    rintro e x5 ⟨rfl, hb5⟩
    have hB5 := btr (btr (btr hB hb3) hb4) hb5
    clear ho3 ho4 hb3 hb4 hb5 hB
    go_wp2_with fail
    refine (awake_go _).mono ?_
    rintro e x6 ⟨rfl, hb6⟩
    go_wp2
    go_ret
    exact ⟨rfl, btr hB5 hb6⟩

set_option maxRecDepth 100000 in
set_option maxHeartbeats 4000000 in
theorem ltwice_good (w : World) (a : Option Addr) (n cap : Nat) (G : List Nat) (a2 : Option Addr) (cap2 : Nat) (H : List Nat) (s : Int) (hs : Sl w a n cap (ints G)) (hs2 : Sl w a2 n cap2 (ints H)) (hG : Gr G) (hH : Gr H) (hA : (s < 0 ∨ (0 ≤ s ∧ ((2 ^ n : Nat) : Int) ≤ s)) ∨ ∃ k : Nat, s = k ∧ k < 2 ^ n) :
    Calls Try.prog 10 #[.slice a n cap, .slice a2 n cap2, .int .i64 s] w fun e w' => e = .returned (.bool true) ∧ Below w.heap.size w w' := by
  have hv := vld_ints hG
  have hd : decide (VldP (ints G)) = true := by simp [hv]
  have ht := Lib.hid (vld_take hv)
  have hl := Lib.hid hs.len
  have hn16 : n ≤ 16 := by have := hs.len; rw [ints_length] at this; have := hG.2.1; omega
  have HA := Lib.hid hA
  clear hA
  have hd2 : decide (VldP (ints H)) = true := by simp [vld_ints hH]
  have htH := Lib.hid (vld_take (vld_ints hH))
  have hl2 := Lib.hid hs2.len
  have hGn : G.length = n := by have := hs.len; rwa [ints_length] at this
  have hHn : H.length = n := by have := hs2.len; rwa [ints_length] at this
  have SI := Lib.hid (same_iff hG hH (by omega))
  have TOP := Lib.hid (try_top hG hH (by omega))
  have h1n : 1 ≤ n := by have := hG.1; omega
  rw [hGn] at SI TOP
  clear hGn hHn
  go_enter Try.func10, Try.ntmps10
  go_wp2_with fail
  refine (list_go _ _ _ _ _ hs).mono ?_
  rw [ht.out]
  rintro e w1 ⟨c1, m1, q1, rfl, ho1, hb1⟩
  have hm1 : n = m1 := by rw [← hl.out]; exact (own_sl ho1).len
  subst hm1
  go_wp2_with fail
  rcases HA.out with h0 | ⟨k, rfl, hk⟩
  · refine (switch_badn _ _ _ _ _ _ (own_sl ho1) hv h0).mono ?_
    rintro e w2 ⟨rfl, hb2⟩
    have hB := btr hb1 hb2
    clear ho1 hb1 hb2
    go_wp2_with fail
    refine (list_go _ _ _ _ _ (hs.mono hB)).mono ?_
    rw [ht.out]
    rintro e x3 ⟨c3, m3, q3, rfl, ho3, hb3⟩
    have hm3 : n = m3 := by rw [← hl.out]; exact (own_sl ho3).len
    subst hm3
    go_wp2_with fail
    refine (list_go _ _ _ _ _ (hs2.mono (btr hB hb3))).mono ?_
    rw [htH.out]
    rintro e x4 ⟨c4, m4, q4, rfl, ho4, hb4⟩
    have hm4 : n = m4 := by rw [← hl2.out]; exact (own_sl ho4).len
    subst hm4
    go_wp2_with fail
    refine (same_go _ _ _ _ _ _ _ _ ((own_sl ho3).mono hb4) (own_sl ho4) hG hH).mono ?_
    rintro e x5 ⟨rfl, hb5⟩
    have hB5 := btr (btr (btr hB hb3) hb4) hb5
    clear ho3 ho4 hb3 hb4 hb5 hB
    have t0 : (sameE G H == 2) = false := by unfold sameE; split <;> rfl
    go_wp2_with fail
    refine (graph_go _ _ _ _ _ (hs.mono hB5)).mono ?_
    rintro e x6 ⟨rfl, hw⟩
    have hB6 := btr hB5 (drewB hw)
    clear hw hB5
    go_wp2_with fail
    refine (graph_go _ _ _ _ _ (hs2.mono hB6)).mono ?_
    rintro e x7 ⟨rfl, hw⟩
    have hB7 := btr hB6 (drewB hw)
    clear hw hB6
    go_wp2
    go_loopw [107, 16] (fun t o wr => ∃ i : Nat, i ≤ n ∧ t = .int .i64 i ∧ o = .bool (al3 G H i) ∧ Below w.heap.size w wr) (fun t _ _ => n - (intOf t).toNat)
    case atStart => exact ⟨0, by omega, rfl, rfl, hB7⟩
    case round =>
      clear hB7
      obtain ⟨i, hi, rfl, rfl, hbw⟩ := hrel
      by_cases hli : i < n
      · go_wp2
        obtain ⟨y2, rfl⟩ : ∃ y2 : World, y2 = wr := ⟨_, rfl⟩
        go_loopw [111, 16] (fun t o wr => ∃ j : Nat, j ≤ i ∧ t = .int .i64 j ∧ o = .bool (al3 G H i && al2 G H i j) ∧ Below w.heap.size w wr) (fun t _ _ => i - (intOf t).toNat)
        case atStart => exact ⟨0, by omega, rfl, by simp [al2], hbw⟩
        case round =>
          clear hbw
          obtain ⟨j, hj, rfl, rfl, hbw⟩ := hrel
          by_cases hlj : j < i
          · go_wp2
            obtain ⟨y3, rfl⟩ : ∃ y3 : World, y3 = wr := ⟨_, rfl⟩
            go_loopw [115, 16] (fun t o wr => ∃ k : Nat, k ≤ j ∧ t = .int .i64 k ∧ o = .bool (al3 G H i && al2 G H i j && al1 G H i j k) ∧ Below w.heap.size w wr) (fun t _ _ => j - (intOf t).toNat)
            case atStart => exact ⟨0, by omega, rfl, by simp [al1], hbw⟩
            case round =>
              clear hbw
              obtain ⟨k, hk, rfl, rfl, hbw⟩ := hrel
              by_cases hlk : k < j
              · have HS := Lib.hid (al1_step G H i j k)
                generalize hV : (al3 G H i && al2 G H i j && al1 G H i j k) = V at *
                have HV := Lib.hid hV
                clear hV
                have HF := Lib.hid (show (al3 G H i && al2 G H i j && al1 G H i j (k + 1)) = (V && (oddT G i j k == oddT H i j k)) by rw [HS.out, ← HV.out, Bool.and_assoc, Bool.and_assoc, Bool.and_assoc])
                cases V with
                | false =>
                  go_wp2
                  go_roundw
                  case rel => exact ⟨k + 1, by omega, by go_num, by rw [HF.out]; rfl, hbw⟩
                  case measure => simp [intOf]; omega
                | true =>
                  go_wp2_with fail
                  refine (lodd_go _ _ _ _ G (hs.mono hbw) hG.small i j k (by omega) (by omega) (by omega) (by omega)).mono ?_
                  rintro e y4 ⟨rfl, hw⟩
                  have hb4 := btr hbw (drewB hw)
                  clear hbw hw
                  go_wp2_with fail
                  refine (lodd_go _ _ _ _ H (hs2.mono hb4) hH.small i j k (by omega) (by omega) (by omega) (by omega)).mono ?_
                  rintro e y5 ⟨rfl, hw⟩
                  have hb5 := btr hb4 (drewB hw)
                  clear hb4 hw
                  cases e1 : oddT G i j k <;> cases e2 : oddT H i j k
                  all_goals
                    go_wp2
                    go_roundw
                    case rel => exact ⟨k + 1, by omega, by go_num, by rw [HF.out, e1, e2]; rfl, hb5⟩
                    case measure => simp [intOf]; omega
              · obtain rfl : k = j := by omega
                go_wp2
                go_roundw
                case rel => exact ⟨k + 1, by omega, by go_num, by rw [al2_step, Bool.and_assoc], hbw⟩
                case measure => simp [intOf]; omega
          · obtain rfl : j = i := by omega
            go_wp2
            go_roundw
            case rel => exact ⟨j + 1, by omega, by go_num, by rw [al3_step], hbw⟩
            case measure => simp [intOf]; omega
      · obtain rfl : i = n := by omega
        cases hsm : al3 G H i with
        | false =>
          have hne : swL G (trySet G H) ≠ H := fun e => by have := SI.out.2 e; rw [hsm] at this; cases this
          have t1 : (sameE G H == 0) = false := by rw [sameE, if_neg hne]; rfl
          have t2 : (sameE G H != 0) = true := by rw [sameE, if_neg hne]; rfl
          have t3 : (sameE G H == 4) = true := by rw [sameE, if_neg hne]; rfl
          go_wp2_with fail
          refine (awake_go _).mono ?_
          rintro e y6 ⟨rfl, hb6⟩
          go_wp2
          go_ret
          exact ⟨rfl, btr hbw hb6⟩
        | true =>
          have heq : swL G (trySet G H) = H := SI.out.1 hsm
          have t1 : (sameE G H == 0) = true := by rw [sameE, if_pos heq]; rfl
          have t2 : (sameE G H != 0) = false := by rw [sameE, if_pos heq]; rfl
          have t4 : sameV G H = (trySet G H : Int) := by rw [sameV, if_pos heq]
          have HEQ := Lib.hid heq
          clear heq
          go_wp2_with fail
          refine (list_go _ _ _ _ _ (hs.mono hbw)).mono ?_
          rw [ht.out]
          rintro e y6 ⟨c6, m6, q6, rfl, ho6, hb6⟩
          have hm6 : i = m6 := by rw [← hl.out]; exact (own_sl ho6).len
          subst hm6
          have hB6 := btr hbw hb6
          clear hbw hb6
          have TT := Lib.hid (TOP.out)
          generalize hTS : trySet G H = ts at *
          have ta := Lib.hid (and_top (x := ts) (m := i - 1) TT.out)
          have tl : ts < 2 ^ i := Nat.lt_of_lt_of_le TT.out (Nat.pow_le_pow_right (by omega) (by omega))
          go_wp2_with fail
          refine (switch_go _ _ _ _ G ts (own_sl ho6) hG tl).mono ?_
          rw [HEQ.out]
          rintro e y7 ⟨c7, m7, q7, rfl, ho7, hb7⟩
          have hB7 := btr hB6 hb7
          have hS7 := Lib.hid (own_sl ho7)
          clear ho6 ho7 hb7 hB6
          have wm : IntKind.i64.wrap ((i : Int) - 1) = (i : Int) - 1 := by rw [IntWalk.i64_left]; exact IntWalk.wrap64_in _ (by omega)
          have tn : ((i : Int) - 1).toNat = i - 1 := by omega
          have pw := wrap_pow (show i - 1 ≤ 16 by omega)
          have pl := pow16 (show i - 1 < 16 by omega)
          have tl2 : ts < 65536 := Nat.lt_of_lt_of_le TT.out (Nat.le_of_lt pl)
          have an := i64_and_nat ts (2 ^ (i - 1)) (by omega) (by omega)
          rw [ta.out, pow_cast] at an
          go_wp2_with fail
          refine (equal_same _ _ _ _ _ _ _ _ hS7.out (hs2.mono hB7)).mono ?_
          rintro e y8 ⟨rfl, hb8⟩
          have hB8 := btr hB7 hb8
          clear hb8 hB7
          go_wp2_with fail
          refine (awake_go _).mono ?_
          rintro e y9 ⟨rfl, hb9⟩
          go_wp2
          go_ret
          exact ⟨rfl, btr hB8 hb9⟩
  · refine (switch_go _ _ _ _ G k (own_sl ho1) hG hk).mono ?_
    rintro e w2 ⟨b2, m2, q2, rfl, ho2, hb2⟩
    have hB2 := btr hb1 hb2
    have hS2 := Lib.hid (own_sl ho2)
    have hm2 : n = m2 := by have e1 := (own_sl ho2).len; rw [ints_length, swL_length] at e1; have e2 := hl.out; rw [ints_length] at e2; omega
    subst hm2
    clear ho1 hb1 hb2 ho2
    go_wp2_with fail
    refine (clone_go _ _ _ _ _ hS2.out (by omega)).mono ?_
    rintro e w3 ⟨b3, m3, q3, rfl, ho3, hb3⟩
    have hB3 := btr hB2 hb3
    have hC3 := hb3
    have hm3 : n = m3 := by have e1 := (own_sl ho3).len; rw [ints_length, swL_length] at e1; have e2 := hl.out; rw [ints_length] at e2; omega
    subst hm3
    clear hb3 hB2
    go_wp2_with fail
    refine (switch_go _ _ _ _ (swL G k) k (own_sl ho3) (sw_gr hG k) hk).mono ?_
    rw [sw_twice hG]
    rintro e w4 ⟨b4, m4, q4, rfl, ho4, hb4⟩
    have hB4 := btr hB3 hb4
    have hC4 := btr hC3 hb4
    have hS4 := Lib.hid (own_sl ho4)
    clear ho3 hb4 hB3 hC3 ho4
    go_wp2_with fail
    refine (list_go _ _ _ _ _ (hs.mono hB4)).mono ?_
    rw [ht.out]
    rintro e w5 ⟨b5, m5, q5, rfl, ho5, hb5⟩
    have hB5 := btr hB4 hb5
    have hC5 := btr hC4 hb5
    have hD5 := hb5
    clear hb5 hB4 hC4
    go_wp2_with fail
    refine (odd_go _ _ _ _ G (own_sl ho5) hG).mono ?_
    rintro e w6 ⟨rfl, hb6⟩
    have hB6 := btr hB5 hb6
    have hC6 := btr hC5 hb6
    have hD6 := btr hD5 hb6
    clear ho5 hb6 hB5 hC5 hD5
    go_wp2_with fail
    refine (clone_go _ _ _ _ _ (hS2.out.mono hC6) (by omega)).mono ?_
    rintro e w7 ⟨b7, m7, q7, rfl, ho7, hb7⟩
    have hB7 := btr hB6 hb7
    have hD7 := btr hD6 hb7
    clear hb7 hB6 hC6 hD6
    go_wp2_with fail
    refine (odd_go _ _ _ _ (swL G k) (own_sl ho7) (sw_gr hG k)).mono ?_
    rw [sw_oddN hG]
    rintro e w8 ⟨rfl, hb8⟩
    have hB8 := btr hB7 hb8
    have hD8 := btr hD7 hb8
    clear ho7 hb8 hB7 hD7
    go_wp2_with fail
    refine (equal_same _ _ _ _ _ _ _ _ (hS4.out.mono hD8) (hs.mono hB8)).mono ?_
    rintro e w9 ⟨rfl, hb9⟩
    have hB := btr hB8 hb9
    clear hb9 hB8 hD8 hS4 hS2
    go_wp2_with fail
    refine (list_go _ _ _ _ _ (hs.mono hB)).mono ?_
    rw [ht.out]
    rintro e x3 ⟨c3, m3, q3, rfl, ho3, hb3⟩
    have hm3 : n = m3 := by rw [← hl.out]; exact (own_sl ho3).len
    subst hm3
    go_wp2_with fail
    refine (list_go _ _ _ _ _ (hs2.mono (btr hB hb3))).mono ?_
    rw [htH.out]
    rintro e x4 ⟨c4, m4, q4, rfl, ho4, hb4⟩
    have hm4 : n = m4 := by rw [← hl2.out]; exact (own_sl ho4).len
    subst hm4
    go_wp2_with fail
    refine (same_go _ _ _ _ _ _ _ _ ((own_sl ho3).mono hb4) (own_sl ho4) hG hH).mono ?_
    rintro e x5 ⟨rfl, hb5⟩
    have hB5 := btr (btr (btr hB hb3) hb4) hb5
    clear ho3 ho4 hb3 hb4 hb5 hB
    have t0 : (sameE G H == 2) = false := by unfold sameE; split <;> rfl
    go_wp2_with fail
    refine (graph_go _ _ _ _ _ (hs.mono hB5)).mono ?_
    rintro e x6 ⟨rfl, hw⟩
    have hB6 := btr hB5 (drewB hw)
    clear hw hB5
    go_wp2_with fail
    refine (graph_go _ _ _ _ _ (hs2.mono hB6)).mono ?_
    rintro e x7 ⟨rfl, hw⟩
    have hB7 := btr hB6 (drewB hw)
    clear hw hB6
    go_wp2
    go_loopw [107, 16] (fun t o wr => ∃ i : Nat, i ≤ n ∧ t = .int .i64 i ∧ o = .bool (al3 G H i) ∧ Below w.heap.size w wr) (fun t _ _ => n - (intOf t).toNat)
    case atStart => exact ⟨0, by omega, rfl, rfl, hB7⟩
    case round =>
      clear hB7
      obtain ⟨i, hi, rfl, rfl, hbw⟩ := hrel
      by_cases hli : i < n
      · go_wp2
        obtain ⟨y2, rfl⟩ : ∃ y2 : World, y2 = wr := ⟨_, rfl⟩
        go_loopw [111, 16] (fun t o wr => ∃ j : Nat, j ≤ i ∧ t = .int .i64 j ∧ o = .bool (al3 G H i && al2 G H i j) ∧ Below w.heap.size w wr) (fun t _ _ => i - (intOf t).toNat)
        case atStart => exact ⟨0, by omega, rfl, by simp [al2], hbw⟩
        case round =>
          clear hbw
          obtain ⟨j, hj, rfl, rfl, hbw⟩ := hrel
          by_cases hlj : j < i
          · go_wp2
            obtain ⟨y3, rfl⟩ : ∃ y3 : World, y3 = wr := ⟨_, rfl⟩
            go_loopw [115, 16] (fun t o wr => ∃ k : Nat, k ≤ j ∧ t = .int .i64 k ∧ o = .bool (al3 G H i && al2 G H i j && al1 G H i j k) ∧ Below w.heap.size w wr) (fun t _ _ => j - (intOf t).toNat)
            case atStart => exact ⟨0, by omega, rfl, by simp [al1], hbw⟩
            case round =>
              clear hbw
              obtain ⟨k, hk, rfl, rfl, hbw⟩ := hrel
              by_cases hlk : k < j
              · have HS := Lib.hid (al1_step G H i j k)
                generalize hV : (al3 G H i && al2 G H i j && al1 G H i j k) = V at *
                have HV := Lib.hid hV
                clear hV
                have HF := Lib.hid (show (al3 G H i && al2 G H i j && al1 G H i j (k + 1)) = (V && (oddT G i j k == oddT H i j k)) by rw [HS.out, ← HV.out, Bool.and_assoc, Bool.and_assoc, Bool.and_assoc])
                cases V with
                | false =>
                  go_wp2
                  go_roundw
                  case rel => exact ⟨k + 1, by omega, by go_num, by rw [HF.out]; rfl, hbw⟩
                  case measure => simp [intOf]; omega
                | true =>
                  go_wp2_with fail
                  refine (lodd_go _ _ _ _ G (hs.mono hbw) hG.small i j k (by omega) (by omega) (by omega) (by omega)).mono ?_
                  rintro e y4 ⟨rfl, hw⟩
                  have hb4 := btr hbw (drewB hw)
                  clear hbw hw
                  go_wp2_with fail
                  refine (lodd_go _ _ _ _ H (hs2.mono hb4) hH.small i j k (by omega) (by omega) (by omega) (by omega)).mono ?_
                  rintro e y5 ⟨rfl, hw⟩
                  have hb5 := btr hb4 (drewB hw)
                  clear hb4 hw
                  cases e1 : oddT G i j k <;> cases e2 : oddT H i j k
                  all_goals
                    go_wp2
                    go_roundw
                    case rel => exact ⟨k + 1, by omega, by go_num, by rw [HF.out, e1, e2]; rfl, hb5⟩
                    case measure => simp [intOf]; omega
              · obtain rfl : k = j := by omega
                go_wp2
                go_roundw
                case rel => exact ⟨k + 1, by omega, by go_num, by rw [al2_step, Bool.and_assoc], hbw⟩
                case measure => simp [intOf]; omega
          · obtain rfl : j = i := by omega
            go_wp2
            go_roundw
            case rel => exact ⟨j + 1, by omega, by go_num, by rw [al3_step], hbw⟩
            case measure => simp [intOf]; omega
      · obtain rfl : i = n := by omega
        cases hsm : al3 G H i with
        | false =>
          have hne : swL G (trySet G H) ≠ H := fun e => by have := SI.out.2 e; rw [hsm] at this; cases this
          have t1 : (sameE G H == 0) = false := by rw [sameE, if_neg hne]; rfl
          have t2 : (sameE G H != 0) = true := by rw [sameE, if_neg hne]; rfl
          have t3 : (sameE G H == 4) = true := by rw [sameE, if_neg hne]; rfl
          go_wp2_with fail
          refine (awake_go _).mono ?_
          rintro e y6 ⟨rfl, hb6⟩
          go_wp2
          go_ret
          exact ⟨rfl, btr hbw hb6⟩
        | true =>
          have heq : swL G (trySet G H) = H := SI.out.1 hsm
          have t1 : (sameE G H == 0) = true := by rw [sameE, if_pos heq]; rfl
          have t2 : (sameE G H != 0) = false := by rw [sameE, if_pos heq]; rfl
          have t4 : sameV G H = (trySet G H : Int) := by rw [sameV, if_pos heq]
          have HEQ := Lib.hid heq
          clear heq
          go_wp2_with fail
          refine (list_go _ _ _ _ _ (hs.mono hbw)).mono ?_
          rw [ht.out]
          rintro e y6 ⟨c6, m6, q6, rfl, ho6, hb6⟩
          have hm6 : i = m6 := by rw [← hl.out]; exact (own_sl ho6).len
          subst hm6
          have hB6 := btr hbw hb6
          clear hbw hb6
          have TT := Lib.hid (TOP.out)
          generalize hTS : trySet G H = ts at *
          have ta := Lib.hid (and_top (x := ts) (m := i - 1) TT.out)
          have tl : ts < 2 ^ i := Nat.lt_of_lt_of_le TT.out (Nat.pow_le_pow_right (by omega) (by omega))
          go_wp2_with fail
          refine (switch_go _ _ _ _ G ts (own_sl ho6) hG tl).mono ?_
          rw [HEQ.out]
          rintro e y7 ⟨c7, m7, q7, rfl, ho7, hb7⟩
          have hB7 := btr hB6 hb7
          have hS7 := Lib.hid (own_sl ho7)
          clear ho6 ho7 hb7 hB6
          have wm : IntKind.i64.wrap ((i : Int) - 1) = (i : Int) - 1 := by rw [IntWalk.i64_left]; exact IntWalk.wrap64_in _ (by omega)
          have tn : ((i : Int) - 1).toNat = i - 1 := by omega
          have pw := wrap_pow (show i - 1 ≤ 16 by omega)
          have pl := pow16 (show i - 1 < 16 by omega)
          have tl2 : ts < 65536 := Nat.lt_of_lt_of_le TT.out (Nat.le_of_lt pl)
          have an := i64_and_nat ts (2 ^ (i - 1)) (by omega) (by omega)
          rw [ta.out, pow_cast] at an
          go_wp2_with fail
          refine (equal_same _ _ _ _ _ _ _ _ hS7.out (hs2.mono hB7)).mono ?_
          rintro e y8 ⟨rfl, hb8⟩
          have hB8 := btr hB7 hb8
          clear hb8 hB7
          go_wp2_with fail
          refine (awake_go _).mono ?_
          rintro e y9 ⟨rfl, hb9⟩
          go_wp2
          go_ret
          exact ⟨rfl, btr hB8 hb9⟩

theorem ltwice_walk (w : World) (a : Option Addr) (n cap : Nat) (l : List Int) (a2 : Option Addr) (n2 cap2 : Nat) (l2 : List Int) (s : Int) (hs : Sl w a n cap l) (hs2 : Sl w a2 n2 cap2 l2) :
    Calls Try.prog 10 #[.slice a n cap, .slice a2 n2 cap2, .int .i64 s] w fun e w' => e = .returned (.bool true) ∧ Below w.heap.size w w' := by
  by_cases hv : VldP l
  · obtain ⟨G, rfl, hG⟩ := vld_gr hv
    have hA : (s < 0 ∨ (0 ≤ s ∧ ((2 ^ n : Nat) : Int) ≤ s)) ∨ ∃ k : Nat, s = k ∧ k < 2 ^ n := by
      by_cases h0 : s < 0
      · exact .inl (.inl h0)
      · obtain ⟨k, rfl⟩ := Int.eq_ofNat_of_zero_le (show 0 ≤ s by omega)
        by_cases h1 : k < 2 ^ n
        · exact .inr ⟨k, rfl, h1⟩
        · exact .inl (.inr ⟨by omega, by exact_mod_cast Nat.le_of_not_lt h1⟩)
    by_cases hv2 : VldP l2
    · by_cases hn : n = n2
      · subst hn
        obtain ⟨H, rfl, hH⟩ := vld_gr hv2
        exact ltwice_good w a n cap G a2 cap2 H s hs hs2 hG hH hA
      · exact ltwice_bad3 w a n cap G a2 n2 cap2 l2 s hs hs2 hG hv2 hn hA
    · exact ltwice_bad2 w a n cap G a2 n2 cap2 l2 s hs hs2 hG hv2 hA
  · exact ltwice_bad1 w a n cap l a2 n2 cap2 l2 s hs hs2 hv
end Go.Proofs.Ytijnpcehjnaaiaa
