/- Walks: Switch of the program; the statement SchemesSwitches. -/
import Derived.Test.YtijnpcehjnaaiaaLawLow
namespace Go.Proofs.Ytijnpcehjnaaiaa
open Go.RowKit

theorem switch_bad1 (w : World) (a : Option Addr) (n cap : Nat) (l : List Int) (s : Int) (hs : Sl w a n cap l) (hv : ¬ VldP l) :
    Calls Try.prog 38 #[.slice a n cap, .int .i64 s] w fun e w' => e = .returned (.tuple #[.slice none 0 0, .int .i64 2]) ∧ Below w.heap.size w w' := by
  have hd : decide (VldP l) = false := by simp [hv]
  go_enter Try.func38, Try.ntmps38
  go_wp2_with fail
  refine (valid_go _ _ _ _ _ hs).mono ?_
  rintro e w1 ⟨rfl, hw⟩
  have hb := drewB hw
  clear hw
  go_wp2
  go_ret2
  exact ⟨rfl, hb⟩

theorem switch_bad2 (w : World) (a : Option Addr) (n cap : Nat) (l : List Int) (s : Int) (hs : Sl w a n cap l) (hv : VldP l) (hb : s < 0) :
    Calls Try.prog 38 #[.slice a n cap, .int .i64 s] w fun e w' => e = .returned (.tuple #[.slice none 0 0, .int .i64 2]) ∧ Below w.heap.size w w' := by
  have hd : decide (VldP l) = true := by simp [hv]
  go_enter Try.func38, Try.ntmps38
  go_wp2_with fail
  refine (valid_go _ _ _ _ _ hs).mono ?_
  rintro e w1 ⟨rfl, hw⟩
  have hb := drewB hw
  clear hw
  go_wp2
  go_ret2
  exact ⟨rfl, hb⟩

theorem switch_bad3 (w : World) (a : Option Addr) (n cap : Nat) (l : List Int) (s : Int) (hs : Sl w a n cap l) (hv : VldP l) (h0 : 0 ≤ s) (hb : ((2 ^ n : Nat) : Int) ≤ s) :
    Calls Try.prog 38 #[.slice a n cap, .int .i64 s] w fun e w' => e = .returned (.tuple #[.slice none 0 0, .int .i64 2]) ∧ Below w.heap.size w w' := by
  have hd : decide (VldP l) = true := by simp [hv]
  have hn16 : n ≤ 16 := by have := hs.len; have := hv.2.1; omega
  have i0 : ¬ s < 0 := by omega
  have i1 : (full n : Int) < s := by unfold full; have := Nat.one_le_two_pow (n := n); omega
  clear hb
  go_enter Try.func38, Try.ntmps38
  go_wp2_with fail
  refine (valid_go _ _ _ _ _ hs).mono ?_
  rintro e w1 ⟨rfl, hw⟩
  have hb := drewB hw
  clear hw
  go_wp2_with fail
  refine (all_go _ _ _ _ hn16).mono ?_
  rintro e w2 ⟨rfl, rfl⟩
  rw [show 2 ^ n - 1 = full n from rfl]
  go_wp2
  go_ret2
  exact ⟨rfl, hb⟩

theorem switch_go (w : World) (a : Option Addr) (n cap : Nat) (G : List Nat) (s : Nat) (hs : Sl w a n cap (ints G)) (hG : Gr G) (hlt : s < 2 ^ n) :
    Calls Try.prog 38 #[.slice a n cap, .int .i64 s] w (GivesSlE w (ints (swL G s)) 0) := by
  have hd : decide (VldP (ints G)) = true := by simp [vld_ints hG]
  have hn16 : n ≤ 16 := by have := hs.len; rw [ints_length] at this; have := hG.2.1; omega
  have i0 : ¬ (s : Int) < 0 := by omega
  have i1 : ¬ (full n : Int) < s := by unfold full; omega
  have hs16 : s < 65536 := by have : 2 ^ n ≤ 2 ^ 16 := Nat.pow_le_pow_right (by omega) hn16; omega
  clear hlt
  go_enter Try.func38, Try.ntmps38
  go_wp2_with fail
  refine (valid_go _ _ _ _ _ hs).mono ?_
  rintro e w1 ⟨rfl, hw⟩
  have hb := drewB hw
  clear hw
  go_wp2_with fail
  refine (all_go _ _ _ _ hn16).mono ?_
  rintro e w2 ⟨rfl, rfl⟩
  rw [show 2 ^ n - 1 = full n from rfl]
  go_wp2_with fail
  refine (switched_go _ _ _ _ G s (hs.mono hb) hG.small hs16 hn16).mono ?_
  rintro e w3 ⟨a3, n3, p3, rfl, ho3, hb3⟩
  go_wp2
  go_ret2
  exact ⟨a3, n3, p3, rfl, own_base ho3 hb.size, btr hb hb3⟩

set_option maxHeartbeats 1000000 in
theorem lswitch_bad1 (w : World) (a : Option Addr) (n cap : Nat) (l : List Int) (s : Int) (hs : Sl w a n cap l) (hv : ¬ VldP l) :
    Calls Try.prog 9 #[.slice a n cap, .int .i64 s] w fun e w' => e = .returned (.bool true) ∧ Below w.heap.size w w' := by
  have hd : decide (VldP l) = false := by simp [hv]
  have hv2 : ¬ VldP (l.take 20) := fun h => hv (vld_len.1 h)
  go_enter Try.func9, Try.ntmps9
  go_wp2_with fail
  refine (list_go _ _ _ _ _ hs).mono ?_
  rintro e w1 ⟨a1, n1, p1, rfl, ho1, hb1⟩
  go_wp2_with fail
  refine (switch_bad1 _ _ _ _ _ _ (own_sl ho1) hv2).mono ?_
  rintro e w2 ⟨rfl, hb2⟩
  have hB2 := btr hb1 hb2
  clear ho1 hb1 hb2
  go_wp2_with fail
  refine (list_go _ _ _ _ _ (hs.mono hB2)).mono ?_
  rintro e w3 ⟨a3, n3, p3, rfl, ho3, hb3⟩
  go_wp2_with fail
  refine (odd_bad _ _ _ _ _ (own_sl ho3) hv2).mono ?_
  rintro e w4 ⟨rfl, hb4⟩
  have hB4 := btr (btr hB2 hb3) hb4
  clear ho3 hb3 hb4 hB2
  go_wp2_with fail
  refine (graph_go _ _ _ _ _ (hs.mono hB4)).mono ?_
  rintro e w5 ⟨rfl, hw⟩
  have hB5 := btr hB4 (drewB hw)
  clear hw hB4
  go_wp2_with fail
  refine (awake_go _).mono ?_
  rintro e w6 ⟨rfl, hb6⟩
  go_wp2
  go_ret
  exact ⟨rfl, btr hB5 hb6⟩

set_option maxHeartbeats 1000000 in
theorem lswitch_bad2 (w : World) (a : Option Addr) (n cap : Nat) (G : List Nat) (s : Int) (h0 : s < 0) (hs : Sl w a n cap (ints G)) (hG : Gr G) :
    Calls Try.prog 9 #[.slice a n cap, .int .i64 s] w fun e w' => e = .returned (.bool true) ∧ Below w.heap.size w w' := by
  have hv := vld_ints hG
  have hd : decide (VldP (ints G)) = true := by simp [hv]
  have ht := Lib.hid (vld_take hv)
  have hl := Lib.hid hs.len
  have hn16 : n ≤ 16 := by have := hs.len; rw [ints_length] at this; have := hG.2.1; omega
  have hwn := wrap_pow hn16

  go_enter Try.func9, Try.ntmps9
  go_wp2_with fail
  refine (list_go _ _ _ _ _ hs).mono ?_
  rw [ht.out]
  rintro e w1 ⟨a1, n1, p1, rfl, ho1, hb1⟩
  have hn1 : n1 = n := by rw [← hl.out]; exact (own_sl ho1).len.symm
  subst hn1
  go_wp2_with fail
  refine (switch_bad2 _ _ _ _ _ _ (own_sl ho1) hv h0).mono ?_
  rintro e w2 ⟨rfl, hb2⟩
  have hB2 := btr hb1 hb2
  clear ho1 hb1 hb2
  go_wp2_with fail
  refine (list_go _ _ _ _ _ (hs.mono hB2)).mono ?_
  rw [ht.out]
  rintro e w3 ⟨a3, n3, p3, rfl, ho3, hb3⟩
  go_wp2_with fail
  refine (odd_go _ _ _ _ _ (own_sl ho3) hG).mono ?_
  rintro e w4 ⟨rfl, hb4⟩
  have hb24 := btr hb3 hb4
  have hB4 := btr hB2 hb24
  clear ho3 hb3 hb4 hB2
  go_wp2_with fail
  refine (graph_go _ _ _ _ _ (hs.mono hB4)).mono ?_
  rintro e w5 ⟨rfl, hw⟩
  have hb25 := btr hb24 (drewB hw)
  have hB5 := btr hB4 (drewB hw)
  clear hw hB4 hb24
  go_wp2_with fail
  refine (rodd_go _ _ _ _ _ (hs.mono hB5) hG).mono ?_
  rintro e w6 ⟨rfl, hb6⟩
  have hb26 := btr hb25 hb6
  have hB6 := btr hB5 hb6
  clear hB5 hb6 hb25
  go_wp2_with fail
  refine (awake_go _).mono ?_
  rintro e w7 ⟨rfl, hb7⟩
  have hb27 := btr hb26 hb7
  have hB7 := btr hB6 hb7
  clear hB6 hb7 hb26
  go_wp2
  go_ret
  exact ⟨rfl, hB7⟩

set_option maxHeartbeats 1000000 in
theorem lswitch_bad3 (w : World) (a : Option Addr) (n cap : Nat) (G : List Nat) (s : Int) (h0 : 0 ≤ s) (h1 : ((2 ^ n : Nat) : Int) ≤ s) (hs : Sl w a n cap (ints G)) (hG : Gr G) :
    Calls Try.prog 9 #[.slice a n cap, .int .i64 s] w fun e w' => e = .returned (.bool true) ∧ Below w.heap.size w w' := by
  have hv := vld_ints hG
  have hd : decide (VldP (ints G)) = true := by simp [hv]
  have ht := Lib.hid (vld_take hv)
  have hl := Lib.hid hs.len
  have hn16 : n ≤ 16 := by have := hs.len; rw [ints_length] at this; have := hG.2.1; omega
  have hwn := wrap_pow hn16
  have i0 : ¬ s < 0 := by omega
  have i1 : (2 : Int) ^ n ≤ s := by rw [← pow_cast]; exact h1
  have H1 := Lib.hid h1
  clear h1
  go_enter Try.func9, Try.ntmps9
  go_wp2_with fail
  refine (list_go _ _ _ _ _ hs).mono ?_
  rw [ht.out]
  rintro e w1 ⟨a1, n1, p1, rfl, ho1, hb1⟩
  have hn1 : n1 = n := by rw [← hl.out]; exact (own_sl ho1).len.symm
  subst hn1
  go_wp2_with fail
  refine (switch_bad3 _ _ _ _ _ _ (own_sl ho1) hv h0 H1.out).mono ?_
  rintro e w2 ⟨rfl, hb2⟩
  have hB2 := btr hb1 hb2
  clear ho1 hb1 hb2
  go_wp2_with fail
  refine (list_go _ _ _ _ _ (hs.mono hB2)).mono ?_
  rw [ht.out]
  rintro e w3 ⟨a3, n3, p3, rfl, ho3, hb3⟩
  go_wp2_with fail
  refine (odd_go _ _ _ _ _ (own_sl ho3) hG).mono ?_
  rintro e w4 ⟨rfl, hb4⟩
  have hb24 := btr hb3 hb4
  have hB4 := btr hB2 hb24
  clear ho3 hb3 hb4 hB2
  go_wp2_with fail
  refine (graph_go _ _ _ _ _ (hs.mono hB4)).mono ?_
  rintro e w5 ⟨rfl, hw⟩
  have hb25 := btr hb24 (drewB hw)
  have hB5 := btr hB4 (drewB hw)
  clear hw hB4 hb24
  go_wp2_with fail
  refine (rodd_go _ _ _ _ _ (hs.mono hB5) hG).mono ?_
  rintro e w6 ⟨rfl, hb6⟩
  have hb26 := btr hb25 hb6
  have hB6 := btr hB5 hb6
  clear hB5 hb6 hb25
  go_wp2_with fail
  refine (awake_go _).mono ?_
  rintro e w7 ⟨rfl, hb7⟩
  have hb27 := btr hb26 hb7
  have hB7 := btr hB6 hb7
  clear hB6 hb7 hb26
  go_wp2
  go_ret
  exact ⟨rfl, hB7⟩

set_option maxHeartbeats 1000000 in
theorem lswitch_good (w : World) (a : Option Addr) (n cap : Nat) (G : List Nat) (s : Nat) (h1 : s < 2 ^ n) (hs : Sl w a n cap (ints G)) (hG : Gr G) :
    Calls Try.prog 9 #[.slice a n cap, .int .i64 s] w fun e w' => e = .returned (.bool true) ∧ Below w.heap.size w w' := by
  have hv := vld_ints hG
  have hd : decide (VldP (ints G)) = true := by simp [hv]
  have ht := Lib.hid (vld_take hv)
  have hl := Lib.hid hs.len
  have hn16 : n ≤ 16 := by have := hs.len; rw [ints_length] at this; have := hG.2.1; omega
  have hwn := wrap_pow hn16
  have i0 : ¬ (s : Int) < 0 := by omega
  have i1 : ¬ (2 : Int) ^ n ≤ s := by rw [← pow_cast]; omega
  have hs16 : s < 65536 := by have : 2 ^ n ≤ 2 ^ 16 := Nat.pow_le_pow_right (by omega) hn16; omega
  have H1 := Lib.hid h1
  clear h1
  go_enter Try.func9, Try.ntmps9
  go_wp2_with fail
  refine (list_go _ _ _ _ _ hs).mono ?_
  rw [ht.out]
  rintro e w1 ⟨a1, n1, p1, rfl, ho1, hb1⟩
  have hn1 : n1 = n := by rw [← hl.out]; exact (own_sl ho1).len.symm
  subst hn1
  go_wp2_with fail
  refine (switch_go _ _ _ _ G s (own_sl ho1) hG H1.out).mono ?_
  rintro e w2 ⟨a2, n2, p2, rfl, ho2, hb2⟩
  have hB2 := btr hb1 hb2
  have hs2 := Lib.hid (own_sl ho2)
  clear ho2
  clear ho1 hb1 hb2
  go_wp2_with fail
  refine (list_go _ _ _ _ _ (hs.mono hB2)).mono ?_
  rw [ht.out]
  rintro e w3 ⟨a3, n3, p3, rfl, ho3, hb3⟩
  go_wp2_with fail
  refine (odd_go _ _ _ _ _ (own_sl ho3) hG).mono ?_
  rintro e w4 ⟨rfl, hb4⟩
  have hb24 := btr hb3 hb4
  have hB4 := btr hB2 hb24
  clear ho3 hb3 hb4 hB2
  go_wp2_with fail
  refine (graph_go _ _ _ _ _ (hs.mono hB4)).mono ?_
  rintro e w5 ⟨rfl, hw⟩
  have hb25 := btr hb24 (drewB hw)
  have hB5 := btr hB4 (drewB hw)
  clear hw hB4 hb24
  go_wp2_with fail
  refine (rodd_go _ _ _ _ _ (hs.mono hB5) hG).mono ?_
  rintro e w6 ⟨rfl, hb6⟩
  have hb26 := btr hb25 hb6
  have hB6 := btr hB5 hb6
  clear hB5 hb6 hb25
  go_wp2_with fail
  refine (awake_go _).mono ?_
  rintro e w7 ⟨rfl, hb7⟩
  have hb27 := btr hb26 hb7
  have hB7 := btr hB6 hb7
  clear hB6 hb7 hb26
  go_wp2_with fail
  refine (rswitch_go _ _ _ _ G s (hs.mono hB7) hG hs16).mono ?_
  rintro e w8 ⟨a8, n8, p8, rfl, ho8, hb8⟩
  have hB8 := btr hB7 hb8
  have hs8 := Lib.hid (own_sl ho8)
  have hs28 := Lib.hid (hs2.out.mono (btr hb27 hb8))
  clear ho8 hb8 hb27 hB7 hs2
  go_wp2_with fail
  refine (equal_same _ _ _ _ _ _ _ _ hs28.out hs8.out).mono ?_
  rintro e w9 ⟨rfl, hb9⟩
  go_wp2
  go_ret
  exact ⟨rfl, btr hB8 hb9⟩

theorem lswitch_walk (w : World) (a : Option Addr) (n cap : Nat) (l : List Int) (s : Int) (hs : Sl w a n cap l) :
    Calls Try.prog 9 #[.slice a n cap, .int .i64 s] w fun e w' => e = .returned (.bool true) ∧ Below w.heap.size w w' := by
  by_cases hv : VldP l
  · obtain ⟨G, rfl, hG⟩ := vld_gr hv
    by_cases h0 : s < 0
    · exact lswitch_bad2 w a n cap G s h0 hs hG
    obtain ⟨k, rfl⟩ := Int.eq_ofNat_of_zero_le (show 0 ≤ s by omega)
    by_cases h1 : k < 2 ^ n
    · exact lswitch_good w a n cap G k h1 hs hG
    · exact lswitch_bad3 w a n cap G k (by omega) (by exact_mod_cast Nat.le_of_not_lt h1) hs hG
  · exact lswitch_bad1 w a n cap l s hs hv
end Go.Proofs.Ytijnpcehjnaaiaa
