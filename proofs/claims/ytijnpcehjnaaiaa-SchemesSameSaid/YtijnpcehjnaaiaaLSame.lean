/- Walk: the statement SchemesSame. -/
import Derived.Test.YtijnpcehjnaaiaaSame
namespace Go.Proofs.Ytijnpcehjnaaiaa
open Go.RowKit

set_option maxHeartbeats 1000000 in
theorem lsame_bad (w : World) (a : Option Addr) (n cap : Nat) (l : List Int) (a2 : Option Addr) (n2 cap2 : Nat) (l2 : List Int) (hs : Sl w a n cap l) (hs2 : Sl w a2 n2 cap2 l2)
    (hsame : ∀ (w : World) (a : Option Addr) (n cap : Nat) (a2 : Option Addr) (n2 cap2 : Nat), Sl w a n cap (l.take 20) → Sl w a2 n2 cap2 (l2.take 20) →
      Calls Try.prog 27 #[.slice a n cap, .slice a2 n2 cap2] w fun e w' => e = .returned (.tuple #[.int .i64 0, .int .i64 2]) ∧ Below w.heap.size w w')
    (hcase : ¬ VldP l ∨ (VldP l ∧ ¬ VldP l2) ∨ (VldP l ∧ VldP l2 ∧ n ≠ n2)) :
    Calls Try.prog 5 #[.slice a n cap, .slice a2 n2 cap2] w fun e w' => e = .returned (.bool true) ∧ Below w.heap.size w w' := by
  have HSM := Lib.hid hsame
  clear hsame
  have HCS := Lib.hid hcase
  clear hcase
  go_enter Try.func5, Try.ntmps5
  go_wp2_with fail
  refine (list_go _ _ _ _ _ hs).mono ?_
  rintro e w1 ⟨a1, n1, p1, rfl, ho1, hb1⟩
  go_wp2_with fail
  refine (list_go _ _ _ _ _ (hs2.mono hb1)).mono ?_
  rintro e w2 ⟨a3, n3, p3, rfl, ho3, hb2⟩
  have hB2 := btr hb1 hb2
  go_wp2_with fail
  refine (HSM.out _ _ _ _ _ _ _ ((own_sl ho1).mono hb2) (own_sl ho3)).mono ?_
  rintro e w3 ⟨rfl, hb3⟩
  have hB3 := btr hB2 hb3
  clear ho1 hb1 hb2 hb3 ho3 hB2
  go_wp2_with fail
  refine (graph_go _ _ _ _ _ (hs.mono hB3)).mono ?_
  rintro e w4 ⟨rfl, hw⟩
  have hB4 := btr hB3 (drewB hw)
  clear hw hB3
  rcases HCS.out with hv | ⟨hv, hv2⟩ | ⟨hv, hv2, hne⟩
  · have hd : decide (VldP l) = false := by simp [hv]
    go_wp2_with fail
    refine (awake_go _).mono ?_
    rintro e w5 ⟨rfl, hb5⟩
    go_wp2
    go_ret
    exact ⟨rfl, btr hB4 hb5⟩
  · have hd : decide (VldP l) = true := by simp [hv]
    have hd2 : decide (VldP l2) = false := by simp [hv2]
    go_wp2_with fail
    refine (graph_go _ _ _ _ _ (hs2.mono hB4)).mono ?_
    rintro e w5 ⟨rfl, hw⟩
    have hB5 := btr hB4 (drewB hw)
    clear hw hB4
    go_wp2_with fail
    refine (awake_go _).mono ?_
    rintro e w6 ⟨rfl, hb6⟩
    go_wp2
    go_ret
    exact ⟨rfl, btr hB5 hb6⟩
  · have hd : decide (VldP l) = true := by simp [hv]
    have hd2 : decide (VldP l2) = true := by simp [hv2]
    have hne2 : ((n : Int) != (n2 : Int)) = true := by rw [bne_iff_ne]; omega
    go_wp2_with fail
    refine (graph_go _ _ _ _ _ (hs2.mono hB4)).mono ?_
    rintro e w5 ⟨rfl, hw⟩
    have hB5 := btr hB4 (drewB hw)
    clear hw hB4
    go_wp2_with fail
    refine (awake_go _).mono ?_
    rintro e w6 ⟨rfl, hb6⟩
    go_wp2
    go_ret
    exact ⟨rfl, btr hB5 hb6⟩

set_option maxHeartbeats 1000000 in
theorem lsame_good (w : World) (a : Option Addr) (n cap : Nat) (G : List Nat) (a2 : Option Addr) (cap2 : Nat) (H : List Nat) (hs : Sl w a n cap (ints G)) (hs2 : Sl w a2 n cap2 (ints H)) (hG : Gr G) (hH : Gr H) :
    Calls Try.prog 5 #[.slice a n cap, .slice a2 n cap2] w fun e w' => e = .returned (.bool true) ∧ Below w.heap.size w w' := by
  have hd : decide (VldP (ints G)) = true := by simp [vld_ints hG]
  have hd2 : decide (VldP (ints H)) = true := by simp [vld_ints hH]
  have tG := Lib.hid (vld_take (vld_ints hG))
  have tH := Lib.hid (vld_take (vld_ints hH))
  have lG := Lib.hid hs.len
  have lH := Lib.hid hs2.len
  go_enter Try.func5, Try.ntmps5
  go_wp2_with fail
  refine (list_go _ _ _ _ _ hs).mono ?_
  rw [tG.out]
  rintro e w1 ⟨a1, n1, p1, rfl, ho1, hb1⟩
  go_wp2_with fail
  refine (list_go _ _ _ _ _ (hs2.mono hb1)).mono ?_
  rw [tH.out]
  rintro e w2 ⟨a3, n3, p3, rfl, ho3, hb2⟩
  have hB2 := btr hb1 hb2
  obtain rfl : n1 = n := by rw [← lG.out]; exact (own_sl ho1).len.symm
  obtain rfl : n3 = n1 := by rw [← lH.out]; exact (own_sl ho3).len.symm
  go_wp2_with fail
  refine (same_go _ _ _ _ _ _ _ _ ((own_sl ho1).mono hb2) (own_sl ho3) hG hH).mono ?_
  rintro e w3 ⟨rfl, hb3⟩
  have hB3 := btr hB2 hb3
  clear ho1 hb1 hb2 hb3 ho3 hB2
  go_wp2_with fail
  refine (graph_go _ _ _ _ _ (hs.mono hB3)).mono ?_
  rintro e w4 ⟨rfl, hw⟩
  have hB4 := btr hB3 (drewB hw)
  clear hw hB3
  go_wp2_with fail
  refine (graph_go _ _ _ _ _ (hs2.mono hB4)).mono ?_
  rintro e w5 ⟨rfl, hw⟩
  have hB5 := btr hB4 (drewB hw)
  clear hw hB4
  go_wp2_with fail
  refine (rsame_go _ _ _ _ _ _ _ _ (hs.mono hB5) (hs2.mono hB5) hG hH).mono ?_
  rintro e w6 ⟨rfl, hb6⟩
  have hB6 := btr hB5 hb6
  clear hb6 hB5
  go_wp2_with fail
  refine (awake_go _).mono ?_
  rintro e w7 ⟨rfl, hb7⟩
  go_wp2
  go_ret
  exact ⟨rfl, btr hB6 hb7⟩

theorem lsame_walk (w : World) (a : Option Addr) (n cap : Nat) (l : List Int) (a2 : Option Addr) (n2 cap2 : Nat) (l2 : List Int) (hs : Sl w a n cap l) (hs2 : Sl w a2 n2 cap2 l2) :
    Calls Try.prog 5 #[.slice a n cap, .slice a2 n2 cap2] w fun e w' => e = .returned (.bool true) ∧ Below w.heap.size w w' := by
  by_cases hv : VldP l
  · by_cases hv2 : VldP l2
    · by_cases hn : n = n2
      · subst hn
        obtain ⟨G, rfl, hG⟩ := vld_gr hv
        obtain ⟨H, rfl, hH⟩ := vld_gr hv2
        exact lsame_good w a n cap G a2 cap2 H hs hs2 hG hH
      · refine lsame_bad w a n cap l a2 n2 cap2 l2 hs hs2 (fun w a n' cap a2 n2' cap2 h1 h2 => same_bad3 w a n' cap _ a2 n2' cap2 _ h1 h2 (vld_len.2 hv) (vld_len.2 hv2) ?_) (.inr (.inr ⟨hv, hv2, hn⟩))
        rw [vld_take hv] at h1
        rw [vld_take hv2] at h2
        have e1 := hs.len
        have e2 := hs2.len
        have e3 := h1.len
        have e4 := h2.len
        omega
    · exact lsame_bad w a n cap l a2 n2 cap2 l2 hs hs2 (fun w a n' cap a2 n2' cap2 h1 h2 => same_bad2 w a n' cap _ a2 n2' cap2 _ h1 h2 (vld_len.2 hv) (fun h => hv2 (vld_len.1 h))) (.inr (.inl ⟨hv, hv2⟩))
  · exact lsame_bad w a n cap l a2 n2 cap2 l2 hs hs2 (fun w a n' cap a2 n2' cap2 h1 _ => same_bad1 w a n' cap _ a2 n2' cap2 h1 (fun h => hv (vld_len.1 h))) (.inl hv)
end Go.Proofs.Ytijnpcehjnaaiaa
