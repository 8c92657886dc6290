/- Walk: the statement SchemesAlone. -/
import Derived.Test.YtijnpcehjnaaiaaAlone
namespace Go.Proofs.Ytijnpcehjnaaiaa
open Go.RowKit

set_option maxHeartbeats 1000000 in
theorem lalone_bad1 (w : World) (a : Option Addr) (n cap : Nat) (l : List Int) (v : Int) (hs : Sl w a n cap l) (hv : ¬ VldP l) :
    Calls Try.prog 6 #[.slice a n cap, .int .i64 v] w fun e w' => e = .returned (.bool true) ∧ Below w.heap.size w w' := by
  have hd : decide (VldP l) = false := by simp [hv]
  go_enter Try.func6, Try.ntmps6
  go_wp2_with fail
  refine (list_go _ _ _ _ _ hs).mono ?_
  rintro e w1 ⟨a1, n1, p1, rfl, ho1, hb1⟩
  go_wp2_with fail
  refine (alone_bad1 _ _ _ _ _ _ (own_sl ho1) (fun h => hv (vld_len.1 h))).mono ?_
  rintro e w2 ⟨rfl, hb2⟩
  have hB2 := btr hb1 hb2
  clear ho1 hb1 hb2
  go_wp2_with fail
  refine (graph_go _ _ _ _ _ (hs.mono hB2)).mono ?_
  rintro e w3 ⟨rfl, hw⟩
  have hB3 := btr hB2 (drewB hw)
  clear hw hB2
  go_wp2_with fail
  refine (awake_go _).mono ?_
  rintro e w5 ⟨rfl, hb5⟩
  go_wp2
  go_ret
  exact ⟨rfl, btr hB3 hb5⟩

set_option maxHeartbeats 1000000 in
theorem lalone_bad2 (w : World) (a : Option Addr) (n cap : Nat) (l : List Int) (v : Int) (hs : Sl w a n cap l) (hv : VldP l) (hb : v < 0) :
    Calls Try.prog 6 #[.slice a n cap, .int .i64 v] w fun e w' => e = .returned (.bool true) ∧ Below w.heap.size w w' := by
  have hd : decide (VldP l) = true := by simp [hv]
  go_enter Try.func6, Try.ntmps6
  go_wp2_with fail
  refine (list_go _ _ _ _ _ hs).mono ?_
  rintro e w1 ⟨a1, n1, p1, rfl, ho1, hb1⟩
  go_wp2_with fail
  refine (alone_bad2 _ _ _ _ _ _ (own_sl ho1) (vld_len.2 hv) hb).mono ?_
  rintro e w2 ⟨rfl, hb2⟩
  have hB2 := btr hb1 hb2
  clear ho1 hb1 hb2
  go_wp2_with fail
  refine (graph_go _ _ _ _ _ (hs.mono hB2)).mono ?_
  rintro e w3 ⟨rfl, hw⟩
  have hB3 := btr hB2 (drewB hw)
  clear hw hB2
  go_wp2_with fail
  refine (awake_go _).mono ?_
  rintro e w5 ⟨rfl, hb5⟩
  go_wp2
  go_ret
  exact ⟨rfl, btr hB3 hb5⟩

set_option maxHeartbeats 1000000 in
theorem lalone_bad3 (w : World) (a : Option Addr) (n cap : Nat) (l : List Int) (v : Int) (hs : Sl w a n cap l) (hv : VldP l) (hb : (n : Int) ≤ v) :
    Calls Try.prog 6 #[.slice a n cap, .int .i64 v] w fun e w' => e = .returned (.bool true) ∧ Below w.heap.size w w' := by
  have hd : decide (VldP l) = true := by simp [hv]
  have h0 : ¬ v < 0 := by omega
  go_enter Try.func6, Try.ntmps6
  go_wp2_with fail
  refine (list_go _ _ _ _ _ hs).mono ?_
  rintro e w1 ⟨a1, n1, p1, rfl, ho1, hb1⟩
  go_wp2_with fail
  have hn1 : n1 = n := by
    have e1 := (own_sl ho1).len
    have e2 := hs.len
    rw [vld_take hv] at e1
    omega
  refine (alone_bad3 _ _ _ _ _ _ (own_sl ho1) (vld_len.2 hv) (by omega)).mono ?_
  rintro e w2 ⟨rfl, hb2⟩
  have hB2 := btr hb1 hb2
  clear ho1 hb1 hb2
  go_wp2_with fail
  refine (graph_go _ _ _ _ _ (hs.mono hB2)).mono ?_
  rintro e w3 ⟨rfl, hw⟩
  have hB3 := btr hB2 (drewB hw)
  clear hw hB2
  go_wp2_with fail
  refine (awake_go _).mono ?_
  rintro e w5 ⟨rfl, hb5⟩
  go_wp2
  go_ret
  exact ⟨rfl, btr hB3 hb5⟩

set_option maxHeartbeats 1000000 in
theorem lalone_bad4 (w : World) (a : Option Addr) (n cap : Nat) (l : List Int) (v : Int) (hs : Sl w a n cap l) (hv : VldP l) (h0 : ¬ v < 0) (h1 : ¬ (n : Int) ≤ v) (hb : n < 2) :
    Calls Try.prog 6 #[.slice a n cap, .int .i64 v] w fun e w' => e = .returned (.bool true) ∧ Below w.heap.size w w' := by
  have hd : decide (VldP l) = true := by simp [hv]
  go_enter Try.func6, Try.ntmps6
  go_wp2_with fail
  refine (list_go _ _ _ _ _ hs).mono ?_
  rintro e w1 ⟨a1, n1, p1, rfl, ho1, hb1⟩
  go_wp2_with fail
  have hn1 : n1 = n := by
    have e1 := (own_sl ho1).len
    have e2 := hs.len
    rw [vld_take hv] at e1
    omega
  refine (alone_bad4 _ _ _ _ _ _ (own_sl ho1) (vld_len.2 hv) (by omega) (by omega) (by omega)).mono ?_
  rintro e w2 ⟨rfl, hb2⟩
  have hB2 := btr hb1 hb2
  clear ho1 hb1 hb2
  go_wp2_with fail
  refine (graph_go _ _ _ _ _ (hs.mono hB2)).mono ?_
  rintro e w3 ⟨rfl, hw⟩
  have hB3 := btr hB2 (drewB hw)
  clear hw hB2
  go_wp2_with fail
  refine (awake_go _).mono ?_
  rintro e w5 ⟨rfl, hb5⟩
  go_wp2
  go_ret
  exact ⟨rfl, btr hB3 hb5⟩

set_option maxHeartbeats 1000000 in
theorem lalone_good (w : World) (a : Option Addr) (n cap : Nat) (G : List Nat) (v : Nat) (hs : Sl w a n cap (ints G)) (hG : Gr G) (hvn : v < n) (h2 : 2 ≤ n) :
    Calls Try.prog 6 #[.slice a n cap, .int .i64 v] w fun e w' => e = .returned (.bool true) ∧ Below w.heap.size w w' := by
  have hv := vld_ints hG
  have hd : decide (VldP (ints G)) = true := by simp [hv]
  have i0 : ¬ (v : Int) < 0 := by omega
  have i1 : ¬ (n : Int) ≤ v := by omega
  have i2 : ¬ n < 2 := by omega
  have ht := Lib.hid (vld_take hv)
  have hl := Lib.hid hs.len
  go_enter Try.func6, Try.ntmps6
  go_wp2_with fail
  refine (list_go _ _ _ _ _ hs).mono ?_
  rw [ht.out]
  rintro e w1 ⟨a1, n1, p1, rfl, ho1, hb1⟩
  have hn1 : n1 = n := by rw [← hl.out]; exact (own_sl ho1).len.symm
  subst hn1
  go_wp2_with fail
  refine (alone_go _ _ _ _ G v (own_sl ho1) hG hvn h2).mono ?_
  rintro e w2 ⟨a2, n2, p2, rfl, ho2, hb2⟩
  have hB2 := btr hb1 hb2
  have hs2 := Lib.hid (own_sl ho2)
  clear ho1 hb1 hb2 ho2
  go_wp2_with fail
  refine (graph_go _ _ _ _ _ (hs.mono hB2)).mono ?_
  rintro e w3 ⟨rfl, hw⟩
  have hb3 := drewB hw
  have hB3 := btr hB2 hb3
  clear hw hB2
  go_wp2_with fail
  refine (ralone_go _ _ _ _ G v (hs.mono hB3) hG hvn).mono ?_
  rintro e w4 ⟨a4, n4, p4, rfl, ho4, hb4⟩
  have hB4 := btr hB3 hb4
  have hs4 := Lib.hid (own_sl ho4)
  have hs3 := Lib.hid ((hs2.out.mono hb3).mono hb4)
  clear hB3 hb3 hb4 ho4 hs2
  go_wp2_with fail
  refine (equal_same _ _ _ _ _ _ _ _ hs3.out hs4.out).mono ?_
  rintro e w5 ⟨rfl, hb5⟩
  have hB5 := btr hB4 hb5
  clear hb5 hB4
  go_wp2_with fail
  refine (awake_go _).mono ?_
  rintro e w6 ⟨rfl, hb6⟩
  go_wp2
  go_ret
  exact ⟨rfl, btr hB5 hb6⟩

theorem lalone_walk (w : World) (a : Option Addr) (n cap : Nat) (l : List Int) (v : Int) (hs : Sl w a n cap l) :
    Calls Try.prog 6 #[.slice a n cap, .int .i64 v] w fun e w' => e = .returned (.bool true) ∧ Below w.heap.size w w' := by
  by_cases hv : VldP l
  · by_cases h0 : v < 0
    · exact lalone_bad2 w a n cap l v hs hv h0
    by_cases h1 : (n : Int) ≤ v
    · exact lalone_bad3 w a n cap l v hs hv h1
    by_cases h2 : n < 2
    · exact lalone_bad4 w a n cap l v hs hv h0 h1 h2
    obtain ⟨G, rfl, hG⟩ := vld_gr hv
    obtain ⟨k, rfl⟩ := Int.eq_ofNat_of_zero_le (show 0 ≤ v by omega)
    exact lalone_good w a n cap G k hs hG (by omega) (by omega)
  · exact lalone_bad1 w a n cap l v hs hv
end Go.Proofs.Ytijnpcehjnaaiaa
