/- Walk: the statement SchemesMakes. -/
import Derived.Test.YtijnpcehjnaaiaaRpairs
namespace Go.Proofs.Ytijnpcehjnaaiaa
open Go.RowKit

theorem mkS5 (w : World) : Calls Try.prog 24 #[.int .i64 5] w (GivesSlE w (ints (squaresL 5)) 0) := squares_go w 5 (by omega)
theorem mkRS5 (w : World) : Calls Try.prog 31 #[.int .i64 5] w (GivesSl w (ints (squaresL 5))) := rsquares_go w 5 (by omega)
theorem mkS13 (w : World) : Calls Try.prog 24 #[.int .i64 13] w (GivesSlE w (ints (squaresL 13)) 0) := squares_go w 13 (by omega)
theorem mkRS13 (w : World) : Calls Try.prog 31 #[.int .i64 13] w (GivesSl w (ints (squaresL 13))) := rsquares_go w 13 (by omega)
theorem mkP4 (w : World) : Calls Try.prog 25 #[.int .i64 4] w (GivesSlE w (ints (pairsL 4)) 0) := pairs_go w 4 (by omega) (by omega)
theorem mkRP4 (w : World) : Calls Try.prog 32 #[.int .i64 4] w (GivesSl w (ints (pairsL 4))) := rpairs_go w 4 (by omega) (by omega)
theorem mkP5 (w : World) : Calls Try.prog 25 #[.int .i64 5] w (GivesSlE w (ints (pairsL 5)) 0) := pairs_go w 5 (by omega) (by omega)
theorem mkRP5 (w : World) : Calls Try.prog 32 #[.int .i64 5] w (GivesSl w (ints (pairsL 5))) := rpairs_go w 5 (by omega) (by omega)
theorem mkP6 (w : World) : Calls Try.prog 25 #[.int .i64 6] w (GivesSlE w (ints (pairsL 6)) 0) := pairs_go w 6 (by omega) (by omega)
theorem mkRP6 (w : World) : Calls Try.prog 32 #[.int .i64 6] w (GivesSl w (ints (pairsL 6))) := rpairs_go w 6 (by omega) (by omega)
theorem mkG2 (w : World) : Calls Try.prog 26 #[.int .i64 2] w (GivesSlE w (ints (gridL 2)) 0) := grid_go w 2 (by omega) (by omega)
theorem mkRG2 (w : World) : Calls Try.prog 33 #[.int .i64 2] w (GivesSl w (ints (gridL 2))) := rgrid_go w 2 (by omega) (by omega)
theorem mkG3 (w : World) : Calls Try.prog 26 #[.int .i64 3] w (GivesSlE w (ints (gridL 3)) 0) := grid_go w 3 (by omega) (by omega)
theorem mkRG3 (w : World) : Calls Try.prog 33 #[.int .i64 3] w (GivesSl w (ints (gridL 3))) := rgrid_go w 3 (by omega) (by omega)
theorem mkG4 (w : World) : Calls Try.prog 26 #[.int .i64 4] w (GivesSlE w (ints (gridL 4)) 0) := grid_go w 4 (by omega) (by omega)
theorem mkRG4 (w : World) : Calls Try.prog 33 #[.int .i64 4] w (GivesSl w (ints (gridL 4))) := rgrid_go w 4 (by omega) (by omega)

set_option maxRecDepth 100000 in
set_option maxHeartbeats 1000000 in
theorem mk_2 (w : World) :
    Calls Try.prog 7 #[.int .i64 2] w fun e w' => e = .returned (.bool true) ∧ Below w.heap.size w w' := by
  go_enter Try.func7, Try.ntmps7
  go_wp2_with fail
  refine (squares_bad _ _ (by decide) (by decide)).mono ?_
  rintro e w1 ⟨rfl, hb1⟩
  go_wp2_with fail
  refine (pairs_bad _ _ (by omega)).mono ?_
  rintro e w2 ⟨rfl, hb2⟩
  go_wp2_with fail
  refine (mkG2 _).mono ?_
  rintro e w3 ⟨a3, n3, p3, rfl, ho3, hb3⟩
  have hs3 := own_sl ho3
  have hB3 := btr (btr hb1 hb2) hb3
  have hq3 := Lib.hid hs3
  have hC := Below.refl w3.heap.size w3
  clear hb1
  clear hb2
  clear hb3
  clear ho3 hs3
  go_wp2_with fail
  refine (mkRG2 _).mono ?_
  rintro e x3 ⟨b3, m3, c3, rfl, hr3, hb⟩
  have hv3 := Lib.hid (own_sl hr3)
  replace hC := btr hC hb
  clear hb hr3
  go_wp2_with fail
  refine (equal_same _ _ _ _ _ _ _ _ (hq3.out.mono hC) hv3.out).mono ?_
  rintro e y3 ⟨rfl, hb⟩
  replace hC := btr hC hb
  clear hb
  go_wp2_with fail
  refine (awake_go _).mono ?_
  rintro e z1 ⟨rfl, hb⟩
  replace hC := btr hC hb
  go_wp2
  go_ret
  exact ⟨rfl, btr hB3 hC⟩

set_option maxRecDepth 100000 in
set_option maxHeartbeats 1000000 in
theorem mk_3 (w : World) :
    Calls Try.prog 7 #[.int .i64 3] w fun e w' => e = .returned (.bool true) ∧ Below w.heap.size w w' := by
  go_enter Try.func7, Try.ntmps7
  go_wp2_with fail
  refine (squares_bad _ _ (by decide) (by decide)).mono ?_
  rintro e w1 ⟨rfl, hb1⟩
  go_wp2_with fail
  refine (pairs_bad _ _ (by omega)).mono ?_
  rintro e w2 ⟨rfl, hb2⟩
  go_wp2_with fail
  refine (mkG3 _).mono ?_
  rintro e w3 ⟨a3, n3, p3, rfl, ho3, hb3⟩
  have hs3 := own_sl ho3
  have hB3 := btr (btr hb1 hb2) hb3
  have hq3 := Lib.hid hs3
  have hC := Below.refl w3.heap.size w3
  clear hb1
  clear hb2
  clear hb3
  clear ho3 hs3
  go_wp2_with fail
  refine (mkRG3 _).mono ?_
  rintro e x3 ⟨b3, m3, c3, rfl, hr3, hb⟩
  have hv3 := Lib.hid (own_sl hr3)
  replace hC := btr hC hb
  clear hb hr3
  go_wp2_with fail
  refine (equal_same _ _ _ _ _ _ _ _ (hq3.out.mono hC) hv3.out).mono ?_
  rintro e y3 ⟨rfl, hb⟩
  replace hC := btr hC hb
  clear hb
  go_wp2_with fail
  refine (awake_go _).mono ?_
  rintro e z1 ⟨rfl, hb⟩
  replace hC := btr hC hb
  go_wp2
  go_ret
  exact ⟨rfl, btr hB3 hC⟩

set_option maxRecDepth 100000 in
set_option maxHeartbeats 1000000 in
theorem mk_4 (w : World) :
    Calls Try.prog 7 #[.int .i64 4] w fun e w' => e = .returned (.bool true) ∧ Below w.heap.size w w' := by
  go_enter Try.func7, Try.ntmps7
  go_wp2_with fail
  refine (squares_bad _ _ (by decide) (by decide)).mono ?_
  rintro e w1 ⟨rfl, hb1⟩
  go_wp2_with fail
  refine (mkP4 _).mono ?_
  rintro e w2 ⟨a2, n2, p2, rfl, ho2, hb2⟩
  have hs2 := own_sl ho2
  go_wp2_with fail
  refine (mkG4 _).mono ?_
  rintro e w3 ⟨a3, n3, p3, rfl, ho3, hb3⟩
  have hs3 := own_sl ho3
  have hB3 := btr (btr hb1 hb2) hb3
  have hq2 := Lib.hid (hs2.mono hb3)
  have hq3 := Lib.hid hs3
  have hC := Below.refl w3.heap.size w3
  clear hb1
  clear hb2
  clear hb3
  clear ho2 hs2
  clear ho3 hs3
  go_wp2_with fail
  refine (mkRP4 _).mono ?_
  rintro e x2 ⟨b2, m2, c2, rfl, hr2, hb⟩
  have hv2 := Lib.hid (own_sl hr2)
  replace hC := btr hC hb
  clear hb hr2
  go_wp2_with fail
  refine (equal_same _ _ _ _ _ _ _ _ (hq2.out.mono hC) hv2.out).mono ?_
  rintro e y2 ⟨rfl, hb⟩
  replace hC := btr hC hb
  clear hb
  go_wp2_with fail
  refine (mkRG4 _).mono ?_
  rintro e x3 ⟨b3, m3, c3, rfl, hr3, hb⟩
  have hv3 := Lib.hid (own_sl hr3)
  replace hC := btr hC hb
  clear hb hr3
  go_wp2_with fail
  refine (equal_same _ _ _ _ _ _ _ _ (hq3.out.mono hC) hv3.out).mono ?_
  rintro e y3 ⟨rfl, hb⟩
  replace hC := btr hC hb
  clear hb
  go_wp2_with fail
  refine (awake_go _).mono ?_
  rintro e z1 ⟨rfl, hb⟩
  replace hC := btr hC hb
  go_wp2
  go_ret
  exact ⟨rfl, btr hB3 hC⟩

set_option maxRecDepth 100000 in
set_option maxHeartbeats 1000000 in
theorem mk_5 (w : World) :
    Calls Try.prog 7 #[.int .i64 5] w fun e w' => e = .returned (.bool true) ∧ Below w.heap.size w w' := by
  go_enter Try.func7, Try.ntmps7
  go_wp2_with fail
  refine (mkS5 _).mono ?_
  rintro e w1 ⟨a1, n1, p1, rfl, ho1, hb1⟩
  have hs1 := own_sl ho1
  go_wp2_with fail
  refine (mkP5 _).mono ?_
  rintro e w2 ⟨a2, n2, p2, rfl, ho2, hb2⟩
  have hs2 := own_sl ho2
  go_wp2_with fail
  refine (grid_bad _ _ (by omega)).mono ?_
  rintro e w3 ⟨rfl, hb3⟩
  have hB3 := btr (btr hb1 hb2) hb3
  have hq1 := Lib.hid ((hs1.mono hb2).mono hb3)
  have hq2 := Lib.hid (hs2.mono hb3)
  have hC := Below.refl w3.heap.size w3
  clear hb1
  clear hb2
  clear hb3
  clear ho1 hs1
  clear ho2 hs2
  go_wp2_with fail
  refine (mkRS5 _).mono ?_
  rintro e x1 ⟨b1, m1, c1, rfl, hr1, hb⟩
  have hv1 := Lib.hid (own_sl hr1)
  replace hC := btr hC hb
  clear hb hr1
  go_wp2_with fail
  refine (equal_same _ _ _ _ _ _ _ _ (hq1.out.mono hC) hv1.out).mono ?_
  rintro e y1 ⟨rfl, hb⟩
  replace hC := btr hC hb
  clear hb
  go_wp2_with fail
  refine (mkRP5 _).mono ?_
  rintro e x2 ⟨b2, m2, c2, rfl, hr2, hb⟩
  have hv2 := Lib.hid (own_sl hr2)
  replace hC := btr hC hb
  clear hb hr2
  go_wp2_with fail
  refine (equal_same _ _ _ _ _ _ _ _ (hq2.out.mono hC) hv2.out).mono ?_
  rintro e y2 ⟨rfl, hb⟩
  replace hC := btr hC hb
  clear hb
  go_wp2_with fail
  refine (awake_go _).mono ?_
  rintro e z1 ⟨rfl, hb⟩
  replace hC := btr hC hb
  go_wp2
  go_ret
  exact ⟨rfl, btr hB3 hC⟩

set_option maxRecDepth 100000 in
set_option maxHeartbeats 1000000 in
theorem mk_6 (w : World) :
    Calls Try.prog 7 #[.int .i64 6] w fun e w' => e = .returned (.bool true) ∧ Below w.heap.size w w' := by
  go_enter Try.func7, Try.ntmps7
  go_wp2_with fail
  refine (squares_bad _ _ (by decide) (by decide)).mono ?_
  rintro e w1 ⟨rfl, hb1⟩
  go_wp2_with fail
  refine (mkP6 _).mono ?_
  rintro e w2 ⟨a2, n2, p2, rfl, ho2, hb2⟩
  have hs2 := own_sl ho2
  go_wp2_with fail
  refine (grid_bad _ _ (by omega)).mono ?_
  rintro e w3 ⟨rfl, hb3⟩
  have hB3 := btr (btr hb1 hb2) hb3
  have hq2 := Lib.hid (hs2.mono hb3)
  have hC := Below.refl w3.heap.size w3
  clear hb1
  clear hb2
  clear hb3
  clear ho2 hs2
  go_wp2_with fail
  refine (mkRP6 _).mono ?_
  rintro e x2 ⟨b2, m2, c2, rfl, hr2, hb⟩
  have hv2 := Lib.hid (own_sl hr2)
  replace hC := btr hC hb
  clear hb hr2
  go_wp2_with fail
  refine (equal_same _ _ _ _ _ _ _ _ (hq2.out.mono hC) hv2.out).mono ?_
  rintro e y2 ⟨rfl, hb⟩
  replace hC := btr hC hb
  clear hb
  go_wp2_with fail
  refine (awake_go _).mono ?_
  rintro e z1 ⟨rfl, hb⟩
  replace hC := btr hC hb
  go_wp2
  go_ret
  exact ⟨rfl, btr hB3 hC⟩

set_option maxRecDepth 100000 in
set_option maxHeartbeats 1000000 in
theorem mk_13 (w : World) :
    Calls Try.prog 7 #[.int .i64 13] w fun e w' => e = .returned (.bool true) ∧ Below w.heap.size w w' := by
  go_enter Try.func7, Try.ntmps7
  go_wp2_with fail
  refine (mkS13 _).mono ?_
  rintro e w1 ⟨a1, n1, p1, rfl, ho1, hb1⟩
  have hs1 := own_sl ho1
  go_wp2_with fail
  refine (pairs_bad _ _ (by omega)).mono ?_
  rintro e w2 ⟨rfl, hb2⟩
  go_wp2_with fail
  refine (grid_bad _ _ (by omega)).mono ?_
  rintro e w3 ⟨rfl, hb3⟩
  have hB3 := btr (btr hb1 hb2) hb3
  have hq1 := Lib.hid ((hs1.mono hb2).mono hb3)
  have hC := Below.refl w3.heap.size w3
  clear hb1
  clear hb2
  clear hb3
  clear ho1 hs1
  go_wp2_with fail
  refine (mkRS13 _).mono ?_
  rintro e x1 ⟨b1, m1, c1, rfl, hr1, hb⟩
  have hv1 := Lib.hid (own_sl hr1)
  replace hC := btr hC hb
  clear hb hr1
  go_wp2_with fail
  refine (equal_same _ _ _ _ _ _ _ _ (hq1.out.mono hC) hv1.out).mono ?_
  rintro e y1 ⟨rfl, hb⟩
  replace hC := btr hC hb
  clear hb
  go_wp2_with fail
  refine (awake_go _).mono ?_
  rintro e z1 ⟨rfl, hb⟩
  replace hC := btr hC hb
  go_wp2
  go_ret
  exact ⟨rfl, btr hB3 hC⟩

set_option maxRecDepth 100000 in
set_option maxHeartbeats 1000000 in
theorem mk_otherlo (w : World) (n : Int) (_h : n ≠ 2 ∧ n ≠ 3 ∧ n ≠ 4 ∧ n ≠ 5 ∧ n ≠ 6 ∧ n ≠ 13) (hlo : n < 2) :
    Calls Try.prog 7 #[.int .i64 n] w fun e w' => e = .returned (.bool true) ∧ Below w.heap.size w w' := by
  have t5 : (n == 5) = false := by simp; omega
  have t13 : (n == 13) = false := by simp; omega
  have r46 : n < 4 ∨ 6 < n := by omega
  have r24 : n < 2 ∨ 4 < n := by omega
  have n5 : n ≠ 5 := by omega
  have n13 : n ≠ 13 := by omega
  have d2 : decide (4 ≤ n) = false := by simp; omega
  have d4 : decide (n < 2) = true := by simp; omega
  have e2 : ¬ 4 ≤ n := by omega
  have H := Lib.hid (And.intro r46 (And.intro r24 (And.intro n5 n13)))
  clear r46 r24 n5 n13
  go_enter Try.func7, Try.ntmps7
  go_wp2_with fail
  refine (squares_bad _ _ H.out.2.2.1 H.out.2.2.2).mono ?_
  rintro e w1 ⟨rfl, hb1⟩
  go_wp2_with fail
  refine (pairs_bad _ _ H.out.1).mono ?_
  rintro e w2 ⟨rfl, hb2⟩
  go_wp2_with fail
  refine (grid_bad _ _ H.out.2.1).mono ?_
  rintro e w3 ⟨rfl, hb3⟩
  have hB3 := btr (btr hb1 hb2) hb3
  have hC := Below.refl w3.heap.size w3
  clear hb1
  clear hb2
  clear hb3
  go_wp2_with fail
  refine (awake_go _).mono ?_
  rintro e z1 ⟨rfl, hb⟩
  replace hC := btr hC hb
  go_wp2
  go_ret
  exact ⟨rfl, btr hB3 hC⟩

set_option maxRecDepth 100000 in
set_option maxHeartbeats 1000000 in
theorem mk_otherhi (w : World) (n : Int) (h : n ≠ 2 ∧ n ≠ 3 ∧ n ≠ 4 ∧ n ≠ 5 ∧ n ≠ 6 ∧ n ≠ 13) (hlo : 6 < n) :
    Calls Try.prog 7 #[.int .i64 n] w fun e w' => e = .returned (.bool true) ∧ Below w.heap.size w w' := by
  have t5 : (n == 5) = false := by simp; omega
  have t13 : (n == 13) = false := by simp; omega
  have r46 : n < 4 ∨ 6 < n := by omega
  have r24 : n < 2 ∨ 4 < n := by omega
  have n5 : n ≠ 5 := by omega
  have n13 : n ≠ 13 := by omega
  have d1 : decide (n ≤ 6) = false := by simp; omega
  have d2 : decide (4 ≤ n) = true := by simp; omega
  have d3 : decide (4 < n) = true := by simp; omega
  have d4 : decide (n < 2) = false := by simp; omega
  have e1 : ¬ n ≤ 6 := by omega
  have e2 : 4 ≤ n := by omega
  have e3 : 4 < n := by omega
  have e4 : ¬ n < 2 := by omega
  have H := Lib.hid (And.intro r46 (And.intro r24 (And.intro n5 n13)))
  clear h r46 r24 n5 n13
  go_enter Try.func7, Try.ntmps7
  go_wp2_with fail
  refine (squares_bad _ _ H.out.2.2.1 H.out.2.2.2).mono ?_
  rintro e w1 ⟨rfl, hb1⟩
  go_wp2_with fail
  refine (pairs_bad _ _ H.out.1).mono ?_
  rintro e w2 ⟨rfl, hb2⟩
  go_wp2_with fail
  refine (grid_bad _ _ H.out.2.1).mono ?_
  rintro e w3 ⟨rfl, hb3⟩
  have hB3 := btr (btr hb1 hb2) hb3
  have hC := Below.refl w3.heap.size w3
  clear hb1
  clear hb2
  clear hb3
  go_wp2_with fail
  refine (awake_go _).mono ?_
  rintro e z1 ⟨rfl, hb⟩
  replace hC := btr hC hb
  go_wp2
  go_ret
  exact ⟨rfl, btr hB3 hC⟩

theorem mk_walk (w : World) (n : Int) :
    Calls Try.prog 7 #[.int .i64 n] w fun e w' => e = .returned (.bool true) ∧ Below w.heap.size w w' := by
  by_cases h2 : n = 2
  · subst h2; exact mk_2 w
  by_cases h3 : n = 3
  · subst h3; exact mk_3 w
  by_cases h4 : n = 4
  · subst h4; exact mk_4 w
  by_cases h5 : n = 5
  · subst h5; exact mk_5 w
  by_cases h6 : n = 6
  · subst h6; exact mk_6 w
  by_cases h13 : n = 13
  · subst h13; exact mk_13 w
  by_cases hlo : n < 2
  · exact mk_otherlo w n ⟨h2, h3, h4, h5, h6, h13⟩ hlo
  · exact mk_otherhi w n ⟨h2, h3, h4, h5, h6, h13⟩ (by omega)
end Go.Proofs.Ytijnpcehjnaaiaa
