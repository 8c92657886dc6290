/- Walk: the statement SchemesFamilies. -/
import Derived.Test.YtijnpcehjnaaiaaSquares
namespace Go.Proofs.Ytijnpcehjnaaiaa
open Go.RowKit

/-- Is G a graph with the numbers k, l, m? Reckoned. -/
def grB (G : List Nat) : Bool := decide (1 ≤ G.length) && decide (G.length ≤ 16) && (List.range G.length).all fun i => decide (gn G i < 2 ^ G.length) && !(gn G i).testBit i && (List.range G.length).all fun j => (gn G i).testBit j == (gn G j).testBit i
theorem grB_gr {G : List Nat} (h : grB G = true) : Gr G := by
  simp only [grB, Bool.and_eq_true, decide_eq_true_eq, List.all_eq_true, List.mem_range, Bool.not_eq_true', beq_iff_eq] at h
  exact ⟨h.1.1, h.1.2, fun i hi => ⟨(h.2 i hi).1.1, (h.2 i hi).1.2, fun j hj => (h.2 i hi).2 j hj⟩⟩
def numB (G : List Nat) (k l m : Nat) : Bool := decide (1 ≤ k) && decide (k + 2 ≤ G.length) && (List.range G.length).all fun i => decide (pop (gn G i) = k) && (List.range i).all fun j => decide (pop (gn G i &&& gn G j) = if (gn G i).testBit j then l else m)
theorem numB_num {G : List Nat} {k l m : Nat} (h : numB G k l m = true) : Num G k l m := by
  simp only [numB, Bool.and_eq_true, decide_eq_true_eq, List.all_eq_true, List.mem_range] at h
  obtain ⟨⟨h1, h2⟩, h3⟩ := h
  refine ⟨h1, h2, fun i hi => (h3 i hi).1, fun i j hi hj hb => ?_, fun i j hi hj hb => ?_⟩
  · have := (h3 i hi).2 j hj; rw [hb] at this; simpa using this
  · have := (h3 i hi).2 j hj; rw [hb] at this; simpa using this
theorem read_lit (w : World) (a : Option Addr) (n cap : Nat) (G : List Nat) (N K L M : Int) (k l m : Nat) (hs : Sl w a n cap (ints G)) (hg : grB G = true) (hn : numB G k l m = true) (hN : (G.length : Int) = N) (hK : (k : Int) = K) (hL : (l : Int) = L) (hM : (m : Int) = M) :
    Calls Try.prog 15 #[.slice a n cap] w fun e w' => e = .returned (.tuple #[agg4 N K L M, .int .i64 0]) ∧ Below w.heap.size w w' := by
  subst hN hK hL hM
  exact read_num w a n cap G hs (grB_gr hg) (numB_num hn)
theorem sq5_gr : grB (squaresL 5) = true := by decide +kernel
theorem sq5_num : numB (squaresL 5) 2 0 1 = true := by decide +kernel
theorem sq5_len : ((squaresL 5).length : Int) = 5 := by decide +kernel
theorem sq13_gr : grB (squaresL 13) = true := by decide +kernel
theorem sq13_num : numB (squaresL 13) 6 2 3 = true := by decide +kernel
theorem sq13_len : ((squaresL 13).length : Int) = 13 := by decide +kernel
theorem pr4_gr : grB (pairsL 4) = true := by decide +kernel
theorem pr4_num : numB (pairsL 4) 4 2 4 = true := by decide +kernel
theorem pr4_len : ((pairsL 4).length : Int) = 6 := by decide +kernel
theorem pr5_gr : grB (pairsL 5) = true := by decide +kernel
theorem pr5_num : numB (pairsL 5) 6 3 4 = true := by decide +kernel
theorem pr5_len : ((pairsL 5).length : Int) = 10 := by decide +kernel
theorem pr6_gr : grB (pairsL 6) = true := by decide +kernel
theorem pr6_num : numB (pairsL 6) 8 4 4 = true := by decide +kernel
theorem pr6_len : ((pairsL 6).length : Int) = 15 := by decide +kernel
theorem gd2_gr : grB (gridL 2) = true := by decide +kernel
theorem gd2_num : numB (gridL 2) 2 0 2 = true := by decide +kernel
theorem gd2_len : ((gridL 2).length : Int) = 4 := by decide +kernel
theorem gd3_gr : grB (gridL 3) = true := by decide +kernel
theorem gd3_num : numB (gridL 3) 4 1 2 = true := by decide +kernel
theorem gd3_len : ((gridL 3).length : Int) = 9 := by decide +kernel
theorem gd4_gr : grB (gridL 4) = true := by decide +kernel
theorem gd4_num : numB (gridL 4) 6 2 2 = true := by decide +kernel
theorem gd4_len : ((gridL 4).length : Int) = 16 := by decide +kernel
theorem squares5 (w : World) : Calls Try.prog 24 #[.int .i64 5] w (GivesSlE w (ints (squaresL 5)) 0) := squares_go w 5 (by omega)
theorem squares13 (w : World) : Calls Try.prog 24 #[.int .i64 13] w (GivesSlE w (ints (squaresL 13)) 0) := squares_go w 13 (by omega)
theorem pairs4 (w : World) : Calls Try.prog 25 #[.int .i64 4] w (GivesSlE w (ints (pairsL 4)) 0) := pairs_go w 4 (by omega) (by omega)
theorem pairs5 (w : World) : Calls Try.prog 25 #[.int .i64 5] w (GivesSlE w (ints (pairsL 5)) 0) := pairs_go w 5 (by omega) (by omega)
theorem pairs6 (w : World) : Calls Try.prog 25 #[.int .i64 6] w (GivesSlE w (ints (pairsL 6)) 0) := pairs_go w 6 (by omega) (by omega)
theorem grid2 (w : World) : Calls Try.prog 26 #[.int .i64 2] w (GivesSlE w (ints (gridL 2)) 0) := grid_go w 2 (by omega) (by omega)
theorem grid3 (w : World) : Calls Try.prog 26 #[.int .i64 3] w (GivesSlE w (ints (gridL 3)) 0) := grid_go w 3 (by omega) (by omega)
theorem grid4 (w : World) : Calls Try.prog 26 #[.int .i64 4] w (GivesSlE w (ints (gridL 4)) 0) := grid_go w 4 (by omega) (by omega)

set_option maxRecDepth 100000 in
set_option maxHeartbeats 1000000 in
theorem fam_2 (w : World) :
    Calls Try.prog 4 #[.int .i64 2] w fun e w' => e = .returned (.bool true) ∧ Below w.heap.size w w' := by
  go_enter Try.func4, Try.ntmps4
  go_wp2_with fail
  refine (squares_bad _ _ (by decide) (by decide)).mono ?_
  rintro e w1 ⟨rfl, hb1⟩
  go_wp2_with fail
  refine (pairs_bad _ _ (by omega)).mono ?_
  rintro e w2 ⟨rfl, hb2⟩
  go_wp2_with fail
  refine (grid2 _).mono ?_
  rintro e w3 ⟨a3, n3, p3, rfl, ho3, hb3⟩
  have hs3 := own_sl ho3
  have hB3 := btr (btr hb1 hb2) hb3
  have hq3 := Lib.hid hs3
  have hC := Below.refl w3.heap.size w3
  clear hb1
  clear hb2
  clear hb3
  clear ho3 hs3
  go_wp2_with fail
  refine (read_lit _ _ _ _ (gridL 2) 4 2 0 2 2 0 2 (hq3.out.mono hC) gd2_gr gd2_num gd2_len rfl rfl rfl).mono ?_
  rintro e x3 ⟨rfl, hb⟩
  replace hC := btr hC hb
  clear hb
  go_wp2_with fail
  refine (own_go _ _ _ _ _).mono ?_
  rintro e y3 ⟨rfl, hb⟩
  replace hC := btr (bal hC _) hb
  clear hb
  go_wp2_with fail
  refine (awake_go _).mono ?_
  rintro e z1 ⟨rfl, hb⟩
  replace hC := btr hC hb
  go_wp2
  go_ret
  exact ⟨rfl, btr hB3 hC⟩

set_option maxRecDepth 100000 in
set_option maxHeartbeats 1000000 in
theorem fam_3 (w : World) :
    Calls Try.prog 4 #[.int .i64 3] w fun e w' => e = .returned (.bool true) ∧ Below w.heap.size w w' := by
  go_enter Try.func4, Try.ntmps4
  go_wp2_with fail
  refine (squares_bad _ _ (by decide) (by decide)).mono ?_
  rintro e w1 ⟨rfl, hb1⟩
  go_wp2_with fail
  refine (pairs_bad _ _ (by omega)).mono ?_
  rintro e w2 ⟨rfl, hb2⟩
  go_wp2_with fail
  refine (grid3 _).mono ?_
  rintro e w3 ⟨a3, n3, p3, rfl, ho3, hb3⟩
  have hs3 := own_sl ho3
  have hB3 := btr (btr hb1 hb2) hb3
  have hq3 := Lib.hid hs3
  have hC := Below.refl w3.heap.size w3
  clear hb1
  clear hb2
  clear hb3
  clear ho3 hs3
  go_wp2_with fail
  refine (read_lit _ _ _ _ (gridL 3) 9 4 1 2 4 1 2 (hq3.out.mono hC) gd3_gr gd3_num gd3_len rfl rfl rfl).mono ?_
  rintro e x3 ⟨rfl, hb⟩
  replace hC := btr hC hb
  clear hb
  go_wp2_with fail
  refine (own_go _ _ _ _ _).mono ?_
  rintro e y3 ⟨rfl, hb⟩
  replace hC := btr (bal hC _) hb
  clear hb
  go_wp2_with fail
  refine (awake_go _).mono ?_
  rintro e z1 ⟨rfl, hb⟩
  replace hC := btr hC hb
  go_wp2
  go_ret
  exact ⟨rfl, btr hB3 hC⟩

set_option maxRecDepth 100000 in
set_option maxHeartbeats 1000000 in
theorem fam_4 (w : World) :
    Calls Try.prog 4 #[.int .i64 4] w fun e w' => e = .returned (.bool true) ∧ Below w.heap.size w w' := by
  go_enter Try.func4, Try.ntmps4
  go_wp2_with fail
  refine (squares_bad _ _ (by decide) (by decide)).mono ?_
  rintro e w1 ⟨rfl, hb1⟩
  go_wp2_with fail
  refine (pairs4 _).mono ?_
  rintro e w2 ⟨a2, n2, p2, rfl, ho2, hb2⟩
  have hs2 := own_sl ho2
  go_wp2_with fail
  refine (grid4 _).mono ?_
  rintro e w3 ⟨a3, n3, p3, rfl, ho3, hb3⟩
  have hs3 := own_sl ho3
  have hB3 := btr (btr hb1 hb2) hb3
  have hq2 := Lib.hid (hs2.mono hb3)
  have hq3 := Lib.hid hs3
  have hC := Below.refl w3.heap.size w3
  clear hb1
  clear hb2
  clear hb3
  clear ho2 hs2
  clear ho3 hs3
  go_wp2_with fail
  refine (read_lit _ _ _ _ (pairsL 4) 6 4 2 4 4 2 4 (hq2.out.mono hC) pr4_gr pr4_num pr4_len rfl rfl rfl).mono ?_
  rintro e x2 ⟨rfl, hb⟩
  replace hC := btr hC hb
  clear hb
  go_wp2_with fail
  refine (own_go _ _ _ _ _).mono ?_
  rintro e y2 ⟨rfl, hb⟩
  replace hC := btr (bal hC _) hb
  clear hb
  go_wp2_with fail
  refine (read_lit _ _ _ _ (gridL 4) 16 6 2 2 6 2 2 (hq3.out.mono hC) gd4_gr gd4_num gd4_len rfl rfl rfl).mono ?_
  rintro e x3 ⟨rfl, hb⟩
  replace hC := btr hC hb
  clear hb
  go_wp2_with fail
  refine (own_go _ _ _ _ _).mono ?_
  rintro e y3 ⟨rfl, hb⟩
  replace hC := btr (bal hC _) hb
  clear hb
  go_wp2_with fail
  refine (awake_go _).mono ?_
  rintro e z1 ⟨rfl, hb⟩
  replace hC := btr hC hb
  go_wp2
  go_ret
  exact ⟨rfl, btr hB3 hC⟩

set_option maxRecDepth 100000 in
set_option maxHeartbeats 1000000 in
theorem fam_5 (w : World) :
    Calls Try.prog 4 #[.int .i64 5] w fun e w' => e = .returned (.bool true) ∧ Below w.heap.size w w' := by
  go_enter Try.func4, Try.ntmps4
  go_wp2_with fail
  refine (squares5 _).mono ?_
  rintro e w1 ⟨a1, n1, p1, rfl, ho1, hb1⟩
  have hs1 := own_sl ho1
  go_wp2_with fail
  refine (pairs5 _).mono ?_
  rintro e w2 ⟨a2, n2, p2, rfl, ho2, hb2⟩
  have hs2 := own_sl ho2
  go_wp2_with fail
  refine (grid_bad _ _ (by omega)).mono ?_
  rintro e w3 ⟨rfl, hb3⟩
  have hB3 := btr (btr hb1 hb2) hb3
  have hq1 := Lib.hid ((hs1.mono hb2).mono hb3)
  have hq2 := Lib.hid (hs2.mono hb3)
  have hC := Below.refl w3.heap.size w3
  clear hb1
  clear hb2
  clear hb3
  clear ho1 hs1
  clear ho2 hs2
  go_wp2_with fail
  refine (read_lit _ _ _ _ (squaresL 5) 5 2 0 1 2 0 1 (hq1.out.mono hC) sq5_gr sq5_num sq5_len rfl rfl rfl).mono ?_
  rintro e x1 ⟨rfl, hb⟩
  replace hC := btr hC hb
  clear hb
  go_wp2_with fail
  refine (own_go _ _ _ _ _).mono ?_
  rintro e y1 ⟨rfl, hb⟩
  replace hC := btr (bal hC _) hb
  clear hb
  go_wp2_with fail
  refine (read_lit _ _ _ _ (pairsL 5) 10 6 3 4 6 3 4 (hq2.out.mono hC) pr5_gr pr5_num pr5_len rfl rfl rfl).mono ?_
  rintro e x2 ⟨rfl, hb⟩
  replace hC := btr hC hb
  clear hb
  go_wp2_with fail
  refine (own_go _ _ _ _ _).mono ?_
  rintro e y2 ⟨rfl, hb⟩
  replace hC := btr (bal hC _) hb
  clear hb
  go_wp2_with fail
  refine (awake_go _).mono ?_
  rintro e z1 ⟨rfl, hb⟩
  replace hC := btr hC hb
  go_wp2
  go_ret
  exact ⟨rfl, btr hB3 hC⟩

set_option maxRecDepth 100000 in
set_option maxHeartbeats 1000000 in
theorem fam_6 (w : World) :
    Calls Try.prog 4 #[.int .i64 6] w fun e w' => e = .returned (.bool true) ∧ Below w.heap.size w w' := by
  go_enter Try.func4, Try.ntmps4
  go_wp2_with fail
  refine (squares_bad _ _ (by decide) (by decide)).mono ?_
  rintro e w1 ⟨rfl, hb1⟩
  go_wp2_with fail
  refine (pairs6 _).mono ?_
  rintro e w2 ⟨a2, n2, p2, rfl, ho2, hb2⟩
  have hs2 := own_sl ho2
  go_wp2_with fail
  refine (grid_bad _ _ (by omega)).mono ?_
  rintro e w3 ⟨rfl, hb3⟩
  have hB3 := btr (btr hb1 hb2) hb3
  have hq2 := Lib.hid (hs2.mono hb3)
  have hC := Below.refl w3.heap.size w3
  clear hb1
  clear hb2
  clear hb3
  clear ho2 hs2
  go_wp2_with fail
  refine (read_lit _ _ _ _ (pairsL 6) 15 8 4 4 8 4 4 (hq2.out.mono hC) pr6_gr pr6_num pr6_len rfl rfl rfl).mono ?_
  rintro e x2 ⟨rfl, hb⟩
  replace hC := btr hC hb
  clear hb
  go_wp2_with fail
  refine (own_go _ _ _ _ _).mono ?_
  rintro e y2 ⟨rfl, hb⟩
  replace hC := btr (bal hC _) hb
  clear hb
  go_wp2_with fail
  refine (awake_go _).mono ?_
  rintro e z1 ⟨rfl, hb⟩
  replace hC := btr hC hb
  go_wp2
  go_ret
  exact ⟨rfl, btr hB3 hC⟩

set_option maxRecDepth 100000 in
set_option maxHeartbeats 1000000 in
theorem fam_13 (w : World) :
    Calls Try.prog 4 #[.int .i64 13] w fun e w' => e = .returned (.bool true) ∧ Below w.heap.size w w' := by
  go_enter Try.func4, Try.ntmps4
  go_wp2_with fail
  refine (squares13 _).mono ?_
  rintro e w1 ⟨a1, n1, p1, rfl, ho1, hb1⟩
  have hs1 := own_sl ho1
  go_wp2_with fail
  refine (pairs_bad _ _ (by omega)).mono ?_
  rintro e w2 ⟨rfl, hb2⟩
  go_wp2_with fail
  refine (grid_bad _ _ (by omega)).mono ?_
  rintro e w3 ⟨rfl, hb3⟩
  have hB3 := btr (btr hb1 hb2) hb3
  have hq1 := Lib.hid ((hs1.mono hb2).mono hb3)
  have hC := Below.refl w3.heap.size w3
  clear hb1
  clear hb2
  clear hb3
  clear ho1 hs1
  go_wp2_with fail
  refine (read_lit _ _ _ _ (squaresL 13) 13 6 2 3 6 2 3 (hq1.out.mono hC) sq13_gr sq13_num sq13_len rfl rfl rfl).mono ?_
  rintro e x1 ⟨rfl, hb⟩
  replace hC := btr hC hb
  clear hb
  go_wp2_with fail
  refine (own_go _ _ _ _ _).mono ?_
  rintro e y1 ⟨rfl, hb⟩
  replace hC := btr (bal hC _) hb
  clear hb
  go_wp2_with fail
  refine (awake_go _).mono ?_
  rintro e z1 ⟨rfl, hb⟩
  replace hC := btr hC hb
  go_wp2
  go_ret
  exact ⟨rfl, btr hB3 hC⟩

set_option maxRecDepth 100000 in
set_option maxHeartbeats 1000000 in
theorem fam_otherlo (w : World) (n : Int) (_h : n ≠ 2 ∧ n ≠ 3 ∧ n ≠ 4 ∧ n ≠ 5 ∧ n ≠ 6 ∧ n ≠ 13) (hlo : n < 2) :
    Calls Try.prog 4 #[.int .i64 n] w fun e w' => e = .returned (.bool true) ∧ Below w.heap.size w w' := by
  have t5 : (n == 5) = false := by simp; omega
  have t13 : (n == 13) = false := by simp; omega
  have r46 : n < 4 ∨ 6 < n := by omega
  have r24 : n < 2 ∨ 4 < n := by omega
  have n5 : n ≠ 5 := by omega
  have n13 : n ≠ 13 := by omega
  have H := Lib.hid (And.intro r46 (And.intro r24 (And.intro n5 n13)))
  clear _h r46 r24 n5 n13
  go_enter Try.func4, Try.ntmps4
  go_wp2_with fail
  refine (squares_bad _ _ H.out.2.2.1 H.out.2.2.2).mono ?_
  rintro e w1 ⟨rfl, hb1⟩
  go_wp2_with fail
  refine (pairs_bad _ _ H.out.1).mono ?_
  rintro e w2 ⟨rfl, hb2⟩
  go_wp2_with fail
  refine (grid_bad _ _ H.out.2.1).mono ?_
  rintro e w3 ⟨rfl, hb3⟩
  have hB3 := btr (btr hb1 hb2) hb3
  have hC := Below.refl w3.heap.size w3
  clear hb1
  clear hb2
  clear hb3
  go_wp2_with fail
  refine (awake_go _).mono ?_
  rintro e z1 ⟨rfl, hb⟩
  replace hC := btr hC hb
  go_wp2
  go_ret
  exact ⟨rfl, btr hB3 hC⟩

set_option maxRecDepth 100000 in
set_option maxHeartbeats 1000000 in
theorem fam_otherhi (w : World) (n : Int) (_h : n ≠ 2 ∧ n ≠ 3 ∧ n ≠ 4 ∧ n ≠ 5 ∧ n ≠ 6 ∧ n ≠ 13) (hlo : 6 < n) :
    Calls Try.prog 4 #[.int .i64 n] w fun e w' => e = .returned (.bool true) ∧ Below w.heap.size w w' := by
  have t5 : (n == 5) = false := by simp; omega
  have t13 : (n == 13) = false := by simp; omega
  have r46 : n < 4 ∨ 6 < n := by omega
  have r24 : n < 2 ∨ 4 < n := by omega
  have n5 : n ≠ 5 := by omega
  have n13 : n ≠ 13 := by omega
  have d1 : decide (n ≤ 6) = false := by simp; omega
  have d2 : decide (4 ≤ n) = true := by simp; omega
  have d3 : decide (n ≤ 4) = false := by simp; omega
  have d4 : decide (2 ≤ n) = true := by simp; omega
  have H := Lib.hid (And.intro r46 (And.intro r24 (And.intro n5 n13)))
  clear _h r46 r24 n5 n13
  go_enter Try.func4, Try.ntmps4
  go_wp2_with fail
  refine (squares_bad _ _ H.out.2.2.1 H.out.2.2.2).mono ?_
  rintro e w1 ⟨rfl, hb1⟩
  go_wp2_with fail
  refine (pairs_bad _ _ H.out.1).mono ?_
  rintro e w2 ⟨rfl, hb2⟩
  go_wp2_with fail
  refine (grid_bad _ _ H.out.2.1).mono ?_
  rintro e w3 ⟨rfl, hb3⟩
  have hB3 := btr (btr hb1 hb2) hb3
  have hC := Below.refl w3.heap.size w3
  clear hb1
  clear hb2
  clear hb3
  go_wp2_with fail
  refine (awake_go _).mono ?_
  rintro e z1 ⟨rfl, hb⟩
  replace hC := btr hC hb
  go_wp2
  go_ret
  exact ⟨rfl, btr hB3 hC⟩

theorem fam_walk (w : World) (n : Int) :
    Calls Try.prog 4 #[.int .i64 n] w fun e w' => e = .returned (.bool true) ∧ Below w.heap.size w w' := by
  by_cases h2 : n = 2
  · subst h2; exact fam_2 w
  by_cases h3 : n = 3
  · subst h3; exact fam_3 w
  by_cases h4 : n = 4
  · subst h4; exact fam_4 w
  by_cases h5 : n = 5
  · subst h5; exact fam_5 w
  by_cases h6 : n = 6
  · subst h6; exact fam_6 w
  by_cases h13 : n = 13
  · subst h13; exact fam_13 w
  by_cases hlo : n < 2
  · exact fam_otherlo w n ⟨h2, h3, h4, h5, h6, h13⟩ hlo
  · exact fam_otherhi w n ⟨h2, h3, h4, h5, h6, h13⟩ (by omega)
end Go.Proofs.Ytijnpcehjnaaiaa
