/- TopFano's walk. -/
import Derived.Test.YtiapngmallfelaaFnk
namespace Go.Proofs.Ytiapngmallfelaa
open Go.RowKit
open Go.Maps
set_option linter.unusedSimpArgs false

def P0 : List Nat := [0, 1, 2, 3, 4, 5, 6]
def T0 : List Nat := [0, 1, 2, 3, 4, 5, 6]
theorem lin0 : ∀ j, j < 7 → LinB T0 (gn S0 j) := fun j hj =>
  match j, hj with
  | 0, _ => ⟨1, 3, 5, 0, by decide, by decide, by decide, by decide, by decide, by unfold In3; decide, by decide⟩
  | 1, _ => ⟨0, 3, 4, 1, by decide, by decide, by decide, by decide, by decide, by unfold In3; decide, by decide⟩
  | 2, _ => ⟨2, 3, 6, 2, by decide, by decide, by decide, by decide, by decide, by unfold In3; decide, by decide⟩
  | 3, _ => ⟨0, 1, 2, 3, by decide, by decide, by decide, by decide, by decide, by unfold In3; decide, by decide⟩
  | 4, _ => ⟨1, 4, 6, 4, by decide, by decide, by decide, by decide, by decide, by unfold In3; decide, by decide⟩
  | 5, _ => ⟨0, 5, 6, 5, by decide, by decide, by decide, by decide, by decide, by unfold In3; decide, by decide⟩
  | 6, _ => ⟨2, 4, 5, 6, by decide, by decide, by decide, by decide, by decide, by unfold In3; decide, by decide⟩
theorem toP0 : (∀ k, k < 7 → gn P0 k < 7 ∧ nth (toL P0 k) (gn P0 k) = -1) ∧ (∀ x, x < 7 → nth (toL P0 7) x = ((gn T0 x : Nat) : Int)) := by decide
theorem tlt0 : ∀ x, gn T0 x < 7 := gn_lt (by decide) (by omega)
theorem slt0 : ∀ x, gn S0 x < 128 := gn_lt (by decide) (by omega)
theorem thr0a : ThirdB S0 0 1 2 3 := ⟨by decide, by decide, by decide, by decide, by decide, by decide⟩
theorem thr0b : ThirdB S0 0 3 4 1 := ⟨by decide, by decide, by decide, by decide, by decide, by decide⟩
theorem thr0c : ThirdB S0 1 3 5 0 := ⟨by decide, by decide, by decide, by decide, by decide, by decide⟩
theorem thr0d : ThirdB S0 2 3 6 2 := ⟨by decide, by decide, by decide, by decide, by decide, by decide⟩
def P1 : List Nat := [0, 1, 5, 2, 3, 6, 4]
def T1 : List Nat := [0, 1, 3, 4, 6, 2, 5]
theorem lin1 : ∀ j, j < 7 → LinB T1 (gn S1 j) := fun j hj =>
  match j, hj with
  | 0, _ => ⟨4, 2, 5, 6, by decide, by decide, by decide, by decide, by decide, by unfold In3; decide, by decide⟩
  | 1, _ => ⟨0, 6, 5, 5, by decide, by decide, by decide, by decide, by decide, by unfold In3; decide, by decide⟩
  | 2, _ => ⟨0, 1, 2, 3, by decide, by decide, by decide, by decide, by decide, by unfold In3; decide, by decide⟩
  | 3, _ => ⟨1, 3, 5, 0, by decide, by decide, by decide, by decide, by decide, by unfold In3; decide, by decide⟩
  | 4, _ => ⟨0, 3, 4, 1, by decide, by decide, by decide, by decide, by decide, by unfold In3; decide, by decide⟩
  | 5, _ => ⟨1, 4, 6, 4, by decide, by decide, by decide, by decide, by decide, by unfold In3; decide, by decide⟩
  | 6, _ => ⟨3, 6, 2, 2, by decide, by decide, by decide, by decide, by decide, by unfold In3; decide, by decide⟩
theorem toP1 : (∀ k, k < 7 → gn P1 k < 7 ∧ nth (toL P1 k) (gn P1 k) = -1) ∧ (∀ x, x < 7 → nth (toL P1 7) x = ((gn T1 x : Nat) : Int)) := by decide
theorem tlt1 : ∀ x, gn T1 x < 7 := gn_lt (by decide) (by omega)
theorem slt1 : ∀ x, gn S1 x < 128 := gn_lt (by decide) (by omega)
theorem thr1a : ThirdB S1 0 1 5 2 := ⟨by decide, by decide, by decide, by decide, by decide, by decide⟩
theorem thr1b : ThirdB S1 0 2 3 4 := ⟨by decide, by decide, by decide, by decide, by decide, by decide⟩
theorem thr1c : ThirdB S1 1 2 6 3 := ⟨by decide, by decide, by decide, by decide, by decide, by decide⟩
theorem thr1d : ThirdB S1 5 2 4 6 := ⟨by decide, by decide, by decide, by decide, by decide, by decide⟩
theorem cf_third (args : Array Value) (w : World) : (callFunc 18 args).run Try.prog w = .ok (.enter 18 args) w := by kernel_rfl
theorem hcell {w w' : World} {b : Nat} (h : w'.heap[b]? = w.heap[b]?) (o : Nat) : w'.cell? ⟨b, o, none⟩ = w.cell? ⟨b, o, none⟩ := by
  unfold World.cell?
  simp only [h]
theorem sl7 (w : World) (a b c d e f g : Nat) : ∀ k, k < 7 → (w.alloc (.cells #[.int .i64 a, .int .i64 b, .int .i64 c, .int .i64 d, .int .i64 e, .int .i64 f, .int .i64 g] 3)).cell? ⟨w.heap.size, k, none⟩ = some (.int .i64 ((gn [a, b, c, d, e, f, g] k : Nat) : Int)) := fun k hk => by
  have h := new_at w (.cells #[.int .i64 a, .int .i64 b, .int .i64 c, .int .i64 d, .int .i64 e, .int .i64 f, .int .i64 g] 3)
  match k, hk with
  | 0, _ => exact cell_of h 0 rfl
  | 1, _ => exact cell_of h 1 rfl
  | 2, _ => exact cell_of h 2 rfl
  | 3, _ => exact cell_of h 3 rfl
  | 4, _ => exact cell_of h 4 rfl
  | 5, _ => exact cell_of h 5 rfl
  | 6, _ => exact cell_of h 6 rfl
set_option maxRecDepth 100000 in
set_option maxHeartbeats 8000000 in
theorem lfano_walk (w : World) (rows : Int) (cols : Int) (kind : Bool) :
    Calls Try.prog 5 #[.int .i64 rows, .int .i64 cols, .bool kind] w fun e w' => e = .returned (.bool true) ∧ Below w.heap.size w w' := by
  have hcf := cf_third
  have hmf : ∀ (fn : Fn) (first cap : Array Value) (w : World), (Instr.makeFunc fn first cap).run Try.prog w = .ok (.func fn first cap) w := fun _ _ _ _ => rfl
  cases kind with
  | false =>
    go_enter Try.func5, Try.ntmps5
    go_wp2_with fail
    refine (double3_go w).mono ?_
    rintro e w1 ⟨a1, n1, c1, rfl, ho1, hb1⟩
    have hn8 : n1 = 8 := by have := (own_sl ho1).len; rw [ints_length] at this; rw [← this]; decide
    subst hn8
    have HOW := Lib.hid ho1
    have HBW := Lib.hid hb1
    obtain ⟨g, rfl, hg1, hg2, hg3, hg4, _, _, _⟩ := own_cells HOW.out (by omega)
    obtain ⟨c, hc, hcc⟩ := and255 cols
    clear hg1 hg2
    go_wp2
    refine wp_onExit (k := 0) (fn_turn w w1 g c1 c rows cols (mdL 8 dblN) S0 mat0 hc hcc ⟨hg3, hg4⟩ HOW.out HBW.out _ _ _ _ _ _ _ _ _ _ _ _ _ _ _ _ _ _ _ _ _ _ _ _ _ _ _ _ _ _ _ _ _ _ _ _ _ _ _ _ _ _ _ _ _ _ _ _ _ _ _ _ _ _ _ _ _ _ _ _ _ _ _ _ _ _ _ _ _ _ _ _ _ _ _ _ _ _ _ _ _ _ _ _ _ _ _ _ _ _ _ _ _ _ _ _ _ _ _ _ _ _ _ _ _ _ _ _ _ _ _ _ _ _ _ _ _ _ _ _ _ _ _ _ _ _ _ _ _ _ _ _ _ _ _ _ _ _ _ _ _ _ _ _ _ _ _ _ _ _ _ _ _ _ _ _ _ _ _ _ _ _ _ _ _ _ _ _ _ _ _ _ _ _ ?_)
    intro v9 v45 v46 v47 v48 v49 v50 v51 v52 v53 v54 v55 v56 v57 v58 v59 v60 v61 v62 v63 v64 v65 v66 v67 w3 hown3 hb3
    obtain ⟨ht1, ht2, ht3⟩ := MatB.trn mat0 hc (rbB rows)
    have HB3 := Lib.hid hb3
    have HD := Lib.hid (design_go w3 (some ⟨g, 0, none⟩) c1 _ (own_sl hown3) ht1 ht2)
    rw [ht3] at HD
    clear hown3 hb3 ht1 ht2 ht3
    go_wp2_with fail
    refine HD.out.mono ?_
    rintro e w4 ⟨a4, n4, c4, rfl, ho4, hb4⟩
    have hn7 : n4 = 7 := by have := (own_sl ho4).len; rw [ints_length] at this; rw [← this]; rfl
    subst hn7
    have HB4 := Lib.hid (btr HB3.out hb4)
    have HS4 := Lib.hid ((own_sl ho4).mono (bal (Below.refl _ _) (.cells #[.slice a4 7 c4] 22)))
    have HBX := Lib.hid (new_at w4 (.cells #[.slice a4 7 c4] 22))
    have HB5 := Lib.hid (bal HB4.out (.cells #[.slice a4 7 c4] 22))
    clear ho4 hb4
    have e10 := one_atB HBX.out
    have z10 := lt_of_block HBX.out
    obtain ⟨qb, hqb⟩ : ∃ q, w4.heap.size = q := ⟨_, rfl⟩
    obtain ⟨V, hV⟩ : ∃ V, w4.alloc (.cells #[.slice a4 7 c4] 22) = V := ⟨_, rfl⟩
    have HV := Lib.hid hV
    have HQB := Lib.hid hqb
    rw [hV, hqb] at HBX
    rw [hV] at HS4 HB5
    clear hV hqb
    have HTH := Lib.hid (fun (w' : World) (hb : Below V.heap.size V w') (x y z t : Nat) (hT : ThirdB S0 x y z t) => third_go w' qb a4 c4 S0 (persist HBX.out hb) (HS4.out.mono hb) slt0 x y z t hT)
    go_wp2_with fail
    rw [HV.out, HQB.out]
    clear e10 z10
    refine (HTH.out V (Below.refl _ _) 0 1 2 3 thr0a).mono ?_
    rintro e w5 ⟨rfl, hb5⟩
    have HV5 := Lib.hid hb5
    clear hb5
    go_wp2_with fail
    obtain ⟨V2, hV2⟩ : ∃ V2, w5.alloc (.cells #[.int .i64 (-1), .int .i64 (-1), .int .i64 (-1), .int .i64 (-1), .int .i64 (-1), .int .i64 (-1), .int .i64 (-1)] 45) = V2 := ⟨_, rfl⟩
    have HTB := Lib.hid (new_at w5 (.cells #[.int .i64 (-1), .int .i64 (-1), .int .i64 (-1), .int .i64 (-1), .int .i64 (-1), .int .i64 (-1), .int .i64 (-1)] 45))
    have HV6 := Lib.hid (bal HV5.out (.cells #[.int .i64 (-1), .int .i64 (-1), .int .i64 (-1), .int .i64 (-1), .int .i64 (-1), .int .i64 (-1), .int .i64 (-1)] 45))
    rw [hV2] at HTB HV6 ⊢
    clear hV2
    refine (HTH.out V2 HV6.out 0 3 4 1 thr0b).mono ?_
    rintro e w6 ⟨rfl, hb⟩
    have HT6 := Lib.hid (persist HTB.out hb)
    have HV7 := Lib.hid (btr HV6.out hb)
    clear hb
    go_wp2_with fail
    refine (HTH.out w6 HV7.out 1 3 5 0 thr0c).mono ?_
    rintro e w7 ⟨rfl, hb⟩
    have HT7 := Lib.hid (persist HT6.out hb)
    have HV8 := Lib.hid (btr HV7.out hb)
    clear hb
    go_wp2_with fail
    refine (HTH.out w7 HV8.out 2 3 6 2 thr0d).mono ?_
    rintro e w8 ⟨rfl, hb⟩
    have HT8 := Lib.hid (persist (persist HT7.out hb) (bal (Below.refl _ _) (.cells #[.int .i64 0, .int .i64 1, .int .i64 2, .int .i64 3, .int .i64 4, .int .i64 5, .int .i64 6] 3)))
    have HV9 := Lib.hid (btr HV8.out hb)
    have HV10 := Lib.hid (bal HV9.out (.cells #[.int .i64 0, .int .i64 1, .int .i64 2, .int .i64 3, .int .i64 4, .int .i64 5, .int .i64 6] 3))
    have HEL := Lib.hid (sl7 w8 0 1 2 3 4 5 6)
    have hz8 : w5.heap.size < w8.heap.size := lt_of_block (persist HT7.out hb)
    have hz5 : w.heap.size ≤ w5.heap.size := Nat.le_trans HB5.out.size HV5.out.size
    have hzw : w8.heap.size < (w8.alloc (.cells #[.int .i64 0, .int .i64 1, .int .i64 2, .int .i64 3, .int .i64 4, .int .i64 5, .int .i64 6] 3)).heap.size := by simp
    clear hb
    go_wp2
    generalize hW : w8.alloc (.cells #[.int .i64 0, .int .i64 1, .int .i64 2, .int .i64 3, .int .i64 4, .int .i64 5, .int .i64 6] 3) = V3 at *
    clear hW
    refine wp_onExit (k := 2) (fn_to w V3 w5.heap.size w8.heap.size P0 toP0.1 hz5 HT8.out (by omega) HEL.out hzw (btr HB5.out HV10.out) _ _ _ _ _ _ _ _ _ _ _ _ _ _ _ _ _ _ _ _ _ _ _ _ _ _ _ _ _ _ _ _ _ _ _ _ _ _ _ _ _ _ _ _ _ _ _ _ _ _ _ _ _ _ _ _ _ _ _ _ _ _ _ _ _ _ _ _ _ _ _ _ _ _ _ _ _ _ _ _ _ _ _ _ _ _ _ _ _ _ _ _ _ _ _ _ _ _ _ _ _ _ _ _ _ _ _ _ _ _ _ _ _ _ _ _ _ _ _ _ _ _ _ _ _ _ _ _ _ _ _ _ _ _ _ _ _ _ _ _ _ _ _ _ _ _ _ _ _ _ _ _ _ _ _ _ _ _ _ _ _ _ _ _ _ _ _ _ _ _ _ _ _ _ _ _ ?_)
    intro v6 v17 v18 v108 v109 v110 v111 v112 v113 v114 v115 v116 v117 v118 v119 v120 v121 v122 v123 v124 w9 htb hk9 hs9 hb9
    have HT9 := Lib.hid htb
    have HB9 := Lib.hid hb9
    have HZ := Lib.hid (persist HBX.out HV10.out)
    have hqV : qb < V.heap.size := lt_of_block HBX.out
    have hV5 : V.heap.size ≤ w5.heap.size := HV5.out.size
    have e11 : w9.cell? ⟨qb, 0, none⟩ = some (.slice a4 7 c4) := (hcell (hk9 qb (by omega) (lt_of_block HZ.out)) 0).trans (one_atB HZ.out)
    have z11 : qb < w9.heap.size := Nat.lt_of_lt_of_le (lt_of_block HZ.out) hs9
    obtain ⟨sb, so, rfl, hsb, hsc, hscap⟩ := sl_at (HS4.out) (by omega)
    have HSC := Lib.hid (show ∀ j, j < 7 → w9.cell? ⟨sb, so + j, none⟩ = some (.int .i64 ((gn S0 j : Nat) : Int)) from fun j hj => by
      have h1 := hsc j hj
      rw [nth_ints] at h1
      rw [hcell (hk9 sb (by omega) (Nat.lt_of_lt_of_le hsb HV10.out.size)), HV10.out.cell (p := ⟨sb, so + j, none⟩) hsb]
      exact h1)
    have hsb9 : sb < w9.heap.size := Nat.lt_of_lt_of_le (Nat.lt_of_lt_of_le hsb HV10.out.size) hs9
    clear htb hk9 hs9 hb9 hsc
    go_wp2
    refine wp_onExit (k := 4) (fn_lines w w9 w5.heap.size sb so c4 P0 T0 S0 HT9.out toP0.2 tlt0 slt0 lin0 HSC.out hsb9 hscap HB9.out _ _ _ _ _ _ _ _ _ _ _ _ _ _ _ _ _ _ _ _ _ _ _ _ _ _ _ _ _ _ _ _ _ _ _ _ _ _ _ _ _ _ _ _ _ _ _ _ _ _ _ _ _ _ _ _ _ _ _ _ _ _ _ _ _ _ _ _ _ _ _ _ _ _ _ _ _ _ _ _ _ _ _ _ _ _ _ _ _ _ _ _ _ _ _ _ _ _ _ _ _ _ _ _ _ _ _ _ _ _ _ _ _ _ _ _ _ _ _ _ _ _ _ _ _ _ _ _ _ _ _ _ _ _ _ _ _ _ _ _ _ _ _ _ _ _ _ _ _ _ _ _ _ _ _ _ _ _ _ _ _ _ _ _ _ _ _ _ _ _ _ _ _ _ _ _ ?_)
    intro v6 v20 v21 v22 v23 v24 v25 v26 v127 v128 v129 v130 v131 v132 v133 v134 v135 v136 v137 v138 v139 v140 v141 v142 v143 v144 v145 v146 v147 v148 v149 v150 v151 v152 v153 v154 v155 v156 v157 v158 v159 v160 v161 v162 v163 v164 v165 v166 v167 v168 v169 v170 v171 v172 v173 v174 v175 v176 v177 w10 hb10
    have HB10 := Lib.hid hb10
    clear hb10
    go_wp2_with fail
    refine (plants_go _).mono ?_
    rintro e w11 ⟨rfl, hb⟩
    go_wp2
    go_ret
    exact ⟨rfl, btr HB10.out hb⟩
  | true =>
    go_enter Try.func5, Try.ntmps5
    go_wp2_with fail
    refine (double3_go w).mono ?_
    rintro e w1 ⟨a1, n1, c1, rfl, ho1, hb1⟩
    have HB1 := Lib.hid hb1
    clear ho1 hb1
    go_wp2_with fail
    refine (squares7_go w1).mono ?_
    rintro e w2 ⟨a2, n2, c2, rfl, ho2, hb2⟩
    have hn8 : n2 = 8 := by have := (own_sl ho2).len; rw [ints_length] at this; rw [← this]; decide
    subst hn8
    have HOW := Lib.hid (own_base ho2 HB1.out.size)
    have HBW := Lib.hid (btr HB1.out hb2)
    clear ho2 hb2
    obtain ⟨g, rfl, hg1, hg2, hg3, hg4, _, _, _⟩ := own_cells HOW.out (by omega)
    obtain ⟨c, hc, hcc⟩ := and255 cols
    clear hg1 hg2
    go_wp2
    refine wp_onExit (k := 0) (fn_turn w w2 g c2 c rows cols (mdL 8 nearS) S1 mat1 hc hcc ⟨hg3, hg4⟩ HOW.out HBW.out _ _ _ _ _ _ _ _ _ _ _ _ _ _ _ _ _ _ _ _ _ _ _ _ _ _ _ _ _ _ _ _ _ _ _ _ _ _ _ _ _ _ _ _ _ _ _ _ _ _ _ _ _ _ _ _ _ _ _ _ _ _ _ _ _ _ _ _ _ _ _ _ _ _ _ _ _ _ _ _ _ _ _ _ _ _ _ _ _ _ _ _ _ _ _ _ _ _ _ _ _ _ _ _ _ _ _ _ _ _ _ _ _ _ _ _ _ _ _ _ _ _ _ _ _ _ _ _ _ _ _ _ _ _ _ _ _ _ _ _ _ _ _ _ _ _ _ _ _ _ _ _ _ _ _ _ _ _ _ _ _ _ _ _ _ _ _ _ _ _ _ _ _ _ ?_)
    intro v9 v45 v46 v47 v48 v49 v50 v51 v52 v53 v54 v55 v56 v57 v58 v59 v60 v61 v62 v63 v64 v65 v66 v67 w3 hown3 hb3
    obtain ⟨ht1, ht2, ht3⟩ := MatB.trn mat1 hc (rbB rows)
    have HB3 := Lib.hid hb3
    have HD := Lib.hid (design_go w3 (some ⟨g, 0, none⟩) c2 _ (own_sl hown3) ht1 ht2)
    rw [ht3] at HD
    clear hown3 hb3 ht1 ht2 ht3
    go_wp2_with fail
    refine HD.out.mono ?_
    rintro e w4 ⟨a4, n4, c4, rfl, ho4, hb4⟩
    have hn7 : n4 = 7 := by have := (own_sl ho4).len; rw [ints_length] at this; rw [← this]; rfl
    subst hn7
    have HB4 := Lib.hid (btr HB3.out hb4)
    have HS4 := Lib.hid ((own_sl ho4).mono (bal (Below.refl _ _) (.cells #[.slice a4 7 c4] 22)))
    have HBX := Lib.hid (new_at w4 (.cells #[.slice a4 7 c4] 22))
    have HB5 := Lib.hid (bal HB4.out (.cells #[.slice a4 7 c4] 22))
    clear ho4 hb4
    have e10 := one_atB HBX.out
    have z10 := lt_of_block HBX.out
    obtain ⟨qb, hqb⟩ : ∃ q, w4.heap.size = q := ⟨_, rfl⟩
    obtain ⟨V, hV⟩ : ∃ V, w4.alloc (.cells #[.slice a4 7 c4] 22) = V := ⟨_, rfl⟩
    have HV := Lib.hid hV
    have HQB := Lib.hid hqb
    rw [hV, hqb] at HBX
    rw [hV] at HS4 HB5
    clear hV hqb
    have HTH := Lib.hid (fun (w' : World) (hb : Below V.heap.size V w') (x y z t : Nat) (hT : ThirdB S1 x y z t) => third_go w' qb a4 c4 S1 (persist HBX.out hb) (HS4.out.mono hb) slt1 x y z t hT)
    go_wp2_with fail
    rw [HV.out, HQB.out]
    clear e10 z10
    refine (HTH.out V (Below.refl _ _) 0 1 5 2 thr1a).mono ?_
    rintro e w5 ⟨rfl, hb5⟩
    have HV5 := Lib.hid hb5
    clear hb5
    go_wp2_with fail
    obtain ⟨V2, hV2⟩ : ∃ V2, w5.alloc (.cells #[.int .i64 (-1), .int .i64 (-1), .int .i64 (-1), .int .i64 (-1), .int .i64 (-1), .int .i64 (-1), .int .i64 (-1)] 45) = V2 := ⟨_, rfl⟩
    have HTB := Lib.hid (new_at w5 (.cells #[.int .i64 (-1), .int .i64 (-1), .int .i64 (-1), .int .i64 (-1), .int .i64 (-1), .int .i64 (-1), .int .i64 (-1)] 45))
    have HV6 := Lib.hid (bal HV5.out (.cells #[.int .i64 (-1), .int .i64 (-1), .int .i64 (-1), .int .i64 (-1), .int .i64 (-1), .int .i64 (-1), .int .i64 (-1)] 45))
    rw [hV2] at HTB HV6 ⊢
    clear hV2
    refine (HTH.out V2 HV6.out 0 2 3 4 thr1b).mono ?_
    rintro e w6 ⟨rfl, hb⟩
    have HT6 := Lib.hid (persist HTB.out hb)
    have HV7 := Lib.hid (btr HV6.out hb)
    clear hb
    go_wp2_with fail
    refine (HTH.out w6 HV7.out 1 2 6 3 thr1c).mono ?_
    rintro e w7 ⟨rfl, hb⟩
    have HT7 := Lib.hid (persist HT6.out hb)
    have HV8 := Lib.hid (btr HV7.out hb)
    clear hb
    go_wp2_with fail
    refine (HTH.out w7 HV8.out 5 2 4 6 thr1d).mono ?_
    rintro e w8 ⟨rfl, hb⟩
    have HT8 := Lib.hid (persist (persist HT7.out hb) (bal (Below.refl _ _) (.cells #[.int .i64 0, .int .i64 1, .int .i64 5, .int .i64 2, .int .i64 3, .int .i64 6, .int .i64 4] 3)))
    have HV9 := Lib.hid (btr HV8.out hb)
    have HV10 := Lib.hid (bal HV9.out (.cells #[.int .i64 0, .int .i64 1, .int .i64 5, .int .i64 2, .int .i64 3, .int .i64 6, .int .i64 4] 3))
    have HEL := Lib.hid (sl7 w8 0 1 5 2 3 6 4)
    have hz8 : w5.heap.size < w8.heap.size := lt_of_block (persist HT7.out hb)
    have hz5 : w.heap.size ≤ w5.heap.size := Nat.le_trans HB5.out.size HV5.out.size
    have hzw : w8.heap.size < (w8.alloc (.cells #[.int .i64 0, .int .i64 1, .int .i64 5, .int .i64 2, .int .i64 3, .int .i64 6, .int .i64 4] 3)).heap.size := by simp
    clear hb
    go_wp2
    generalize hW : w8.alloc (.cells #[.int .i64 0, .int .i64 1, .int .i64 5, .int .i64 2, .int .i64 3, .int .i64 6, .int .i64 4] 3) = V3 at *
    clear hW
    refine wp_onExit (k := 2) (fn_to w V3 w5.heap.size w8.heap.size P1 toP1.1 hz5 HT8.out (by omega) HEL.out hzw (btr HB5.out HV10.out) _ _ _ _ _ _ _ _ _ _ _ _ _ _ _ _ _ _ _ _ _ _ _ _ _ _ _ _ _ _ _ _ _ _ _ _ _ _ _ _ _ _ _ _ _ _ _ _ _ _ _ _ _ _ _ _ _ _ _ _ _ _ _ _ _ _ _ _ _ _ _ _ _ _ _ _ _ _ _ _ _ _ _ _ _ _ _ _ _ _ _ _ _ _ _ _ _ _ _ _ _ _ _ _ _ _ _ _ _ _ _ _ _ _ _ _ _ _ _ _ _ _ _ _ _ _ _ _ _ _ _ _ _ _ _ _ _ _ _ _ _ _ _ _ _ _ _ _ _ _ _ _ _ _ _ _ _ _ _ _ _ _ _ _ _ _ _ _ _ _ _ _ _ _ _ _ ?_)
    intro v6 v17 v18 v108 v109 v110 v111 v112 v113 v114 v115 v116 v117 v118 v119 v120 v121 v122 v123 v124 w9 htb hk9 hs9 hb9
    have HT9 := Lib.hid htb
    have HB9 := Lib.hid hb9
    have HZ := Lib.hid (persist HBX.out HV10.out)
    have hqV : qb < V.heap.size := lt_of_block HBX.out
    have hV5 : V.heap.size ≤ w5.heap.size := HV5.out.size
    have e11 : w9.cell? ⟨qb, 0, none⟩ = some (.slice a4 7 c4) := (hcell (hk9 qb (by omega) (lt_of_block HZ.out)) 0).trans (one_atB HZ.out)
    have z11 : qb < w9.heap.size := Nat.lt_of_lt_of_le (lt_of_block HZ.out) hs9
    obtain ⟨sb, so, rfl, hsb, hsc, hscap⟩ := sl_at (HS4.out) (by omega)
    have HSC := Lib.hid (show ∀ j, j < 7 → w9.cell? ⟨sb, so + j, none⟩ = some (.int .i64 ((gn S1 j : Nat) : Int)) from fun j hj => by
      have h1 := hsc j hj
      rw [nth_ints] at h1
      rw [hcell (hk9 sb (by omega) (Nat.lt_of_lt_of_le hsb HV10.out.size)), HV10.out.cell (p := ⟨sb, so + j, none⟩) hsb]
      exact h1)
    have hsb9 : sb < w9.heap.size := Nat.lt_of_lt_of_le (Nat.lt_of_lt_of_le hsb HV10.out.size) hs9
    clear htb hk9 hs9 hb9 hsc
    go_wp2
    refine wp_onExit (k := 4) (fn_lines w w9 w5.heap.size sb so c4 P1 T1 S1 HT9.out toP1.2 tlt1 slt1 lin1 HSC.out hsb9 hscap HB9.out _ _ _ _ _ _ _ _ _ _ _ _ _ _ _ _ _ _ _ _ _ _ _ _ _ _ _ _ _ _ _ _ _ _ _ _ _ _ _ _ _ _ _ _ _ _ _ _ _ _ _ _ _ _ _ _ _ _ _ _ _ _ _ _ _ _ _ _ _ _ _ _ _ _ _ _ _ _ _ _ _ _ _ _ _ _ _ _ _ _ _ _ _ _ _ _ _ _ _ _ _ _ _ _ _ _ _ _ _ _ _ _ _ _ _ _ _ _ _ _ _ _ _ _ _ _ _ _ _ _ _ _ _ _ _ _ _ _ _ _ _ _ _ _ _ _ _ _ _ _ _ _ _ _ _ _ _ _ _ _ _ _ _ _ _ _ _ _ _ _ _ _ _ _ _ _ ?_)
    intro v6 v20 v21 v22 v23 v24 v25 v26 v127 v128 v129 v130 v131 v132 v133 v134 v135 v136 v137 v138 v139 v140 v141 v142 v143 v144 v145 v146 v147 v148 v149 v150 v151 v152 v153 v154 v155 v156 v157 v158 v159 v160 v161 v162 v163 v164 v165 v166 v167 v168 v169 v170 v171 v172 v173 v174 v175 v176 v177 w10 hb10
    have HB10 := Lib.hid hb10
    clear hb10
    go_wp2_with fail
    refine (plants_go _).mono ?_
    rintro e w11 ⟨rfl, hb⟩
    go_wp2
    go_ret
    exact ⟨rfl, btr HB10.out hb⟩
end Go.Proofs.Ytiapngmallfelaa
