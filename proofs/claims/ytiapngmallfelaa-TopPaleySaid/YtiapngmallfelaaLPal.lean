/- Walk: the statement TopPaley. -/
import Derived.Test.YtiapngmallfelaaPalJ
namespace Go.Proofs.Ytiapngmallfelaa
open Go.RowKit

theorem hJ_six (g : List Nat) (i : Nat) : hJ g i 6 (hI g i) = hI g (i + 1) := rfl
set_option maxRecDepth 100000 in
set_option maxHeartbeats 2000000 in
theorem pal_i (w : World) (g : List Nat) (b3 o3 c3x : Nat) (R : Act → World → Prop) (hgs : Hid (∀ i, gn g i < 65536)) (hc6 : 6 ≤ c3x)
    (HC : Hid (∀ i, i < 6 → w.cell? ⟨b3, o3 + i, none⟩ = some (.int .i64 (gn g i)))) (hb3 : b3 < w.heap.size)
    (W : World) (hown0 : W.ownsRow w.heap.size 3 1 (.slice (some ⟨w.heap.size, 0, none⟩) 12 12) 12 ((ints (hI g 0)).map (Value.int .i64))) (hB0 : Below w.heap.size w W)
    (c0 c1 c2 c4 c6 c7 c8 c9 c10 c11 c12 c13 c14 c15 c16 c17 c18 c19 c20 c21 c22 c23 c24 c25 c26 c27 c28 c29 c30 c31 c32 c33 c34 c35 c36 c37 c38 c39 c40 c41 c42 c43 c44 c46 c47 c48 c49 c50 c51 c52 c53 c54 c55 c56 c57 c58 c59 c60 c61 c62 c63 c64 c65 c66 c67 c68 c69 c70 c71 c72 c73 c74 c75 c76 c77 c78 c79 c80 c81 c82 c83 c84 c85 c86 c87 c88 c89 c90 c91 c92 c93 c94 c95 c96 c97 c98 c99 c100 c101 c102 c103 c104 c105 c106 c107 c108 c109 c110 c111 c112 c113 c114 c115 c116 c117 c118 c119 c120 c121 c122 c123 : Value)
    (hexit : ∀ (u6 u7 u8 u9 u10 u11 u45 u46 u47 u48 u49 u50 u51 u52 u53 u54 u55 u56 u57 u58 u59 u60 u61 u62 u63 u64 u65 u66 u67 u68 u69 u70 u71 u72 u73 u74 u75 u76 u77 u78 u79 u80 u81 u82 u83 u84 u85 u86 u87 u88 u89 u90 u91 u92 u93 u94 u95 : Value) (w' : World), w'.ownsRow w.heap.size 3 1 (.slice (some ⟨w.heap.size, 0, none⟩) 12 12) 12 ((ints (hI g 6)).map (Value.int .i64)) → Below w.heap.size w w' → R ⟨List.toArray (c0 :: c1 :: c2 :: .slice (some ⟨b3, o3, none⟩) 6 c3x :: c4 :: .slice (some ⟨w.heap.size, 0, none⟩) 12 12 :: u6 :: u7 :: u8 :: u9 :: u10 :: u11 :: c12 :: c13 :: c14 :: c15 :: c16 :: c17 :: c18 :: c19 :: c20 :: c21 :: c22 :: c23 :: c24 :: c25 :: c26 :: c27 :: c28 :: c29 :: c30 :: c31 :: c32 :: c33 :: c34 :: c35 :: c36 :: c37 :: c38 :: c39 :: c40 :: c41 :: c42 :: c43 :: c44 :: u45 :: u46 :: u47 :: u48 :: u49 :: u50 :: u51 :: u52 :: u53 :: u54 :: u55 :: u56 :: u57 :: u58 :: u59 :: u60 :: u61 :: u62 :: u63 :: u64 :: u65 :: u66 :: u67 :: u68 :: u69 :: u70 :: u71 :: u72 :: u73 :: u74 :: u75 :: u76 :: u77 :: u78 :: u79 :: u80 :: u81 :: u82 :: u83 :: u84 :: u85 :: u86 :: u87 :: u88 :: u89 :: u90 :: u91 :: u92 :: u93 :: u94 :: u95 :: c96 :: c97 :: c98 :: c99 :: c100 :: c101 :: c102 :: c103 :: c104 :: c105 :: c106 :: c107 :: c108 :: c109 :: c110 :: c111 :: c112 :: c113 :: c114 :: c115 :: c116 :: c117 :: c118 :: c119 :: c120 :: c121 :: c122 :: c123 :: []), []⟩ w') :
    Code.wp Try.prog (Code.loop (palBody 0)) (OnExit 0 R) ⟨List.toArray (c0 :: c1 :: c2 :: .slice (some ⟨b3, o3, none⟩) 6 c3x :: c4 :: .slice (some ⟨w.heap.size, 0, none⟩) 12 12 :: c6 :: c7 :: c8 :: c9 :: c10 :: c11 :: c12 :: c13 :: c14 :: c15 :: c16 :: c17 :: c18 :: c19 :: c20 :: c21 :: c22 :: c23 :: c24 :: c25 :: c26 :: c27 :: c28 :: c29 :: c30 :: c31 :: c32 :: c33 :: c34 :: c35 :: c36 :: c37 :: c38 :: c39 :: c40 :: c41 :: c42 :: c43 :: c44 :: .int .i64 0 :: c46 :: c47 :: c48 :: c49 :: c50 :: c51 :: c52 :: c53 :: c54 :: c55 :: c56 :: c57 :: c58 :: c59 :: c60 :: c61 :: c62 :: c63 :: c64 :: c65 :: c66 :: c67 :: c68 :: c69 :: c70 :: c71 :: c72 :: c73 :: c74 :: c75 :: c76 :: c77 :: c78 :: c79 :: c80 :: c81 :: c82 :: c83 :: c84 :: c85 :: c86 :: c87 :: c88 :: c89 :: c90 :: c91 :: c92 :: c93 :: c94 :: c95 :: c96 :: c97 :: c98 :: c99 :: c100 :: c101 :: c102 :: c103 :: c104 :: c105 :: c106 :: c107 :: c108 :: c109 :: c110 :: c111 :: c112 :: c113 :: c114 :: c115 :: c116 :: c117 :: c118 :: c119 :: c120 :: c121 :: c122 :: c123 :: []), []⟩ W := by
  conv => arg 2; arg 1; whnf
  go_loopw [45] (fun t wr => ∃ i : Nat, i ≤ 6 ∧ t = .int .i64 i ∧ wr.ownsRow w.heap.size 3 1 (.slice (some ⟨w.heap.size, 0, none⟩) 12 12) 12 ((ints (hI g i)).map (Value.int .i64)) ∧ Below w.heap.size w wr) (fun t _ => 6 - (intOf t).toNat)
  case atStart => exact ⟨0, by omega, rfl, hown0, hB0⟩
  case round =>
    clear hown0 hB0
    obtain ⟨i, hi6, rfl, hown, hB⟩ := hrel
    by_cases hli : i < 6
    · go_wp2
      refine wp_onExit (k := 2) (pal_j w g (hI g i) i b3 o3 c3x _ hli (hgs.out i) hc6 (Lib.hid (HC.out i hli)) hb3 (Lib.hid (hI_len g i)) (Lib.hid (hI_small g i)) _ hown hB _ _ _ _ _ _ _ _ _ _ _ _ _ _ _ _ _ _ _ _ _ _ _ _ _ _ _ _ _ _ _ _ _ _ _ _ _ _ _ _ _ _ _ _ _ _ _ _ _ _ _ _ _ _ _ _ _ _ _ _ _ _ _ _ _ _ _ _ _ _ _ _ _ _ _ _ _ _ _ _ _ _ _ _ _ _ _ _ _ _ _ _ _ _ _ _ _ _ _ _ _ _ _ _ _ _ _ _ _ _ _ _ _ _ _ _ _ _ _ _ ?_)
      intro v7 v8 v9 v10 v11 v48 v49 v50 v51 v52 v53 v54 v55 v56 v57 v58 v59 v60 v61 v62 v63 v64 v65 v66 v67 v68 v69 v70 v71 v72 v73 v74 v75 v76 v77 v78 v79 v80 v81 v82 v83 v84 v85 v86 v87 v88 v89 v90 v91 v92 v93 v94 w5 hown5 hB5
      rw [hJ_six] at hown5
      clear hown hB
      go_wp2
      go_roundw
      case rel => go_light; exact ⟨i + 1, by omega, by go_num, hown5, hB5⟩
      case measure => go_light; simp [intOf]; omega
    · obtain rfl : i = 6 := by omega
      go_wp2
      exact ⟨rfl, hexit _ _ _ _ _ _ _ _ _ _ _ _ _ _ _ _ _ _ _ _ _ _ _ _ _ _ _ _ _ _ _ _ _ _ _ _ _ _ _ _ _ _ _ _ _ _ _ _ _ _ _ _ _ _ _ _ _ _ hown hB⟩
theorem pal_small_all : ((List.range 64).all fun s => (palG s).all fun x => decide (x < 65536)) = true := by decide +kernel
theorem pal_small {s : Nat} (h : s < 64) : ∀ i, gn (palG s) i < 65536 := by
  have h1 := pal_small_all
  rw [List.all_eq_true] at h1
  have h2 := h1 s (List.mem_range.2 h)
  rw [List.all_eq_true] at h2
  exact gn_lt (fun x hx => by simpa using h2 x hx) (by omega)
theorem pal_parts {s : Nat} (h : palB s = true) : (palG s).length = 6 ∧ (∀ i j, i < 12 → j < i → 2 * pop (gn (hI (palG s) 6) i ^^^ gn (hI (palG s) 6) j) = 12) ∧ (elTo 12 (hI (palG s) 6) 11).ok = true ∧
    ∃ d : Int, (elTo 12 (hI (palG s) 6) 11).sign * ent (elTo 12 (hI (palG s) 6) 11).M 11 11 = d ∧ d * d = 8916100448256 := by
  unfold palB at h
  simp only [Bool.and_eq_true, beq_iff_eq, Bool.or_eq_true, decide_eq_true_eq] at h
  obtain ⟨⟨⟨⟨⟨⟨h1, h2⟩, h3⟩, h4⟩, h5⟩, h6⟩, h7⟩ := h
  refine ⟨h7, fun i j hi hj => ?_, h4, _, rfl, ?_⟩
  · unfold balB at h3
    rw [h1, List.all_eq_true] at h3
    have h8 := h3 i (List.mem_range.2 hi)
    rw [List.all_eq_true] at h8
    simpa using h8 j (List.mem_range.2 hj)
  · rcases h6 with h6 | h6 <;> rw [h6]
    · rw [Int.one_mul]; exact h5
    · rw [Int.neg_mul, Int.one_mul, Int.neg_mul_neg]; exact h5
theorem gr6 : grB (squaresL 5 ++ [0]) = true := by decide +kernel
theorem set_nat (set : Int) : ∃ s : Nat, s < 64 ∧ wrap64 ((IntKind.u64.wrap set).tmod 64) = (s : Int) := by
  have h0 : 0 ≤ IntKind.u64.wrap set := by
    have e : IntKind.u64.wrap set = set % 18446744073709551616 := by simp [IntKind.wrap, IntKind.bits, IntKind.signed]
    omega
  have h1 : (IntKind.u64.wrap set).tmod 64 = IntKind.u64.wrap set % 64 := Int.tmod_eq_emod_of_nonneg h0
  refine ⟨(IntKind.u64.wrap set % 64).toNat, by omega, ?_⟩
  rw [h1, IntWalk.wrap64_in _ (by constructor <;> omega)]
  omega
set_option maxRecDepth 100000 in
set_option maxHeartbeats 2000000 in
theorem lpal_walk (w : World) (set : Int) :
    Calls Try.prog 4 #[.int .i64 set] w fun e w' => e = .returned (.bool true) ∧ Below w.heap.size w w' := by
  obtain ⟨i0, hi, hz0, hz1, hz2⟩ := info_parts infoInt
  go_enter Try.func4, Try.ntmps4
  go_wp2_with fail
  refine (squares_go _ 5 (by omega)).mono ?_
  rintro e w1 ⟨a1, n1, c1, rfl, ho1, hb1⟩
  obtain rfl : n1 = 5 := by have := (own_sl ho1).len; rw [ints_length] at this; exact this.symm
  go_wp2_with (at_builtin; refine wpList_append_own _ rfl _ _ 22 rfl w.heap.size 3 i0 (.int .i64 0) 1 8 Try.underlying22 hi hz0 hz1 hz2 rfl (by decide) (.slice a1 5 c1) 5 _ rfl (ho1.alloc _) ⟨w1.heap.size, 0, none⟩ 1 1 [.int .i64 0] rfl rfl ?c1 ?c2 ?c3 ?c4 ?c5 ?_)
  case c1 =>
    intro z u hz
    have hz1 : z < 1 := by
      by_cases q : z < 1
      · exact q
      · rw [List.getElem?_eq_none (by simp; omega)] at hz; exact absurd hz (by simp)
    obtain rfl : z = 0 := by omega
    rw [← hz]; show World.cell? _ ⟨_, 0 + 0, none⟩ = _; rw [cells_at (new_at _ _)]; rfl
  case c2 => intro u hu; simp at hu; subst hu; rfl
  case c3 => unfold maxLen; omega
  case c4 => omega
  case c5 => have := hb1.size; simp; omega
  intro v' wn hown' hgrow _
  have hBn := own_grown ho1 hb1 _ hgrow
  obtain ⟨a2, c2, rfl⟩ := own_form hown'
  have hs2 : Sl wn a2 6 c2 (ints (squaresL 5 ++ [0])) := own_sl (by simpa [ints] using hown')
  clear ho1 hb1 hown' hgrow
  obtain ⟨s, hs64, hsw⟩ := set_nat set
  have HSW := Lib.hid hsw
  go_wp2_with fail
  rw [HSW.out]
  refine (switch_go _ a2 6 c2 (squaresL 5 ++ [0]) s hs2 (grB_gr gr6) (by omega)).mono ?_
  rintro e w3 ⟨a3, n3, c3, rfl, ho3, hb3⟩
  have hB3 := btr hBn hb3
  have hs3 := own_sl ho3
  have hpal := pal_of hs64
  rw [show swL (squaresL 5 ++ [0]) s = palG s from rfl] at hs3
  have hsmall := pal_small hs64
  obtain ⟨hlen6, hbal, hok, d, hd, hdd⟩ := pal_parts hpal
  obtain rfl : n3 = 6 := by
    have e1 := hs3.len
    rw [ints_length] at e1
    omega
  rcases hs3.parts with ⟨_, h0, _⟩ | ⟨b3, o3, rfl, hs4⟩
  · omega
  obtain ⟨hbz, hcell⟩ := hs4.icells (by omega)
  have HC := Lib.hid hcell
  have hnp : 6 ≤ c3 := hs4.2.1
  have hpl : c3 ≤ maxLen := hs4.2.2.1
  have HBAL := Lib.hid hbal
  have HOK := Lib.hid hok
  have HD := Lib.hid hd
  have HDD := Lib.hid hdd
  have hgs := Lib.hid hsmall
  clear hs2 hBn ho3 hb3 hs3 hs4 hcell hpal hsw hbal hok hd hdd hsmall hlen6
  generalize palG s = g at *
  go_wp2_with (refine wpList_make_full w3 rfl _ _ 22 rfl w3.heap.size 3 i0 (.int .i64 0) 1 Try.underlying22 hi hz0 hz1 .i64 .i64 12 12 12 rfl rfl rfl rfl (by rw [hz2]; omega) (by unfold maxLen; omega) (Nat.le_refl _) ?_; intro w4 hown4 hgrow4)
  have hB4 : Below w3.heap.size w3 w4 := (Below.refl _ _).grown hgrow4 (Nat.le_refl _) (fun _ h => by cases h)
  rw [show (Value.int .i64 0).cells = #[Value.int .i64 0] from rfl, toList_madeCells_one, Nat.mul_one] at hown4
  have hown : w4.ownsRow w3.heap.size 3 1 (.slice (some ⟨w3.heap.size, 0, none⟩) 12 12) 12 ((ints (hI g 0)).map (Value.int .i64)) := by
    simpa [ints, hI] using hown4
  clear hown4 hgrow4
  refine wp_onExit (k := 0) (pal_i w3 g b3 o3 c3 _ hgs hnp HC hbz _ hown hB4 _ _ _ _ _ _ _ _ _ _ _ _ _ _ _ _ _ _ _ _ _ _ _ _ _ _ _ _ _ _ _ _ _ _ _ _ _ _ _ _ _ _ _ _ _ _ _ _ _ _ _ _ _ _ _ _ _ _ _ _ _ _ _ _ _ _ _ _ _ _ _ _ _ _ _ _ _ _ _ _ _ _ _ _ _ _ _ _ _ _ _ _ _ _ _ _ _ _ _ _ _ _ _ _ _ _ _ _ _ _ _ _ _ _ _ _ _ _ _ _ _ ?_)
  intro v6 v7 v8 v9 v10 v11 v45 v46 v47 v48 v49 v50 v51 v52 v53 v54 v55 v56 v57 v58 v59 v60 v61 v62 v63 v64 v65 v66 v67 v68 v69 v70 v71 v72 v73 v74 v75 v76 v77 v78 v79 v80 v81 v82 v83 v84 v85 v86 v87 v88 v89 v90 v91 v92 v93 v94 v95 w5 hown5 hB5
  clear hown hB4
  have hsl := own_sl hown5
  have hG : ∀ i, i < 12 → gn (hI g 6) i < 2 ^ 12 := fun i _ => gn_lt (hI_small g 6) (by omega) i
  have h16 : ∀ x ∈ hI g 6, x < 65536 := fun x hx => by have := hI_small g 6 x hx; omega
  have HSL := Lib.hid hsl
  have HG := Lib.hid hG
  have H16 := Lib.hid h16
  clear hsl hG h16 hown5
  go_wp2_with fail
  refine (Balanced_go _ _ 12 12 (hI g 6) HSL.out (by omega) (by omega) H16.out HG.out HBAL.out).mono ?_
  rintro e w6 ⟨rfl, hb6⟩
  go_wp2_with fail
  refine (Det_go _ _ 12 12 (hI g 6) (HSL.out.mono hb6) (by omega) (by omega) H16.out HG.out HOK.out).mono ?_
  rintro e w7 ⟨rfl, hb7⟩
  rw [HD.out]
  have hdl : -3000000 ≤ d ∧ d ≤ 3000000 := by
    have h := HDD.out
    constructor
    · refine Int.not_lt.1 fun q => ?_
      have := Int.mul_le_mul (show (3000000 : Int) ≤ -d by omega) (show (3000000 : Int) ≤ -d by omega) (by omega) (by omega)
      rw [Int.neg_mul_neg] at this; omega
    · refine Int.not_lt.1 fun q => ?_
      have := Int.mul_le_mul (show (3000000 : Int) ≤ d by omega) (show (3000000 : Int) ≤ d by omega) (by omega) (by omega)
      omega
  have wd : IntKind.i64.wrap (d * d) = 8916100448256 := by rw [HDD.out]; decide
  have wd2 : wrap64 (d * d) = 8916100448256 := by rw [HDD.out]; exact IntWalk.wrap64_in _ (by constructor <;> omega)
  have wd3 := HDD.out
  go_wp2_with fail
  refine (ties_go _).mono ?_
  rintro e w8 ⟨rfl, hb8⟩
  go_wp2
  go_ret
  exact ⟨rfl, btr (btr (btr (btr hB3 hB5) hb6) hb7) hb8⟩

end Go.Proofs.Ytiapngmallfelaa
