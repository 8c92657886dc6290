/- Walk: TopPaley's middle loop. -/
import Derived.Test.YtiapngmallfelaaPalK
namespace Go.Proofs.Ytiapngmallfelaa
open Go.RowKit

set_option maxRecDepth 100000 in
set_option maxHeartbeats 2000000 in
theorem pal_j (w : World) (g h0 : List Nat) (i b3 o3 c3x : Nat) (R : Act → World → Prop) (hi : i < 6) (hgs : gn g i < 65536) (_hc6 : 6 ≤ c3x)
    (HC : Hid (w.cell? ⟨b3, o3 + i, none⟩ = some (.int .i64 (gn g i)))) (hb3 : b3 < w.heap.size) (hl : Hid (h0.length = 12)) (hsm : Hid (∀ x ∈ h0, x < 4096))
    (W : World) (hown0 : W.ownsRow w.heap.size 3 1 (.slice (some ⟨w.heap.size, 0, none⟩) 12 12) 12 ((ints h0).map (Value.int .i64))) (hB0 : Below w.heap.size w W)
    (c0 c1 c2 c4 c7 c8 c9 c10 c11 c12 c13 c14 c15 c16 c17 c18 c19 c20 c21 c22 c23 c24 c25 c26 c27 c28 c29 c30 c31 c32 c33 c34 c35 c36 c37 c38 c39 c40 c41 c42 c43 c44 c45 c46 c47 c49 c50 c51 c52 c53 c54 c55 c56 c57 c58 c59 c60 c61 c62 c63 c64 c65 c66 c67 c68 c69 c70 c71 c72 c73 c74 c75 c76 c77 c78 c79 c80 c81 c82 c83 c84 c85 c86 c87 c88 c89 c90 c91 c92 c93 c94 c95 c96 c97 c98 c99 c100 c101 c102 c103 c104 c105 c106 c107 c108 c109 c110 c111 c112 c113 c114 c115 c116 c117 c118 c119 c120 c121 c122 c123 : Value)
    (hexit : ∀ (u7 u8 u9 u10 u11 u48 u49 u50 u51 u52 u53 u54 u55 u56 u57 u58 u59 u60 u61 u62 u63 u64 u65 u66 u67 u68 u69 u70 u71 u72 u73 u74 u75 u76 u77 u78 u79 u80 u81 u82 u83 u84 u85 u86 u87 u88 u89 u90 u91 u92 u93 u94 : Value) (w' : World), w'.ownsRow w.heap.size 3 1 (.slice (some ⟨w.heap.size, 0, none⟩) 12 12) 12 ((ints (hJ g i 6 h0)).map (Value.int .i64)) → Below w.heap.size w w' → R ⟨List.toArray (c0 :: c1 :: c2 :: .slice (some ⟨b3, o3, none⟩) 6 c3x :: c4 :: .slice (some ⟨w.heap.size, 0, none⟩) 12 12 :: .int .i64 i :: u7 :: u8 :: u9 :: u10 :: u11 :: c12 :: c13 :: c14 :: c15 :: c16 :: c17 :: c18 :: c19 :: c20 :: c21 :: c22 :: c23 :: c24 :: c25 :: c26 :: c27 :: c28 :: c29 :: c30 :: c31 :: c32 :: c33 :: c34 :: c35 :: c36 :: c37 :: c38 :: c39 :: c40 :: c41 :: c42 :: c43 :: c44 :: c45 :: c46 :: c47 :: u48 :: u49 :: u50 :: u51 :: u52 :: u53 :: u54 :: u55 :: u56 :: u57 :: u58 :: u59 :: u60 :: u61 :: u62 :: u63 :: u64 :: u65 :: u66 :: u67 :: u68 :: u69 :: u70 :: u71 :: u72 :: u73 :: u74 :: u75 :: u76 :: u77 :: u78 :: u79 :: u80 :: u81 :: u82 :: u83 :: u84 :: u85 :: u86 :: u87 :: u88 :: u89 :: u90 :: u91 :: u92 :: u93 :: u94 :: c95 :: c96 :: c97 :: c98 :: c99 :: c100 :: c101 :: c102 :: c103 :: c104 :: c105 :: c106 :: c107 :: c108 :: c109 :: c110 :: c111 :: c112 :: c113 :: c114 :: c115 :: c116 :: c117 :: c118 :: c119 :: c120 :: c121 :: c122 :: c123 :: []), []⟩ w') :
    Code.wp Try.prog (Code.loop (palBody 1)) (OnExit 2 R) ⟨List.toArray (c0 :: c1 :: c2 :: .slice (some ⟨b3, o3, none⟩) 6 c3x :: c4 :: .slice (some ⟨w.heap.size, 0, none⟩) 12 12 :: .int .i64 i :: c7 :: c8 :: c9 :: c10 :: c11 :: c12 :: c13 :: c14 :: c15 :: c16 :: c17 :: c18 :: c19 :: c20 :: c21 :: c22 :: c23 :: c24 :: c25 :: c26 :: c27 :: c28 :: c29 :: c30 :: c31 :: c32 :: c33 :: c34 :: c35 :: c36 :: c37 :: c38 :: c39 :: c40 :: c41 :: c42 :: c43 :: c44 :: c45 :: c46 :: c47 :: .int .i64 0 :: c49 :: c50 :: c51 :: c52 :: c53 :: c54 :: c55 :: c56 :: c57 :: c58 :: c59 :: c60 :: c61 :: c62 :: c63 :: c64 :: c65 :: c66 :: c67 :: c68 :: c69 :: c70 :: c71 :: c72 :: c73 :: c74 :: c75 :: c76 :: c77 :: c78 :: c79 :: c80 :: c81 :: c82 :: c83 :: c84 :: c85 :: c86 :: c87 :: c88 :: c89 :: c90 :: c91 :: c92 :: c93 :: c94 :: c95 :: c96 :: c97 :: c98 :: c99 :: c100 :: c101 :: c102 :: c103 :: c104 :: c105 :: c106 :: c107 :: c108 :: c109 :: c110 :: c111 :: c112 :: c113 :: c114 :: c115 :: c116 :: c117 :: c118 :: c119 :: c120 :: c121 :: c122 :: c123 :: []), []⟩ W := by
  conv => arg 2; arg 1; whnf
  go_loopw [48] (fun t wr => ∃ j : Nat, j ≤ 6 ∧ t = .int .i64 j ∧ wr.ownsRow w.heap.size 3 1 (.slice (some ⟨w.heap.size, 0, none⟩) 12 12) 12 ((ints (hJ g i j h0)).map (Value.int .i64)) ∧ Below w.heap.size w wr) (fun t _ => 6 - (intOf t).toNat)
  case atStart => exact ⟨0, by omega, rfl, hown0, hB0⟩
  case round =>
    clear hown0 hB0
    obtain ⟨j, hj6, rfl, hown, hB⟩ := hrel
    by_cases hlj : j < 6
    · have dj : decide ((j : Int) < 6) = true := by simp; omega
      have hci : wr.cell? ⟨b3, o3 + i, none⟩ = some (.int .i64 (gn g i)) := (hB.cell (p := ⟨b3, o3 + i, none⟩) hb3).trans HC.out
      have hbz2 := Nat.lt_of_lt_of_le hb3 hB.size
      have hbv := bits_bt (gn g i) j (by omega)
      rw [bt_test] at hbv
      by_cases e : i = j
      · have E := Lib.hid e
        clear e
        obtain rfl : i = j := E.out
        have HNEG := Lib.hid (show decide ((1 : Int) < 0) = neg g i i 0 ∧ decide ((-1 : Int) < 0) = neg g i i 1 ∧ decide ((-1 : Int) < 0) = neg g i i 2 ∧ decide ((-1 : Int) < 0) = neg g i i 3 by
          unfold neg; simp)
        have t1 : ((i : Int) == (i : Int)) = true := by simp
        cases hbit : (gn g i).testBit i with
        | true =>
          rw [hbit] at hbv; simp only [if_true, Int.natCast_one] at hbv
          clear hbit
          go_wp2_with fail
          refine wp_onExit (k := 4) (pal_k w g (hJ g i i h0) i i 1 (-1) (-1) (-1) _ hi hi HNEG (Lib.hid (by rw [hJ_len]; exact hl.out)) (Lib.hid (hJ_small hsm.out i (by omega))) _ (hown.alloc _) (bal hB _) _ _ _ _ _ _ _ _ _ _ _ _ _ _ _ _ _ _ _ _ _ _ _ _ _ _ _ _ _ _ _ _ _ _ _ _ _ _ _ _ _ _ _ _ _ _ _ _ _ _ _ _ _ _ _ _ _ _ _ _ _ _ _ _ _ _ _ _ _ _ _ _ _ _ _ _ _ _ _ _ _ _ _ _ _ _ _ _ _ _ _ _ _ _ _ _ _ _ _ _ _ _ _ _ _ _ _ _ _ _ _ _ _ _ _ _ _ _ _ ?_)
          intro v10 v11 v71 v72 v73 v74 v75 v76 v77 v78 v79 v80 v81 v82 v83 v84 v85 v86 v87 v88 v89 v90 v91 v92 v93 w5 hown5 hB5
          clear hown hB
          go_wp2
          go_roundw
          case rel => go_light; exact ⟨i + 1, by omega, by go_num, hown5, hB5⟩
          case measure => go_light; simp [intOf]; omega
        | false =>
          rw [hbit] at hbv; simp only [Bool.false_eq_true, if_false, Int.natCast_zero] at hbv
          clear hbit
          go_wp2_with fail
          refine wp_onExit (k := 4) (pal_k w g (hJ g i i h0) i i 1 (-1) (-1) (-1) _ hi hi HNEG (Lib.hid (by rw [hJ_len]; exact hl.out)) (Lib.hid (hJ_small hsm.out i (by omega))) _ (hown.alloc _) (bal hB _) _ _ _ _ _ _ _ _ _ _ _ _ _ _ _ _ _ _ _ _ _ _ _ _ _ _ _ _ _ _ _ _ _ _ _ _ _ _ _ _ _ _ _ _ _ _ _ _ _ _ _ _ _ _ _ _ _ _ _ _ _ _ _ _ _ _ _ _ _ _ _ _ _ _ _ _ _ _ _ _ _ _ _ _ _ _ _ _ _ _ _ _ _ _ _ _ _ _ _ _ _ _ _ _ _ _ _ _ _ _ _ _ _ _ _ _ _ _ _ ?_)
          intro v10 v11 v71 v72 v73 v74 v75 v76 v77 v78 v79 v80 v81 v82 v83 v84 v85 v86 v87 v88 v89 v90 v91 v92 v93 w5 hown5 hB5
          clear hown hB
          go_wp2
          go_roundw
          case rel => go_light; exact ⟨i + 1, by omega, by go_num, hown5, hB5⟩
          case measure => go_light; simp [intOf]; omega
      · have E := Lib.hid e
        have t1 : ((i : Int) == (j : Int)) = false := by simp; omega
        clear e
        cases hbit : (gn g i).testBit j with
        | true =>
          rw [hbit] at hbv; simp only [if_true, Int.natCast_one] at hbv
          have HNEG := Lib.hid (show decide ((-1 : Int) < 0) = neg g i j 0 ∧ decide ((-1 : Int) < 0) = neg g i j 1 ∧ decide ((-1 : Int) < 0) = neg g i j 2 ∧ decide ((1 : Int) < 0) = neg g i j 3 by
            unfold neg; rw [hbit]; simp [E.out])
          clear hbit
          go_wp2_with fail
          refine wp_onExit (k := 4) (pal_k w g (hJ g i j h0) i j (-1) (-1) (-1) 1 _ hi hlj HNEG (Lib.hid (by rw [hJ_len]; exact hl.out)) (Lib.hid (hJ_small hsm.out j (by omega))) _ (hown.alloc _) (bal hB _) _ _ _ _ _ _ _ _ _ _ _ _ _ _ _ _ _ _ _ _ _ _ _ _ _ _ _ _ _ _ _ _ _ _ _ _ _ _ _ _ _ _ _ _ _ _ _ _ _ _ _ _ _ _ _ _ _ _ _ _ _ _ _ _ _ _ _ _ _ _ _ _ _ _ _ _ _ _ _ _ _ _ _ _ _ _ _ _ _ _ _ _ _ _ _ _ _ _ _ _ _ _ _ _ _ _ _ _ _ _ _ _ _ _ _ _ _ _ _ ?_)
          intro v10 v11 v71 v72 v73 v74 v75 v76 v77 v78 v79 v80 v81 v82 v83 v84 v85 v86 v87 v88 v89 v90 v91 v92 v93 w5 hown5 hB5
          clear hown hB
          go_wp2
          go_roundw
          case rel => go_light; exact ⟨j + 1, by omega, by go_num, hown5, hB5⟩
          case measure => go_light; simp [intOf]; omega
        | false =>
          rw [hbit] at hbv; simp only [Bool.false_eq_true, if_false, Int.natCast_zero] at hbv
          have HNEG := Lib.hid (show decide ((1 : Int) < 0) = neg g i j 0 ∧ decide ((1 : Int) < 0) = neg g i j 1 ∧ decide ((1 : Int) < 0) = neg g i j 2 ∧ decide ((-1 : Int) < 0) = neg g i j 3 by
            unfold neg; rw [hbit]; simp [E.out])
          clear hbit
          go_wp2_with fail
          refine wp_onExit (k := 4) (pal_k w g (hJ g i j h0) i j 1 1 1 (-1) _ hi hlj HNEG (Lib.hid (by rw [hJ_len]; exact hl.out)) (Lib.hid (hJ_small hsm.out j (by omega))) _ (hown.alloc _) (bal hB _) _ _ _ _ _ _ _ _ _ _ _ _ _ _ _ _ _ _ _ _ _ _ _ _ _ _ _ _ _ _ _ _ _ _ _ _ _ _ _ _ _ _ _ _ _ _ _ _ _ _ _ _ _ _ _ _ _ _ _ _ _ _ _ _ _ _ _ _ _ _ _ _ _ _ _ _ _ _ _ _ _ _ _ _ _ _ _ _ _ _ _ _ _ _ _ _ _ _ _ _ _ _ _ _ _ _ _ _ _ _ _ _ _ _ _ _ _ _ _ ?_)
          intro v10 v11 v71 v72 v73 v74 v75 v76 v77 v78 v79 v80 v81 v82 v83 v84 v85 v86 v87 v88 v89 v90 v91 v92 v93 w5 hown5 hB5
          clear hown hB
          go_wp2
          go_roundw
          case rel => go_light; exact ⟨j + 1, by omega, by go_num, hown5, hB5⟩
          case measure => go_light; simp [intOf]; omega
    · obtain rfl : j = 6 := by omega
      go_wp2
      exact ⟨rfl, hexit _ _ _ _ _ _ _ _ _ _ _ _ _ _ _ _ _ _ _ _ _ _ _ _ _ _ _ _ _ _ _ _ _ _ _ _ _ _ _ _ _ _ _ _ _ _ _ _ _ _ _ _ _ hown hB⟩
end Go.Proofs.Ytiapngmallfelaa
