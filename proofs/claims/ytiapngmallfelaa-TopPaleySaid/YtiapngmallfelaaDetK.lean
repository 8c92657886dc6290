/- Walk: det: the loop of the elimination. -/
import Derived.Test.YtiapngmallfelaaDetL
namespace Go.Proofs.Ytiapngmallfelaa
open Go.RowKit

theorem kept0 {w w' : World} {o : Obj} (hb : Below (w.alloc o).heap.size (w.alloc o) w') : w'.heap[w.heap.size]? = some o := by
  rw [hb.block w.heap.size (by simp)]
  simp [heap_alloc_eq]

set_option maxRecDepth 100000 in
set_option maxHeartbeats 4000000 in
theorem det_k (w : World) (n : Nat) (h : List Nat) (R : Act → World → Prop) (hn : n ≤ 12) (hn2 : 2 ≤ n) (HOK : Hid (∀ k, k ≤ n - 1 → (elTo n h k).ok = true))
    (W : World) (blk0 cap0 : Nat → Nat) (HM0 : Hid (MatAt W w.heap.size w.heap.size n blk0 cap0 (ent (elTo n h 0).M))) (hB0 : Below w.heap.size w W)
    (c0 c1 c2 c5 c6 c7 c10 c11 c12 c13 c14 c15 c16 c17 c18 c19 c20 c21 c22 c23 c24 c25 c26 c27 c28 c29 c30 c31 c32 c33 c34 c35 c36 c37 c38 c39 c40 c41 c42 c43 c46 c47 c48 c49 c50 c51 c52 c53 c54 c55 c56 c57 c58 c59 c60 c61 c62 c63 c64 c65 c66 c67 c68 c69 c70 c71 c72 c73 c74 c75 c76 c77 c78 c79 c80 c81 c82 c83 c84 c85 c86 c87 c88 c89 c90 c91 c92 c93 c94 c95 c96 c97 c98 c99 c100 c101 c102 c103 c104 c105 c106 c107 c108 c109 c110 c111 c112 c113 c114 c115 c116 c117 c118 c119 c120 c121 c122 c123 c124 c125 c126 c127 c128 c129 c130 c131 c132 c133 c134 c135 c136 c137 c138 c139 c140 c141 c142 c143 c144 c145 c146 c147 c148 : Value)
    (hexit : ∀ (u2 u9 u10 u11 u12 u13 u45 u46 u47 u48 u49 u50 u51 u52 u53 u54 u55 u56 u57 u58 u59 u60 u61 u62 u63 u64 u65 u66 u67 u68 u69 u70 u71 u72 u73 u74 u75 u76 u77 u78 u79 u80 u81 u82 u83 u84 u85 u86 u87 u88 u89 u90 u91 u92 u93 u94 u95 u96 u97 u98 u99 u100 u101 u102 u103 u104 u105 u106 u107 u108 u109 u110 u111 u112 u113 u114 u115 u116 u117 u118 u119 u120 u121 u122 u123 u124 u125 u126 u127 u128 u129 u130 u131 u132 u133 u134 u135 u136 u137 : Value) (blk cap : Nat → Nat) (w' : World), Hid (MatAt w' w.heap.size w.heap.size n blk cap (ent (elTo n h (n - 1)).M)) → Below w.heap.size w w' → R ⟨List.toArray (c0 :: c1 :: u2 :: .int .i64 n :: .slice (some ⟨w.heap.size, 0, none⟩) n n :: c5 :: c6 :: c7 :: .int .i64 (elTo n h (n - 1)).sign :: u9 :: u10 :: u11 :: u12 :: u13 :: c14 :: c15 :: c16 :: c17 :: c18 :: c19 :: c20 :: c21 :: c22 :: c23 :: c24 :: c25 :: c26 :: c27 :: c28 :: c29 :: c30 :: c31 :: c32 :: c33 :: c34 :: c35 :: c36 :: c37 :: c38 :: c39 :: c40 :: c41 :: c42 :: c43 :: .int .i64 ((n : Int) - 1) :: u45 :: u46 :: u47 :: u48 :: u49 :: u50 :: u51 :: u52 :: u53 :: u54 :: u55 :: u56 :: u57 :: u58 :: u59 :: u60 :: u61 :: u62 :: u63 :: u64 :: u65 :: u66 :: u67 :: u68 :: u69 :: u70 :: u71 :: u72 :: u73 :: u74 :: u75 :: u76 :: u77 :: u78 :: u79 :: u80 :: u81 :: u82 :: u83 :: u84 :: u85 :: u86 :: u87 :: u88 :: u89 :: u90 :: u91 :: u92 :: u93 :: u94 :: u95 :: u96 :: u97 :: u98 :: u99 :: u100 :: u101 :: u102 :: u103 :: u104 :: u105 :: u106 :: u107 :: u108 :: u109 :: u110 :: u111 :: u112 :: u113 :: u114 :: u115 :: u116 :: u117 :: u118 :: u119 :: u120 :: u121 :: u122 :: u123 :: u124 :: u125 :: u126 :: u127 :: u128 :: u129 :: u130 :: u131 :: u132 :: u133 :: u134 :: u135 :: u136 :: u137 :: c138 :: c139 :: c140 :: c141 :: c142 :: c143 :: c144 :: c145 :: c146 :: c147 :: c148 :: []), []⟩ w') :
    Code.wp Try.prog (Code.loop (detBody 2)) (OnExit 4 R) ⟨List.toArray (c0 :: c1 :: c2 :: .int .i64 n :: .slice (some ⟨w.heap.size, 0, none⟩) n n :: c5 :: c6 :: c7 :: .int .i64 1 :: .int .i64 1 :: c10 :: c11 :: c12 :: c13 :: c14 :: c15 :: c16 :: c17 :: c18 :: c19 :: c20 :: c21 :: c22 :: c23 :: c24 :: c25 :: c26 :: c27 :: c28 :: c29 :: c30 :: c31 :: c32 :: c33 :: c34 :: c35 :: c36 :: c37 :: c38 :: c39 :: c40 :: c41 :: c42 :: c43 :: .int .i64 ((n : Int) - 1) :: .int .i64 0 :: c46 :: c47 :: c48 :: c49 :: c50 :: c51 :: c52 :: c53 :: c54 :: c55 :: c56 :: c57 :: c58 :: c59 :: c60 :: c61 :: c62 :: c63 :: c64 :: c65 :: c66 :: c67 :: c68 :: c69 :: c70 :: c71 :: c72 :: c73 :: c74 :: c75 :: c76 :: c77 :: c78 :: c79 :: c80 :: c81 :: c82 :: c83 :: c84 :: c85 :: c86 :: c87 :: c88 :: c89 :: c90 :: c91 :: c92 :: c93 :: c94 :: c95 :: c96 :: c97 :: c98 :: c99 :: c100 :: c101 :: c102 :: c103 :: c104 :: c105 :: c106 :: c107 :: c108 :: c109 :: c110 :: c111 :: c112 :: c113 :: c114 :: c115 :: c116 :: c117 :: c118 :: c119 :: c120 :: c121 :: c122 :: c123 :: c124 :: c125 :: c126 :: c127 :: c128 :: c129 :: c130 :: c131 :: c132 :: c133 :: c134 :: c135 :: c136 :: c137 :: c138 :: c139 :: c140 :: c141 :: c142 :: c143 :: c144 :: c145 :: c146 :: c147 :: c148 :: []), []⟩ W := by
  conv => arg 2; arg 1; whnf
  go_loopw [45, 8, 9] (fun t sg la wr => ∃ k : Nat, k ≤ n - 1 ∧ t = .int .i64 k ∧ sg = .int .i64 (elTo n h k).sign ∧ la = .int .i64 (elTo n h k).last ∧ ∃ blk cap : Nat → Nat, Hid (MatAt wr w.heap.size w.heap.size n blk cap (ent (elTo n h k).M)) ∧ Below w.heap.size w wr) (fun t _ _ _ => n - (intOf t).toNat)
  case atStart => exact ⟨0, by omega, rfl, rfl, rfl, _, _, HM0, hB0⟩
  case round =>
    clear HM0 hB0
    obtain ⟨k, hk, rfl, rfl, rfl, blk, cap, HM, hB⟩ := hrel
    by_cases hlk : k < n - 1
    · obtain ⟨p, e1, e2, e3, e4, e5, e6, e7⟩ := el_step (HOK.out (k + 1) (by omega))
      rcases el_big k e2 with ⟨b1, b2, b3, b4, b5⟩ | hbad
      · obtain ⟨p1, p2, p3⟩ := piv_some e1
        have E3 := Lib.hid e3
        have E4 := Lib.hid e4
        have E5 := Lib.hid e5
        have E6 := Lib.hid e6
        have B1 := Lib.hid b1
        have B2 := Lib.hid b2
        have HMl := Lib.hid (el_len n h k)
        have hsgn : -1 ≤ (elTo n h k).sign ∧ (elTo n h k).sign ≤ 1 := by rcases b5 with b5 | b5 <;> rw [b5] <;> decide
        clear e1 e2 e3 e4 e5 e6 e7 b1 b2 b5
        obtain ⟨M, hM⟩ : ∃ M, (elTo n h k).M = M := ⟨_, rfl⟩
        rw [hM] at HM p2 p3 E3 B1 HMl
        clear hM
        obtain ⟨sg, hsg⟩ : ∃ s, (elTo n h k).sign = s := ⟨_, rfl⟩
        obtain ⟨la, hla⟩ : ∃ s, (elTo n h k).last = s := ⟨_, rfl⟩
        rw [hsg] at hsgn E4
        rw [hla] at B2 b3 b4 E3
        rw [hsg, hla]
        clear hsg hla
        have dk : decide ((k : Int) < (n : Int) - 1) = true := by simp; omega
        have hmf : ∀ (fn : Fn) (first cap : Array Value) (w : World), (Instr.makeFunc fn first cap).run Try.prog w = .ok (.func fn first cap) w := fun _ _ _ _ => rfl
        have hAz := HM.out.2.1
        go_wp2_with fail
        refine (pividx_go _ w.heap.size w.heap.size n wr.heap.size k p blk cap (ent M) (HM.out.mono (bal (Below.refl _ _) _)) (by omega) (by omega) (new_at _ _) (by omega) p2 p3).mono ?_
        rintro e w2 ⟨rfl, hb2⟩
        have hB2 := btr (bal hB _) hb2
        have hx2 := kept0 hb2
        have HM2 := Lib.hid (HM.out.mono (btr (bal (Below.refl _ _) _) hb2))
        have hpk0 := Lib.hid (fun r (hr : r < n) => (HM.out.2.2.2.1 r hr).2.1)
        clear hb2 hB HM
        have ck := one_atB hx2
        have zk := lt_of_block hx2
        have hA2 := HM2.out.2.1
        have dp : decide ((p : Int) < 0) = false := by simp
        by_cases hp0 : 0 < p
        · obtain ⟨a1, a1f⟩ := HM2.out.2.2.1 k (by omega)
          obtain ⟨a2, a2f⟩ := HM2.out.2.2.1 (k + p) (by omega)
          have hdp : decide (0 < p) = true := by simpa using hp0
          have r1 : IntKind.i64.wrap ((k : Int) + (p : Int)) = (k : Int) + (p : Int) := by have := wrap_i64n (k + p) (by omega); simpa using this
          have HMS := Lib.hid (HM2.out.swap (k := k) (p := k + p) (by omega) (by omega))
          go_wp2_with fail
          go_region
          have hMS := HMS.out
          have hBW : Below w.heap.size w ((w2.setCell ⟨w.heap.size, k, none⟩ (.slice (some ⟨blk (k + p), 0, none⟩) n (cap (k + p)))).setCell ⟨w.heap.size, k + p, none⟩ (.slice (some ⟨blk k, 0, none⟩) n (cap k))).drew := (below_store (below_store hB2 _) _).drew
          have hxW : (((w2.setCell ⟨w.heap.size, k, none⟩ (.slice (some ⟨blk (k + p), 0, none⟩) n (cap (k + p)))).setCell ⟨w.heap.size, k + p, none⟩ (.slice (some ⟨blk k, 0, none⟩) n (cap k))).drew).heap[wr.heap.size]? = some (.cells #[.int .i64 k] 3 (0, 0)) := by
            show (((w2.setCell ⟨w.heap.size, k, none⟩ (.slice (some ⟨blk (k + p), 0, none⟩) n (cap (k + p)))).setCell ⟨w.heap.size, k + p, none⟩ (.slice (some ⟨blk k, 0, none⟩) n (cap k)))).heap[wr.heap.size]? = _
            rw [Below.heap_setCell _ _ _ _ (by show wr.heap.size ≠ w.heap.size; omega), Below.heap_setCell _ _ _ _ (by show wr.heap.size ≠ w.heap.size; omega)]
            exact hx2
          have hMW : MatAt ((w2.setCell ⟨w.heap.size, k, none⟩ (.slice (some ⟨blk (k + p), 0, none⟩) n (cap (k + p)))).setCell ⟨w.heap.size, k + p, none⟩ (.slice (some ⟨blk k, 0, none⟩) n (cap k))).drew w.heap.size w.heap.size n (fun i => blk (sw2 k (k + p) i)) (fun i => cap (sw2 k (k + p) i)) (ent (swapR M k p)) :=
            (hMS.drewN (m := 1)).congr fun i j hi hj => (ent_swap HMl.out (by omega) (by omega) hi).symm
          have HMW := Lib.hid hMW
          have BW := Lib.hid (fun i j (hi : i < n) (hj : j < n) => (show -100000000 ≤ ent (swapR M k p) i j ∧ ent (swapR M k p) i j ≤ 100000000 by
            rw [ent_swap HMl.out (by omega) (by omega) hi]
            exact B1.out _ _ (by unfold sw2; split <;> (try split) <;> omega) hj))
          have HPK := Lib.hid (fun r (hr : r < n) => (show blk (sw2 k (k + p) r) < wr.heap.size from hpk0.out _ (by unfold sw2; split <;> (try split) <;> omega)))
          have hp0' : (p == 0) = false := by simp; omega
          rw [hp0'] at E3 E4
          simp only [Bool.false_eq_true, if_false] at E3 E4
          clear hMS hMW HMS HM2 hB2 hx2 ck zk hA2 a1 a1f a2 a2f hdp hp0'
          obtain ⟨W, hW⟩ : ∃ W, W = ((w2.setCell ⟨w.heap.size, k, none⟩ (.slice (some ⟨blk (k + p), 0, none⟩) n (cap (k + p)))).setCell ⟨w.heap.size, k + p, none⟩ (.slice (some ⟨blk k, 0, none⟩) n (cap k))).drew := ⟨_, rfl⟩
          rw [← hW] at hBW hxW HMW
          rw [← hW]
          clear hW
          have ck := one_atB hxW
          have zk := lt_of_block hxW
          go_wp2_with fail
          refine wp_onExit (k := 6) (det_i w w.heap.size w.heap.size n wr.heap.size k la (swapR M k p) _ _ _ hn (by omega) (Nat.le_refl _) BW B2.out b3 b4 _ HMW hxW HPK.out hBW _ _ _ _ _ _ _ _ _ _ _ _ _ _ _ _ _ _ _ _ _ _ _ _ _ _ _ _ _ _ _ _ _ _ _ _ _ _ _ _ _ _ _ _ _ _ _ _ _ _ _ _ _ _ _ _ _ _ _ _ _ _ _ _ _ _ _ _ _ _ _ _ _ _ _ _ _ _ _ _ _ _ _ _ _ _ _ _ _ _ _ _ _ _ _ _ _ _ _ _ _ _ _ _ _ _ _ _ _ _ _ _ _ _ _ _ _ _ _ _ _ _ _ _ _ _ _ _ _ _ _ _ _ _ _ _ _ _ _ _ _ _ _ _ ?_)
          intro v13 v79 v80 v81 v82 v83 v84 v85 v86 v87 v88 v89 v90 v91 v92 v93 v94 v95 v96 v97 v98 v99 v100 v101 v102 v103 v104 v105 v106 v107 v108 v109 v110 v111 v112 v113 v114 v115 v116 v117 v118 v119 v120 v121 v122 v123 v124 v125 v126 v127 v128 v129 w4 HM3 hx3 hB3
          have HM4 := Lib.hid (HM3.out.congr (g := ent (elTo n h (k + 1)).M) (fun r c hr hc => by
            rw [E3.out, ent_step hr hc]
            unfold gS
            by_cases e : k < r ∧ k < c
            · rw [if_pos ⟨e.1, e.2, .inl hr⟩, if_pos e]
            · rw [if_neg (fun q => e ⟨q.1, q.2.1⟩), if_neg e]))
          have ck3 := one_atB hx3
          have zk3 := lt_of_block hx3
          have hE5 := Lib.hid E5.out
          clear HM3 hx3
          obtain ⟨m1, m2, m3, m4, m5, m6⟩ := HM4.out
          have c_ak := (m3 k (by omega)).1
          obtain ⟨_, s_k, _, p_k, _⟩ := m4 k (by omega)
          have c_kk := (m5 k k (by omega) (by omega)).1
          rw [← E5.out] at c_kk
          clear m1 m2 m3 m4 m5 m6
          have hkn : k < n := by omega
          go_wp2
          go_quiet (fail)
          go_wp2
          go_roundw
          case rel =>
            go_light
            exact ⟨k + 1, by omega, by go_num, by rw [E4.out], rfl, _, _, HM4, drewN_below hB3⟩
          case measure => go_light; simp [intOf]; omega
        · have hp00 : (p == 0) = true := by simp [show p = 0 by omega]
          rw [hp00] at E3 E4
          simp only [if_true] at E3 E4
          have HPK := Lib.hid (fun r (hr : r < n) => hpk0.out r hr)
          have hBW := hB2
          have hxW := hx2
          have hdp : decide ((0 : Int) < (p : Int)) = false := by simp [show p = 0 by omega]
          have hdp' : decide (0 < p) = false := by simpa using hp0
          clear hp00 hp0 hB2 hx2 hpk0
          go_wp2_with fail
          refine wp_onExit (k := 6) (det_i w w.heap.size w.heap.size n wr.heap.size k la M blk cap _ hn (by omega) (Nat.le_refl _) B1 B2.out b3 b4 _ HM2 hxW HPK.out hBW _ _ _ _ _ _ _ _ _ _ _ _ _ _ _ _ _ _ _ _ _ _ _ _ _ _ _ _ _ _ _ _ _ _ _ _ _ _ _ _ _ _ _ _ _ _ _ _ _ _ _ _ _ _ _ _ _ _ _ _ _ _ _ _ _ _ _ _ _ _ _ _ _ _ _ _ _ _ _ _ _ _ _ _ _ _ _ _ _ _ _ _ _ _ _ _ _ _ _ _ _ _ _ _ _ _ _ _ _ _ _ _ _ _ _ _ _ _ _ _ _ _ _ _ _ _ _ _ _ _ _ _ _ _ _ _ _ _ _ _ _ _ _ _ ?_)
          intro v13 v79 v80 v81 v82 v83 v84 v85 v86 v87 v88 v89 v90 v91 v92 v93 v94 v95 v96 v97 v98 v99 v100 v101 v102 v103 v104 v105 v106 v107 v108 v109 v110 v111 v112 v113 v114 v115 v116 v117 v118 v119 v120 v121 v122 v123 v124 v125 v126 v127 v128 v129 w4 HM3 hx3 hB3
          have HM4 := Lib.hid (HM3.out.congr (g := ent (elTo n h (k + 1)).M) (fun r c hr hc => by
            rw [E3.out, ent_step hr hc]
            unfold gS
            by_cases e : k < r ∧ k < c
            · rw [if_pos ⟨e.1, e.2, .inl hr⟩, if_pos e]
            · rw [if_neg (fun q => e ⟨q.1, q.2.1⟩), if_neg e]))
          have ck3 := one_atB hx3
          have zk3 := lt_of_block hx3
          have hE5 := Lib.hid E5.out
          clear HM3 hx3
          obtain ⟨m1, m2, m3, m4, m5, m6⟩ := HM4.out
          have c_ak := (m3 k (by omega)).1
          obtain ⟨_, s_k, _, p_k, _⟩ := m4 k (by omega)
          have c_kk := (m5 k k (by omega) (by omega)).1
          rw [← E5.out] at c_kk
          clear m1 m2 m3 m4 m5 m6
          have hkn : k < n := by omega
          go_wp2
          go_quiet (fail)
          go_wp2
          go_roundw
          case rel =>
            go_light
            exact ⟨k + 1, by omega, by go_num, by rw [E4.out], rfl, _, _, HM4, drewN_below hB3⟩
          case measure => go_light; simp [intOf]; omega
      · omega
    · obtain rfl : k = n - 1 := by omega
      have dk : decide (((n - 1 : Nat) : Int) < (n : Int) - 1) = false := by simp; omega
      go_wp2
      exact ⟨rfl, hexit _ _ _ _ _ _ _ _ _ _ _ _ _ _ _ _ _ _ _ _ _ _ _ _ _ _ _ _ _ _ _ _ _ _ _ _ _ _ _ _ _ _ _ _ _ _ _ _ _ _ _ _ _ _ _ _ _ _ _ _ _ _ _ _ _ _ _ _ _ _ _ _ _ _ _ _ _ _ _ _ _ _ _ _ _ _ _ _ _ _ _ _ _ _ _ _ _ _ _ _ _ _ HM hB⟩
end Go.Proofs.Ytiapngmallfelaa
