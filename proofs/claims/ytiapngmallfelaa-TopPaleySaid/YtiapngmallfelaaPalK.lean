/- Walk: TopPaley's inner loop. -/
import Derived.Test.YtiapngmallfelaaPalH
import Derived.Test.YtiapngmallfelaaReg
import Derived.Test.YtiapngmallfelaaDet
import Derived.BigRegion
namespace Go.Proofs.Ytiapngmallfelaa
open Go.RowKit

noncomputable def palBody (i : Nat) : Code := ((loopBodies (Try.f4.body.getD .skip))[i]?).getD .skip
theorem own_ints {w : World} {base g n cap : Nat} {G : List Nat} (h : w.ownsRow base 3 1 (.slice (some ⟨g, 0, none⟩) n cap) n ((ints G).map (Value.int .i64))) {i : Nat} (hl : G.length = n) (hi : i < n) :
    w.cell? ⟨g, i, none⟩ = some (.int .i64 (gn G i)) := by
  rw [h.cellAt i (by omega), List.getElem?_map, List.getElem?_eq_getElem (by rw [ints_length]; omega)]
  rw [← nth_ints, nth_of_lt (by rw [ints_length]; omega)]; rfl

set_option maxRecDepth 100000 in
set_option maxHeartbeats 2000000 in
theorem pal_k (w : World) (g h0 : List Nat) (i j : Nat) (s0 s1 s2 s3 : Int) (R : Act → World → Prop) (hi : i < 6) (hj : j < 6)
    (hs : Hid (decide (s0 < 0) = neg g i j 0 ∧ decide (s1 < 0) = neg g i j 1 ∧ decide (s2 < 0) = neg g i j 2 ∧ decide (s3 < 0) = neg g i j 3)) (hl : Hid (h0.length = 12)) (hsm : Hid (∀ x ∈ h0, x < 4096))
    (W : World) (hown0 : W.ownsRow w.heap.size 3 1 (.slice (some ⟨w.heap.size, 0, none⟩) 12 12) 12 ((ints h0).map (Value.int .i64))) (hB0 : Below w.heap.size w W)
    (c0 c1 c2 c3 c4 c8 c9 c10 c11 c12 c13 c14 c15 c16 c17 c18 c19 c20 c21 c22 c23 c24 c25 c26 c27 c28 c29 c30 c31 c32 c33 c34 c35 c36 c37 c38 c39 c40 c41 c42 c43 c44 c45 c46 c47 c48 c49 c50 c51 c52 c53 c54 c55 c56 c57 c58 c59 c60 c61 c62 c63 c64 c65 c66 c67 c68 c69 c72 c73 c74 c75 c76 c77 c78 c79 c80 c81 c82 c83 c84 c85 c86 c87 c88 c89 c90 c91 c92 c93 c94 c95 c96 c97 c98 c99 c100 c101 c102 c103 c104 c105 c106 c107 c108 c109 c110 c111 c112 c113 c114 c115 c116 c117 c118 c119 c120 c121 c122 c123 : Value)
    (hexit : ∀ (u10 u11 u71 u72 u73 u74 u75 u76 u77 u78 u79 u80 u81 u82 u83 u84 u85 u86 u87 u88 u89 u90 u91 u92 u93 : Value) (w' : World), w'.ownsRow w.heap.size 3 1 (.slice (some ⟨w.heap.size, 0, none⟩) 12 12) 12 ((ints (hK g i j 4 h0)).map (Value.int .i64)) → Below w.heap.size w w' → R ⟨List.toArray (c0 :: c1 :: c2 :: c3 :: c4 :: .slice (some ⟨w.heap.size, 0, none⟩) 12 12 :: .int .i64 i :: .int .i64 j :: c8 :: c9 :: u10 :: u11 :: c12 :: c13 :: c14 :: c15 :: c16 :: c17 :: c18 :: c19 :: c20 :: c21 :: c22 :: c23 :: c24 :: c25 :: c26 :: c27 :: c28 :: c29 :: c30 :: c31 :: c32 :: c33 :: c34 :: c35 :: c36 :: c37 :: c38 :: c39 :: c40 :: c41 :: c42 :: c43 :: c44 :: c45 :: c46 :: c47 :: c48 :: c49 :: c50 :: c51 :: c52 :: c53 :: c54 :: c55 :: c56 :: c57 :: c58 :: c59 :: c60 :: c61 :: c62 :: c63 :: c64 :: c65 :: c66 :: c67 :: c68 :: c69 :: .agg #[.int .i64 s0, .int .i64 s1, .int .i64 s2, .int .i64 s3] :: u71 :: u72 :: u73 :: u74 :: u75 :: u76 :: u77 :: u78 :: u79 :: u80 :: u81 :: u82 :: u83 :: u84 :: u85 :: u86 :: u87 :: u88 :: u89 :: u90 :: u91 :: u92 :: u93 :: c94 :: c95 :: c96 :: c97 :: c98 :: c99 :: c100 :: c101 :: c102 :: c103 :: c104 :: c105 :: c106 :: c107 :: c108 :: c109 :: c110 :: c111 :: c112 :: c113 :: c114 :: c115 :: c116 :: c117 :: c118 :: c119 :: c120 :: c121 :: c122 :: c123 :: []), []⟩ w') :
    Code.wp Try.prog (Code.loop (palBody 2)) (OnExit 4 R) ⟨List.toArray (c0 :: c1 :: c2 :: c3 :: c4 :: .slice (some ⟨w.heap.size, 0, none⟩) 12 12 :: .int .i64 i :: .int .i64 j :: c8 :: c9 :: c10 :: c11 :: c12 :: c13 :: c14 :: c15 :: c16 :: c17 :: c18 :: c19 :: c20 :: c21 :: c22 :: c23 :: c24 :: c25 :: c26 :: c27 :: c28 :: c29 :: c30 :: c31 :: c32 :: c33 :: c34 :: c35 :: c36 :: c37 :: c38 :: c39 :: c40 :: c41 :: c42 :: c43 :: c44 :: c45 :: c46 :: c47 :: c48 :: c49 :: c50 :: c51 :: c52 :: c53 :: c54 :: c55 :: c56 :: c57 :: c58 :: c59 :: c60 :: c61 :: c62 :: c63 :: c64 :: c65 :: c66 :: c67 :: c68 :: c69 :: .agg #[.int .i64 s0, .int .i64 s1, .int .i64 s2, .int .i64 s3] :: .int .i64 0 :: c72 :: c73 :: c74 :: c75 :: c76 :: c77 :: c78 :: c79 :: c80 :: c81 :: c82 :: c83 :: c84 :: c85 :: c86 :: c87 :: c88 :: c89 :: c90 :: c91 :: c92 :: c93 :: c94 :: c95 :: c96 :: c97 :: c98 :: c99 :: c100 :: c101 :: c102 :: c103 :: c104 :: c105 :: c106 :: c107 :: c108 :: c109 :: c110 :: c111 :: c112 :: c113 :: c114 :: c115 :: c116 :: c117 :: c118 :: c119 :: c120 :: c121 :: c122 :: c123 :: []), []⟩ W := by
  have i0 : ∀ (x0 x1 x2 x3 : Int) (w : World), (Instr.index 37 (.agg #[.int .i64 x0, .int .i64 x1, .int .i64 x2, .int .i64 x3]) (.int .i64 0)).run Try.prog w = .ok (.int .i64 x0) w := fun _ _ _ _ _ => by kernel_rfl
  have i1 : ∀ (x0 x1 x2 x3 : Int) (w : World), (Instr.index 37 (.agg #[.int .i64 x0, .int .i64 x1, .int .i64 x2, .int .i64 x3]) (.int .i64 1)).run Try.prog w = .ok (.int .i64 x1) w := fun _ _ _ _ _ => by kernel_rfl
  have i2 : ∀ (x0 x1 x2 x3 : Int) (w : World), (Instr.index 37 (.agg #[.int .i64 x0, .int .i64 x1, .int .i64 x2, .int .i64 x3]) (.int .i64 2)).run Try.prog w = .ok (.int .i64 x2) w := fun _ _ _ _ _ => by kernel_rfl
  have i3 : ∀ (x0 x1 x2 x3 : Int) (w : World), (Instr.index 37 (.agg #[.int .i64 x0, .int .i64 x1, .int .i64 x2, .int .i64 x3]) (.int .i64 3)).run Try.prog w = .ok (.int .i64 x3) w := fun _ _ _ _ _ => by kernel_rfl
  conv => arg 2; arg 1; whnf
  go_loopw [71] (fun t wr => ∃ (k : Nat) (kk : Int), k ≤ 4 ∧ kk = (k : Int) ∧ t = .int .i64 kk ∧ wr.ownsRow w.heap.size 3 1 (.slice (some ⟨w.heap.size, 0, none⟩) 12 12) 12 ((ints (hK g i j k h0)).map (Value.int .i64)) ∧ Below w.heap.size w wr) (fun t _ => 4 - (intOf t).toNat)
  case atStart => exact ⟨0, 0, by omega, rfl, rfl, hown0, hB0⟩
  case round =>
    clear hown0 hB0
    obtain ⟨k, kk, hk4, hkk, rfl, hown, hB⟩ := hrel
    by_cases hlk : k < 4
    · have hk : k = 0 ∨ k = 1 ∨ k = 2 ∨ k = 3 := by omega
      clear hk4 hlk
      rcases hk with rfl | rfl | rfl | rfl
      · have hs0 := hs.out.1
        obtain rfl : kk = 0 := by omega
        clear hkk
        by_cases hneg : s0 < 0
        · have hN : neg g i j 0 = true := by rw [← hs0]; simpa using hneg
          obtain ⟨q, hq⟩ : ∃ q, q = i + 6 * (0 / 2) := ⟨_, rfl⟩
          obtain ⟨r, hr⟩ : ∃ r, r = j + 6 * (0 % 2) := ⟨_, rfl⟩
          have hq12 : q < 12 := by omega
          have hr12 : r < 12 := by omega
          have hlen : (hK g i j 0 h0).length = 12 := by rw [hK_len]; exact hl.out
          have hx : gn (hK g i j 0 h0) q < 4096 := gn_lt (hK_small hsm.out hj 0 (by omega)) (by omega) q
          have hcell := own_ints hown (i := q) hlen (by omega)
          have hfr := hown.frozenAt q
          have hor := i64_or_nat (gn (hK g i j 0 h0) q) (2 ^ r) (by omega) (by have := pow16 (show r < 16 by omega); omega)
          rw [pow_cast] at hor
          have hwq := wrap_pow (show r ≤ 16 by omega)
          have w3q : IntKind.i64.wrap (2 ^ r) = 2 ^ r := by rw [IntWalk.i64_left]; exact hwq
          have e1 : (i : Int) + 0 = (q : Int) := by omega
          have e2 : (j : Int) + 0 = (r : Int) := by omega
          have HH := Lib.hid (show hK g i j (0 + 1) h0 = (hK g i j 0 h0).set q (gn (hK g i j 0 h0) q ||| 2 ^ r) by rw [hq, hr]; show (if neg g i j 0 then _ else _) = _; rw [if_pos hN])
          clear hs0 hN hq hr hlen
          generalize gn (hK g i j 0 h0) q = x at *
          go_wp2
          go_region
          go_wp2
          go_roundw
          case rel =>
            go_light
            refine ⟨0 + 1, 0 + 1, by omega, by omega, by go_num, ?_, below_store hB.drew _⟩
            rw [HH.out, ← ints_set]
            exact (hown.drew.stored q _).1
          case measure => go_light; simp [intOf]
        · have hN : neg g i j 0 = false := by rw [← hs0]; simpa using hneg
          have HH := Lib.hid (show hK g i j (0 + 1) h0 = hK g i j 0 h0 by show (if neg g i j 0 then _ else _) = _; rw [if_neg (by rw [hN]; decide)])
          clear hs0 hN
          go_wp2
          go_roundw
          case rel =>
            go_light
            exact ⟨0 + 1, 0 + 1, by omega, by omega, by go_num, by rw [HH.out]; exact hown, hB⟩
          case measure => go_light; simp [intOf]
      · have hs1 := hs.out.2.1
        obtain rfl : kk = 1 := by omega
        clear hkk
        by_cases hneg : s1 < 0
        · have hN : neg g i j 1 = true := by rw [← hs1]; simpa using hneg
          obtain ⟨q, hq⟩ : ∃ q, q = i + 6 * (1 / 2) := ⟨_, rfl⟩
          obtain ⟨r, hr⟩ : ∃ r, r = j + 6 * (1 % 2) := ⟨_, rfl⟩
          have hq12 : q < 12 := by omega
          have hr12 : r < 12 := by omega
          have hlen : (hK g i j 1 h0).length = 12 := by rw [hK_len]; exact hl.out
          have hx : gn (hK g i j 1 h0) q < 4096 := gn_lt (hK_small hsm.out hj 1 (by omega)) (by omega) q
          have hcell := own_ints hown (i := q) hlen (by omega)
          have hfr := hown.frozenAt q
          have hor := i64_or_nat (gn (hK g i j 1 h0) q) (2 ^ r) (by omega) (by have := pow16 (show r < 16 by omega); omega)
          rw [pow_cast] at hor
          have hwq := wrap_pow (show r ≤ 16 by omega)
          have w3q : IntKind.i64.wrap (2 ^ r) = 2 ^ r := by rw [IntWalk.i64_left]; exact hwq
          have e1 : (i : Int) + 0 = (q : Int) := by omega
          have e2 : (j : Int) + 6 = (r : Int) := by omega
          have HH := Lib.hid (show hK g i j (1 + 1) h0 = (hK g i j 1 h0).set q (gn (hK g i j 1 h0) q ||| 2 ^ r) by rw [hq, hr]; show (if neg g i j 1 then _ else _) = _; rw [if_pos hN])
          clear hs1 hN hq hr hlen
          generalize gn (hK g i j 1 h0) q = x at *
          go_wp2
          go_region
          go_wp2
          go_roundw
          case rel =>
            go_light
            refine ⟨1 + 1, 1 + 1, by omega, by omega, by go_num, ?_, below_store hB.drew _⟩
            rw [HH.out, ← ints_set]
            exact (hown.drew.stored q _).1
          case measure => go_light; simp [intOf]
        · have hN : neg g i j 1 = false := by rw [← hs1]; simpa using hneg
          have HH := Lib.hid (show hK g i j (1 + 1) h0 = hK g i j 1 h0 by show (if neg g i j 1 then _ else _) = _; rw [if_neg (by rw [hN]; decide)])
          clear hs1 hN
          go_wp2
          go_roundw
          case rel =>
            go_light
            exact ⟨1 + 1, 1 + 1, by omega, by omega, by go_num, by rw [HH.out]; exact hown, hB⟩
          case measure => go_light; simp [intOf]
      · have hs2 := hs.out.2.2.1
        obtain rfl : kk = 2 := by omega
        clear hkk
        by_cases hneg : s2 < 0
        · have hN : neg g i j 2 = true := by rw [← hs2]; simpa using hneg
          obtain ⟨q, hq⟩ : ∃ q, q = i + 6 * (2 / 2) := ⟨_, rfl⟩
          obtain ⟨r, hr⟩ : ∃ r, r = j + 6 * (2 % 2) := ⟨_, rfl⟩
          have hq12 : q < 12 := by omega
          have hr12 : r < 12 := by omega
          have hlen : (hK g i j 2 h0).length = 12 := by rw [hK_len]; exact hl.out
          have hx : gn (hK g i j 2 h0) q < 4096 := gn_lt (hK_small hsm.out hj 2 (by omega)) (by omega) q
          have hcell := own_ints hown (i := q) hlen (by omega)
          have hfr := hown.frozenAt q
          have hor := i64_or_nat (gn (hK g i j 2 h0) q) (2 ^ r) (by omega) (by have := pow16 (show r < 16 by omega); omega)
          rw [pow_cast] at hor
          have hwq := wrap_pow (show r ≤ 16 by omega)
          have w3q : IntKind.i64.wrap (2 ^ r) = 2 ^ r := by rw [IntWalk.i64_left]; exact hwq
          have e1 : (i : Int) + 6 = (q : Int) := by omega
          have e2 : (j : Int) + 0 = (r : Int) := by omega
          have HH := Lib.hid (show hK g i j (2 + 1) h0 = (hK g i j 2 h0).set q (gn (hK g i j 2 h0) q ||| 2 ^ r) by rw [hq, hr]; show (if neg g i j 2 then _ else _) = _; rw [if_pos hN])
          clear hs2 hN hq hr hlen
          generalize gn (hK g i j 2 h0) q = x at *
          go_wp2
          go_region
          go_wp2
          go_roundw
          case rel =>
            go_light
            refine ⟨2 + 1, 2 + 1, by omega, by omega, by go_num, ?_, below_store hB.drew _⟩
            rw [HH.out, ← ints_set]
            exact (hown.drew.stored q _).1
          case measure => go_light; simp [intOf]
        · have hN : neg g i j 2 = false := by rw [← hs2]; simpa using hneg
          have HH := Lib.hid (show hK g i j (2 + 1) h0 = hK g i j 2 h0 by show (if neg g i j 2 then _ else _) = _; rw [if_neg (by rw [hN]; decide)])
          clear hs2 hN
          go_wp2
          go_roundw
          case rel =>
            go_light
            exact ⟨2 + 1, 2 + 1, by omega, by omega, by go_num, by rw [HH.out]; exact hown, hB⟩
          case measure => go_light; simp [intOf]
      · have hs3 := hs.out.2.2.2
        obtain rfl : kk = 3 := by omega
        clear hkk
        by_cases hneg : s3 < 0
        · have hN : neg g i j 3 = true := by rw [← hs3]; simpa using hneg
          obtain ⟨q, hq⟩ : ∃ q, q = i + 6 * (3 / 2) := ⟨_, rfl⟩
          obtain ⟨r, hr⟩ : ∃ r, r = j + 6 * (3 % 2) := ⟨_, rfl⟩
          have hq12 : q < 12 := by omega
          have hr12 : r < 12 := by omega
          have hlen : (hK g i j 3 h0).length = 12 := by rw [hK_len]; exact hl.out
          have hx : gn (hK g i j 3 h0) q < 4096 := gn_lt (hK_small hsm.out hj 3 (by omega)) (by omega) q
          have hcell := own_ints hown (i := q) hlen (by omega)
          have hfr := hown.frozenAt q
          have hor := i64_or_nat (gn (hK g i j 3 h0) q) (2 ^ r) (by omega) (by have := pow16 (show r < 16 by omega); omega)
          rw [pow_cast] at hor
          have hwq := wrap_pow (show r ≤ 16 by omega)
          have w3q : IntKind.i64.wrap (2 ^ r) = 2 ^ r := by rw [IntWalk.i64_left]; exact hwq
          have e1 : (i : Int) + 6 = (q : Int) := by omega
          have e2 : (j : Int) + 6 = (r : Int) := by omega
          have HH := Lib.hid (show hK g i j (3 + 1) h0 = (hK g i j 3 h0).set q (gn (hK g i j 3 h0) q ||| 2 ^ r) by rw [hq, hr]; show (if neg g i j 3 then _ else _) = _; rw [if_pos hN])
          clear hs3 hN hq hr hlen
          generalize gn (hK g i j 3 h0) q = x at *
          go_wp2
          go_region
          go_wp2
          go_roundw
          case rel =>
            go_light
            refine ⟨3 + 1, 3 + 1, by omega, by omega, by go_num, ?_, below_store hB.drew _⟩
            rw [HH.out, ← ints_set]
            exact (hown.drew.stored q _).1
          case measure => go_light; simp [intOf]
        · have hN : neg g i j 3 = false := by rw [← hs3]; simpa using hneg
          have HH := Lib.hid (show hK g i j (3 + 1) h0 = hK g i j 3 h0 by show (if neg g i j 3 then _ else _) = _; rw [if_neg (by rw [hN]; decide)])
          clear hs3 hN
          go_wp2
          go_roundw
          case rel =>
            go_light
            exact ⟨3 + 1, 3 + 1, by omega, by omega, by go_num, by rw [HH.out]; exact hown, hB⟩
          case measure => go_light; simp [intOf]
    · obtain rfl : k = 4 := by omega
      obtain rfl : kk = 4 := by omega
      clear hkk
      go_wp2
      exact ⟨rfl, hexit _ _ _ _ _ _ _ _ _ _ _ _ _ _ _ _ _ _ _ _ _ _ _ _ _ _ hown hB⟩
end Go.Proofs.Ytiapngmallfelaa
