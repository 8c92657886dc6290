/- Walk: det: the loops of the elimination. -/
import Derived.Test.YtiapngmallfelaaRowB
import Derived.Test.YtiapngmallfelaaElP
import Derived.Deep.Light
import Derived.StillTailTactics
namespace Go.Proofs.Ytiapngmallfelaa
open Go.RowKit

def loopBodies : Code → List Code
  | .loop c => c :: loopBodies c
  | .seq a b => loopBodies a ++ loopBodies b
  | .block _ c => loopBodies c
  | .scope c => loopBodies c
  | .cond _ a b => loopBodies a ++ loopBodies b
  | _ => []
noncomputable def detBody (i : Nat) : Code := ((loopBodies (Try.f41.body.getD .skip))[i]?).getD .skip

def OnExit (k : Nat) (R : Act → World → Prop) : Exit → Act → World → Prop
  | .exit n, a, w => n = k ∧ R a w
  | _, _, _ => False
theorem wp_onExit {P : Program} {c : Code} {k : Nat} {Q : Exit → Act → World → Prop} {a : Act} {w : World} (h : Code.wp P c (OnExit k fun a w => Q (.exit k) a w) a w) : Code.wp P c Q a w :=
  wp_mono h fun e a w hq => by
    cases e with
    | exit n => obtain ⟨rfl, h⟩ := hq; exact h
    | _ => exact hq.elim

def gS (M : List (List Int)) (la : Int) (k i j r c : Nat) : Int := if k < r ∧ k < c ∧ (r < i ∨ (r = i ∧ c < j)) then stepE M la k r c else ent M r c
theorem wrap_i64j (a : Int) (h1 : -9223372036854775808 ≤ a) (h2 : a < 9223372036854775808) : IntKind.i64.wrap a = a := by
  rw [IntWalk.i64_left]; exact IntWalk.wrap64_in _ (by constructor <;> omega)
theorem mul_le3 {a b A B : Int} (ha : -A ≤ a) (ha2 : a ≤ A) (hb : -B ≤ b) (hb2 : b ≤ B) (_hA : 0 ≤ A) : -(A * B) ≤ a * b ∧ a * b ≤ A * B := by
  have h1 := Int.mul_nonneg (show 0 ≤ A + a by omega) (show 0 ≤ B + b by omega)
  have h2 := Int.mul_nonneg (show 0 ≤ A - a by omega) (show 0 ≤ B - b by omega)
  have h3 := Int.mul_nonneg (show 0 ≤ A + a by omega) (show 0 ≤ B - b by omega)
  have h4 := Int.mul_nonneg (show 0 ≤ A - a by omega) (show 0 ≤ B + b by omega)
  simp only [Int.add_mul, Int.sub_mul, Int.mul_add, Int.mul_sub] at h1 h2 h3 h4
  omega
theorem tdiv_le0 {a b A : Int} (h1 : -A ≤ a) (h2 : a ≤ A) : -A ≤ a.tdiv b ∧ a.tdiv b ≤ A := by
  have h := Int.natAbs_tdiv a b
  have h3 := Nat.div_le_self a.natAbs b.natAbs
  rw [show a.natAbs / b.natAbs = (a.tdiv b).natAbs from h.symm] at h3
  generalize a.tdiv b = q at *
  clear h
  omega

set_option maxRecDepth 100000 in
set_option maxHeartbeats 1000000 in
theorem det_j (w : World) (A B n pk k i : Nat) (la : Int) (M1 : List (List Int)) (bW cW : Nat → Nat) (R : Act → World → Prop) (hn : n ≤ 12) (hk : k < i) (hi : i < n) (_hBA : B ≤ A)
    (BW : Hid (∀ i j, i < n → j < n → -100000000 ≤ ent M1 i j ∧ ent M1 i j ≤ 100000000)) (b2 : la ≠ 0) (_b3 : -100000000 ≤ la) (_b4 : la ≤ 100000000)
    (W : World) (HM : Hid (MatAt W B A n bW cW (gS M1 la k i (k + 1)))) (hx : W.heap[pk]? = some (.cells #[.int .i64 k] 3 (0, 0))) (hpk : ∀ r, r < n → bW r < pk) (hB : Below B w W)
    (c0 c1 c2 c5 c6 c7 c8 c11 c14 c15 c16 c17 c18 c19 c20 c21 c22 c23 c24 c25 c26 c27 c28 c29 c30 c31 c32 c33 c34 c35 c36 c37 c38 c39 c40 c41 c42 c43 c44 c45 c46 c47 c48 c49 c50 c51 c52 c53 c54 c55 c56 c57 c58 c59 c60 c61 c62 c63 c64 c65 c66 c67 c68 c69 c70 c71 c72 c73 c74 c75 c76 c77 c78 c79 c80 c81 c82 c83 c84 c85 c86 c87 c88 c89 c90 c91 c92 c93 c94 c95 c96 c97 c98 c99 c100 c101 c102 c103 c104 c105 c106 c107 c108 c109 c110 c111 c112 c113 c114 c115 c116 c117 c118 c119 c120 c121 c122 c123 c124 c125 c126 c127 c128 c129 c130 c131 c132 c133 c134 c135 c136 c137 c138 c139 c140 c141 c142 c143 c144 c145 c146 c147 c148 : Value)
    (hexit : ∀ (u86 u87 u88 u89 u90 u91 u92 u93 u94 u95 u96 u97 u98 u99 u100 u101 u102 u103 u104 u105 u106 u107 u108 u109 u110 u111 u112 u113 u114 u115 u116 u117 u118 u119 u120 u121 u122 u123 u124 u125 u126 u127 u128 u129 : Value) (w' : World), Hid (MatAt w' B A n bW cW (gS M1 la k i n)) → w'.heap[pk]? = some (.cells #[.int .i64 k] 3 (0, 0)) → Below B w w' → R ⟨List.toArray (c0 :: c1 :: c2 :: .int .i64 n :: .slice (some ⟨A, 0, none⟩) n n :: c5 :: c6 :: c7 :: c8 :: .int .i64 la :: .pointer (some ⟨pk, 0, none⟩) :: c11 :: .int .i64 i :: .int .i64 n :: c14 :: c15 :: c16 :: c17 :: c18 :: c19 :: c20 :: c21 :: c22 :: c23 :: c24 :: c25 :: c26 :: c27 :: c28 :: c29 :: c30 :: c31 :: c32 :: c33 :: c34 :: c35 :: c36 :: c37 :: c38 :: c39 :: c40 :: c41 :: c42 :: c43 :: c44 :: c45 :: c46 :: c47 :: c48 :: c49 :: c50 :: c51 :: c52 :: c53 :: c54 :: c55 :: c56 :: c57 :: c58 :: c59 :: c60 :: c61 :: c62 :: c63 :: c64 :: c65 :: c66 :: c67 :: c68 :: c69 :: c70 :: c71 :: c72 :: c73 :: c74 :: c75 :: c76 :: c77 :: c78 :: c79 :: c80 :: c81 :: c82 :: c83 :: c84 :: c85 :: u86 :: u87 :: u88 :: u89 :: u90 :: u91 :: u92 :: u93 :: u94 :: u95 :: u96 :: u97 :: u98 :: u99 :: u100 :: u101 :: u102 :: u103 :: u104 :: u105 :: u106 :: u107 :: u108 :: u109 :: u110 :: u111 :: u112 :: u113 :: u114 :: u115 :: u116 :: u117 :: u118 :: u119 :: u120 :: u121 :: u122 :: u123 :: u124 :: u125 :: u126 :: u127 :: u128 :: u129 :: c130 :: c131 :: c132 :: c133 :: c134 :: c135 :: c136 :: c137 :: c138 :: c139 :: c140 :: c141 :: c142 :: c143 :: c144 :: c145 :: c146 :: c147 :: c148 :: []), []⟩ w') :
    Code.wp Try.prog (Code.loop (detBody 4)) (OnExit 8 R) ⟨List.toArray (c0 :: c1 :: c2 :: .int .i64 n :: .slice (some ⟨A, 0, none⟩) n n :: c5 :: c6 :: c7 :: c8 :: .int .i64 la :: .pointer (some ⟨pk, 0, none⟩) :: c11 :: .int .i64 i :: .int .i64 (k + 1) :: c14 :: c15 :: c16 :: c17 :: c18 :: c19 :: c20 :: c21 :: c22 :: c23 :: c24 :: c25 :: c26 :: c27 :: c28 :: c29 :: c30 :: c31 :: c32 :: c33 :: c34 :: c35 :: c36 :: c37 :: c38 :: c39 :: c40 :: c41 :: c42 :: c43 :: c44 :: c45 :: c46 :: c47 :: c48 :: c49 :: c50 :: c51 :: c52 :: c53 :: c54 :: c55 :: c56 :: c57 :: c58 :: c59 :: c60 :: c61 :: c62 :: c63 :: c64 :: c65 :: c66 :: c67 :: c68 :: c69 :: c70 :: c71 :: c72 :: c73 :: c74 :: c75 :: c76 :: c77 :: c78 :: c79 :: c80 :: c81 :: c82 :: c83 :: c84 :: c85 :: c86 :: c87 :: c88 :: c89 :: c90 :: c91 :: c92 :: c93 :: c94 :: c95 :: c96 :: c97 :: c98 :: c99 :: c100 :: c101 :: c102 :: c103 :: c104 :: c105 :: c106 :: c107 :: c108 :: c109 :: c110 :: c111 :: c112 :: c113 :: c114 :: c115 :: c116 :: c117 :: c118 :: c119 :: c120 :: c121 :: c122 :: c123 :: c124 :: c125 :: c126 :: c127 :: c128 :: c129 :: c130 :: c131 :: c132 :: c133 :: c134 :: c135 :: c136 :: c137 :: c138 :: c139 :: c140 :: c141 :: c142 :: c143 :: c144 :: c145 :: c146 :: c147 :: c148 :: []), []⟩ W := by
  conv => arg 2; arg 1; whnf
  have hAW := HM.out.2.1
  have hbp := Lib.hid hpk
  clear hpk
  go_loopw [13] (fun t wr2 => ∃ j : Nat, k < j ∧ j ≤ n ∧ t = .int .i64 j ∧ Hid (MatAt wr2 B A n bW cW (gS M1 la k i j)) ∧ wr2.heap[pk]? = some (.cells #[.int .i64 k] 3 (0, 0)) ∧ Below B w wr2) (fun t _ => n - (intOf t).toNat)
  case atStart => exact ⟨k + 1, by omega, by omega, by go_num, HM, hx, hB⟩
  case round =>
    clear HM hx hB
    obtain ⟨j, hkj, hjn, rfl, HMj, hxj, hBj⟩ := hrel
    have ck := one_atB hxj
    have zk := lt_of_block hxj
    by_cases hlj : j < n
    · obtain ⟨m1, m2, m3, m4, m5, m6⟩ := HMj.out
      obtain ⟨c_ai, f_ai⟩ := m3 i (by omega)
      obtain ⟨c_ak, f_ak⟩ := m3 k (by omega)
      obtain ⟨_, s_i, _, p_i, _⟩ := m4 i (by omega)
      obtain ⟨_, s_k, _, p_k, _⟩ := m4 k (by omega)
      obtain ⟨c_ij, f_ij⟩ := m5 i j (by omega) hlj
      have c_kk := (m5 k k (by omega) (by omega)).1
      have c_ik := (m5 i k (by omega) (by omega)).1
      have c_kj := (m5 k j (by omega) hlj).1
      rw [show gS M1 la k i j i j = ent M1 i j by unfold gS; rw [if_neg]; omega] at c_ij
      rw [show gS M1 la k i j k k = ent M1 k k by unfold gS; rw [if_neg]; omega] at c_kk
      rw [show gS M1 la k i j i k = ent M1 i k by unfold gS; rw [if_neg]; omega] at c_ik
      rw [show gS M1 la k i j k j = ent M1 k j by unfold gS; rw [if_neg]; omega] at c_kj
      obtain ⟨v, hv⟩ : ∃ v, stepE M1 la k i j = v := ⟨_, rfl⟩
      have HV := Lib.hid hv
      unfold stepE at hv
      have x1 := BW.out i j hi hlj
      have x2 := BW.out k k (by omega) (by omega)
      have x3 := BW.out i k hi (by omega)
      have x4 := BW.out k j (by omega) hlj
      generalize ent M1 i j = x at *
      generalize ent M1 k k = y at *
      generalize ent M1 i k = z at *
      generalize ent M1 k j = u at *
      obtain ⟨P1, hP1⟩ : ∃ P, x * y = P := ⟨_, rfl⟩
      obtain ⟨P2, hP2⟩ : ∃ P, z * u = P := ⟨_, rfl⟩
      obtain ⟨P3, hP3⟩ : ∃ P, P1 - P2 = P := ⟨_, rfl⟩
      have y1 := mul_le3 (A := 100000000) (B := 100000000) x1.1 x1.2 x2.1 x2.2 (by omega)
      have y2 := mul_le3 (A := 100000000) (B := 100000000) x3.1 x3.2 x4.1 x4.2 (by omega)
      rw [hP1] at y1
      rw [hP2] at y2
      rw [hP1, hP2, hP3] at hv
      have y3 : -20000000000000000 ≤ v ∧ v ≤ 20000000000000000 := by rw [← hv]; exact tdiv_le0 (by omega) (by omega)
      have w1 : IntKind.i64.wrap P1 = P1 := wrap_i64j _ (by omega) (by omega)
      have w2 : IntKind.i64.wrap P2 = P2 := wrap_i64j _ (by omega) (by omega)
      have w3 : IntKind.i64.wrap P3 = P3 := wrap_i64j _ (by omega) (by omega)
      have w4 : IntKind.i64.wrap v = v := wrap_i64j _ (by omega) (by omega)
      have l0 : (la == 0) = false := by simpa using b2
      have HS := Lib.hid (HMj.out.set hi hlj v)
      have hbi := hbp.out i hi
      have HBW := Lib.hid (HMj.out.2.2.2.1 i hi).1
      have hbk := hbp.out k (by omega)
      have HX := Lib.hid hxj
      have HBJ := Lib.hid hBj
      clear m1 m3 m4 m5 m6 x1 x2 x3 x4 HMj hxj hBj y1 y2 y3 hexit
      have hkn : k < n := by omega
      go_wp2_with fail
      go_still_tail 39, (by kernel_rfl)
      change wpList _ _ _ _ _ wr.drew
      go_wp2
      go_roundw
      case rel =>
        go_light
        refine ⟨j + 1, by omega, by omega, by go_num, Lib.hid ?_, ?_, ?_⟩
        · skip
          refine (HS.out.drewN (m := 1)).congr fun r c hr hc => ?_
          unfold gS
          by_cases e : r = i ∧ c = j
          · obtain ⟨rfl, rfl⟩ := e
            rw [if_pos ⟨rfl, rfl⟩, if_pos (by omega)]; exact HV.out.symm
          · rw [if_neg e]; congr 1; rw [eq_iff_iff]; omega
        · show (wr.setCell ⟨bW i, j, none⟩ (.int .i64 v)).heap[pk]? = _
          rw [Below.heap_setCell _ _ _ _ (by show pk ≠ bW i; omega)]; exact HX.out
        · exact (HBJ.out.setCell (by show B ≤ bW i; have := HBW.out; omega) _).drew
      case measure => go_light; simp [intOf]; omega
    · obtain rfl : j = n := by omega
      go_wp2
      exact ⟨rfl, hexit _ _ _ _ _ _ _ _ _ _ _ _ _ _ _ _ _ _ _ _ _ _ _ _ _ _ _ _ _ _ _ _ _ _ _ _ _ _ _ _ _ _ _ _ _ HMj hxj hBj⟩

set_option maxRecDepth 100000 in
set_option maxHeartbeats 2000000 in
theorem det_i (w : World) (A B n pk k : Nat) (la : Int) (M1 : List (List Int)) (bW cW : Nat → Nat) (R : Act → World → Prop) (hn : n ≤ 12) (hk : k < n) (hBA : B ≤ A)
    (BW : Hid (∀ i j, i < n → j < n → -100000000 ≤ ent M1 i j ∧ ent M1 i j ≤ 100000000)) (b2 : la ≠ 0) (b3 : -100000000 ≤ la) (b4 : la ≤ 100000000)
    (W : World) (HM : Hid (MatAt W B A n bW cW (ent M1))) (hx : W.heap[pk]? = some (.cells #[.int .i64 k] 3 (0, 0))) (hpk : ∀ r, r < n → bW r < pk) (hB : Below B w W)
    (c0 c1 c2 c5 c6 c7 c8 c11 c13 c14 c15 c16 c17 c18 c19 c20 c21 c22 c23 c24 c25 c26 c27 c28 c29 c30 c31 c32 c33 c34 c35 c36 c37 c38 c39 c40 c41 c42 c43 c44 c45 c46 c47 c48 c49 c50 c51 c52 c53 c54 c55 c56 c57 c58 c59 c60 c61 c62 c63 c64 c65 c66 c67 c68 c69 c70 c71 c72 c73 c74 c75 c76 c77 c78 c79 c80 c81 c82 c83 c84 c85 c86 c87 c88 c89 c90 c91 c92 c93 c94 c95 c96 c97 c98 c99 c100 c101 c102 c103 c104 c105 c106 c107 c108 c109 c110 c111 c112 c113 c114 c115 c116 c117 c118 c119 c120 c121 c122 c123 c124 c125 c126 c127 c128 c129 c130 c131 c132 c133 c134 c135 c136 c137 c138 c139 c140 c141 c142 c143 c144 c145 c146 c147 c148 : Value)
    (hexit : ∀ (u13 u79 u80 u81 u82 u83 u84 u85 u86 u87 u88 u89 u90 u91 u92 u93 u94 u95 u96 u97 u98 u99 u100 u101 u102 u103 u104 u105 u106 u107 u108 u109 u110 u111 u112 u113 u114 u115 u116 u117 u118 u119 u120 u121 u122 u123 u124 u125 u126 u127 u128 u129 : Value) (w' : World), Hid (MatAt w' B A n bW cW (gS M1 la k n 0)) → w'.heap[pk]? = some (.cells #[.int .i64 k] 3 (0, 0)) → Below B w w' → R ⟨List.toArray (c0 :: c1 :: c2 :: .int .i64 n :: .slice (some ⟨A, 0, none⟩) n n :: c5 :: c6 :: c7 :: c8 :: .int .i64 la :: .pointer (some ⟨pk, 0, none⟩) :: c11 :: .int .i64 n :: u13 :: c14 :: c15 :: c16 :: c17 :: c18 :: c19 :: c20 :: c21 :: c22 :: c23 :: c24 :: c25 :: c26 :: c27 :: c28 :: c29 :: c30 :: c31 :: c32 :: c33 :: c34 :: c35 :: c36 :: c37 :: c38 :: c39 :: c40 :: c41 :: c42 :: c43 :: c44 :: c45 :: c46 :: c47 :: c48 :: c49 :: c50 :: c51 :: c52 :: c53 :: c54 :: c55 :: c56 :: c57 :: c58 :: c59 :: c60 :: c61 :: c62 :: c63 :: c64 :: c65 :: c66 :: c67 :: c68 :: c69 :: c70 :: c71 :: c72 :: c73 :: c74 :: c75 :: c76 :: c77 :: c78 :: u79 :: u80 :: u81 :: u82 :: u83 :: u84 :: u85 :: u86 :: u87 :: u88 :: u89 :: u90 :: u91 :: u92 :: u93 :: u94 :: u95 :: u96 :: u97 :: u98 :: u99 :: u100 :: u101 :: u102 :: u103 :: u104 :: u105 :: u106 :: u107 :: u108 :: u109 :: u110 :: u111 :: u112 :: u113 :: u114 :: u115 :: u116 :: u117 :: u118 :: u119 :: u120 :: u121 :: u122 :: u123 :: u124 :: u125 :: u126 :: u127 :: u128 :: u129 :: c130 :: c131 :: c132 :: c133 :: c134 :: c135 :: c136 :: c137 :: c138 :: c139 :: c140 :: c141 :: c142 :: c143 :: c144 :: c145 :: c146 :: c147 :: c148 :: []), []⟩ w') :
    Code.wp Try.prog (Code.loop (detBody 3)) (OnExit 6 R) ⟨List.toArray (c0 :: c1 :: c2 :: .int .i64 n :: .slice (some ⟨A, 0, none⟩) n n :: c5 :: c6 :: c7 :: c8 :: .int .i64 la :: .pointer (some ⟨pk, 0, none⟩) :: c11 :: .int .i64 (k + 1) :: c13 :: c14 :: c15 :: c16 :: c17 :: c18 :: c19 :: c20 :: c21 :: c22 :: c23 :: c24 :: c25 :: c26 :: c27 :: c28 :: c29 :: c30 :: c31 :: c32 :: c33 :: c34 :: c35 :: c36 :: c37 :: c38 :: c39 :: c40 :: c41 :: c42 :: c43 :: c44 :: c45 :: c46 :: c47 :: c48 :: c49 :: c50 :: c51 :: c52 :: c53 :: c54 :: c55 :: c56 :: c57 :: c58 :: c59 :: c60 :: c61 :: c62 :: c63 :: c64 :: c65 :: c66 :: c67 :: c68 :: c69 :: c70 :: c71 :: c72 :: c73 :: c74 :: c75 :: c76 :: c77 :: c78 :: c79 :: c80 :: c81 :: c82 :: c83 :: c84 :: c85 :: c86 :: c87 :: c88 :: c89 :: c90 :: c91 :: c92 :: c93 :: c94 :: c95 :: c96 :: c97 :: c98 :: c99 :: c100 :: c101 :: c102 :: c103 :: c104 :: c105 :: c106 :: c107 :: c108 :: c109 :: c110 :: c111 :: c112 :: c113 :: c114 :: c115 :: c116 :: c117 :: c118 :: c119 :: c120 :: c121 :: c122 :: c123 :: c124 :: c125 :: c126 :: c127 :: c128 :: c129 :: c130 :: c131 :: c132 :: c133 :: c134 :: c135 :: c136 :: c137 :: c138 :: c139 :: c140 :: c141 :: c142 :: c143 :: c144 :: c145 :: c146 :: c147 :: c148 :: []), []⟩ W := by
  conv => arg 2; arg 1; whnf
  have hbp := Lib.hid hpk
  have BL := Lib.hid b2
  have hM0 := Lib.hid (HM.out.congr (g := gS M1 la k (k + 1) 0) (fun r c _ _ => by unfold gS; rw [if_neg]; omega))
  clear HM hpk b2
  go_loopw [12] (fun t wr2 => ∃ i : Nat, k < i ∧ i ≤ n ∧ t = .int .i64 i ∧ Hid (MatAt wr2 B A n bW cW (gS M1 la k i 0)) ∧ wr2.heap[pk]? = some (.cells #[.int .i64 k] 3 (0, 0)) ∧ Below B w wr2) (fun t _ => n - (intOf t).toNat)
  case atStart => exact ⟨k + 1, by omega, by omega, by go_num, hM0, hx, hB⟩
  case round =>
    clear hM0 hx hB
    obtain ⟨i, hki, hin, rfl, HMi, hxi, hBi⟩ := hrel
    have ck := one_atB hxi
    have zk := lt_of_block hxi
    by_cases hli : i < n
    · go_wp2
      have hM1 := Lib.hid (HMi.out.congr (g := gS M1 la k i (k + 1)) (fun r c _ _ => by unfold gS; congr 1; rw [eq_iff_iff]; omega))
      clear HMi ck
      refine wp_onExit (k := 8) (det_j w A B n pk k i la M1 bW cW _ hn hki hli hBA BW BL.out b3 b4 _ hM1 hxi hbp.out hBi _ _ _ _ _ _ _ _ _ _ _ _ _ _ _ _ _ _ _ _ _ _ _ _ _ _ _ _ _ _ _ _ _ _ _ _ _ _ _ _ _ _ _ _ _ _ _ _ _ _ _ _ _ _ _ _ _ _ _ _ _ _ _ _ _ _ _ _ _ _ _ _ _ _ _ _ _ _ _ _ _ _ _ _ _ _ _ _ _ _ _ _ _ _ _ _ _ _ _ _ _ _ _ _ _ _ _ _ _ _ _ _ _ _ _ _ _ _ _ _ _ _ _ _ _ _ _ _ _ _ _ _ _ _ _ _ _ _ _ _ _ _ _ ?_)
      intro v86 v87 v88 v89 v90 v91 v92 v93 v94 v95 v96 v97 v98 v99 v100 v101 v102 v103 v104 v105 v106 v107 v108 v109 v110 v111 v112 v113 v114 v115 v116 v117 v118 v119 v120 v121 v122 v123 v124 v125 v126 v127 v128 v129 w2 HM2 hx2 hB2
      have hM3 := Lib.hid (HM2.out.congr (g := gS M1 la k (i + 1) 0) (fun r c hr hc => by unfold gS; congr 1; rw [eq_iff_iff]; omega))
      clear HM2 hM1 hxi hBi
      go_wp2
      go_roundw
      case rel => go_light; exact ⟨i + 1, by omega, by omega, by go_num, hM3, hx2, hB2⟩
      case measure => go_light; simp [intOf]; omega
    · obtain rfl : i = n := by omega
      go_wp2
      exact ⟨rfl, hexit _ _ _ _ _ _ _ _ _ _ _ _ _ _ _ _ _ _ _ _ _ _ _ _ _ _ _ _ _ _ _ _ _ _ _ _ _ _ _ _ _ _ _ _ _ _ _ _ _ _ _ _ _ HMi hxi hBi⟩
end Go.Proofs.Ytiapngmallfelaa
