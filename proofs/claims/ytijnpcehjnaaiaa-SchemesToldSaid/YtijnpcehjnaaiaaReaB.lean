/- Walks: the reason, from the solutions on. -/
import Derived.Test.YtijnpcehjnaaiaaReaA
namespace Go.Proofs.Ytijnpcehjnaaiaa
open Go.RowKit

set_option maxHeartbeats 1000000 in
theorem prea3 (w : World) (N K L M : Int) (ha : Ask N K L M) (h : K * (K - L - 1) = (N - K - 1) * M) (hm : ¬ (M = 0 ∨ M = K)) (hno : ¬ ∃ R S, Roots K L M R S) :
    Calls Try.prog 69 #[agg4 N K L M] w fun e w' => e = .returned (.int .i64 (reaO N K L M none)) ∧ Below w.heap.size w w' := by
  have HA := Lib.hid ha
  have HN := Lib.hid hno
  clear hno
  obtain ⟨a1, a2, a3, a4, a5, a6, a7, a8⟩ := ha
  obtain ⟨p1, p2⟩ := mul_le2 (a := K) (b := K - L - 1) (A := 100) (B := 100) (by omega) (by omega) (by omega) (by omega) (by omega)
  obtain ⟨p3, p4⟩ := mul_le2 (a := N - K - 1) (b := M) (A := 100) (B := 100) (by omega) (by omega) (by omega) (by omega) (by omega)
  obtain ⟨p5, p6⟩ := mul_le2 (a := N - 1) (b := L - M) (A := 100) (B := 100) (by omega) (by omega) (by omega) (by omega) (by omega)
  obtain ⟨X, hX⟩ : ∃ X, K * (K - L - 1) = X := ⟨_, rfl⟩
  obtain ⟨Y, hY⟩ : ∃ Y, (N - K - 1) * M = Y := ⟨_, rfl⟩
  obtain ⟨Z, hZ⟩ : ∃ Z, (N - 1) * (L - M) = Z := ⟨_, rfl⟩
  rw [hX, hY] at h
  rw [hX] at p1 p2
  rw [hY] at p3 p4
  rw [hZ] at p5 p6
  obtain ⟨n, hn⟩ : ∃ n : Nat, N = n := ⟨N.toNat, by omega⟩
  have hn1 : N.toNat = n := by omega
  have t0 : (M == 0) = false := by simp; omega
  have t1 : (M == K) = false := by simp; omega
  have tx : (X != Y) = false := by simp [h]
  have ty : ¬ X ≠ Y := by simp [h]
  have hR : reaO N K L M none = if 2 * K + Z = 0 ∧ sq2 n = true then 0 else 3 := by unfold reaO; rw [hZ, hn1]
  have HR := Lib.hid hR
  have HNn := Lib.hid hn
  clear h hm hn1 hR hn
  obtain ⟨Q, hQ⟩ : ∃ Q, 2 * K + Z = Q := ⟨_, rfl⟩
  have HQ := Lib.hid hQ
  go_enter Try.func69, Try.ntmps69
  go_wp2_with fail
  refine (values_none _ N K L M HA.out HN.out).mono ?_
  rintro e w' ⟨⟨r, s, rfl⟩, hb⟩
  have hx := kept0 hb
  have hB := below0 hb
  clear hb
  obtain ⟨z, c0, c1, c2, c3, _, _, _, _⟩ := four_at hx
  by_cases q0 : Q = 0
  · have tq : (Q != 0) = false := by simp [q0]
    have tq2 : ¬ Q ≠ 0 := by simp [q0]
    have Q0 := Lib.hid q0
    clear q0
    go_wp2_with fail
    rw [HNn.out]
    refine (twosq_go _ n (by have := HNn.out; omega)).mono ?_
    rintro e w2 ⟨rfl, hb⟩
    have hB2 := btr hB hb
    cases hs : sq2 n with
    | true =>
      have HS := Lib.hid hs
      clear hs
      go_wp2
      go_ret
      exact ⟨by rw [HR.out, HQ.out, if_pos ⟨Q0.out, HS.out⟩]; rfl, hB2⟩
    | false =>
      have HS := Lib.hid hs
      clear hs
      go_wp2
      go_ret
      exact ⟨by rw [HR.out, if_neg (by rw [HS.out]; simp)]; rfl, hB2⟩
  · have tq : (Q != 0) = true := by simp [q0]
    have Q0 := Lib.hid q0
    clear q0
    go_wp2
    go_ret
    exact ⟨by rw [HR.out, HQ.out, if_neg (fun hh => Q0.out hh.1)]; rfl, hB⟩

set_option maxHeartbeats 1000000 in
theorem prea4 (w : World) (N K L M R S : Int) (ha : Ask N K L M) (h : K * (K - L - 1) = (N - K - 1) * M) (hm : ¬ (M = 0 ∨ M = K)) (hro : Roots K L M R S) :
    Calls Try.prog 69 #[agg4 N K L M] w fun e w' => e = .returned (.int .i64 (reaO N K L M (some (R, S)))) ∧ Below w.heap.size w w' := by
  have hmf : ∀ (fn : Fn) (first cap : Array Value) (w : World), (Instr.makeFunc fn first cap).run Try.prog w = .ok (.func fn first cap) w := fun _ _ _ _ => rfl
  obtain ⟨b1, b2, b3, b4⟩ := roots_bounds ha hro
  obtain ⟨g1, g2⟩ := fF_bounds ha hro
  have HA := Lib.hid ha
  have HO := Lib.hid hro
  clear hro
  obtain ⟨a1, a2, a3, a4, a5, a6, a7, a8⟩ := ha
  obtain ⟨p1, p2⟩ := mul_le2 (a := K) (b := K - L - 1) (A := 100) (B := 100) (by omega) (by omega) (by omega) (by omega) (by omega)
  obtain ⟨p3, p4⟩ := mul_le2 (a := N - K - 1) (b := M) (A := 100) (B := 100) (by omega) (by omega) (by omega) (by omega) (by omega)
  obtain ⟨X, hX⟩ : ∃ X, K * (K - L - 1) = X := ⟨_, rfl⟩
  obtain ⟨Y, hY⟩ : ∃ Y, (N - K - 1) * M = Y := ⟨_, rfl⟩
  rw [hX, hY] at h
  rw [hX] at p1 p2
  rw [hY] at p3 p4
  have t0 : (M == 0) = false := by simp; omega
  have t1 : (M == K) = false := by simp; omega
  have tx : (X != Y) = false := by simp [h]
  have ty : ¬ X ≠ Y := by simp [h]
  clear h hm
  obtain ⟨b, hb⟩ : ∃ b, wholeB N K R S = b := ⟨_, rfl⟩
  obtain ⟨c5, h5⟩ : ∃ c, bndB K R S = c := ⟨_, rfl⟩
  obtain ⟨c6, h6⟩ : ∃ c, bndB K S R = c := ⟨_, rfl⟩
  obtain ⟨F, hF⟩ : ∃ F, fF N K R S = F := ⟨_, rfl⟩
  obtain ⟨c7, h7⟩ : ∃ c, roomB N F = c := ⟨_, rfl⟩
  obtain ⟨c8, h8⟩ : ∃ c, roomB N (N - 1 - F) = c := ⟨_, rfl⟩
  rw [hF] at g1 g2
  have HR := Lib.hid (show reaO N K L M (some (R, S)) = if (b && decide (1 ≤ F) && decide (1 ≤ N - 1 - F)) = false then 4 else if (c5 || c6) = true then 5 else if (c7 || c8) = true then 6 else 0 by
    subst hb hF h5 h6 h7 h8; rfl)
  have H5 := Lib.hid h5
  have H6 := Lib.hid h6
  have H7 := Lib.hid h7
  have H8 := Lib.hid h8
  have HF := Lib.hid hF
  have HB := Lib.hid hb
  clear h5 h6 h7 h8 hF hb
  go_enter Try.func69, Try.ntmps69
  go_wp2_with fail
  refine (values_some _ N K L M R S HA.out HO.out).mono ?_
  rintro e w' ⟨rfl, hb⟩
  have hx := kept0 hb
  have hB := below0 hb
  clear hb
  obtain ⟨z, c0, c1, c2, c3, _, _, _, _⟩ := four_at hx
  go_wp2_with fail
  refine (solve_go _ N K L M R S HA.out HO.out).mono ?_
  rw [HF.out, HB.out]
  rintro e w3 ⟨rfl, hb⟩
  have hx3 := persist hx hb
  have hB3 := btr hB hb
  clear hb hx hB z c0 c1 c2 c3
  obtain ⟨z, c0, c1, c2, c3, _, _, _, _⟩ := four_at hx3
  obtain ⟨m, hm⟩ : ∃ m, (if N - 1 - F < F then N - 1 - F else F) = m := ⟨_, rfl⟩
  have HM := Lib.hid (show m < 1 ↔ (F < 1 ∨ N - 1 - F < 1) by rw [← hm]; split <;> omega)
  cases b with
  | false =>
    have HV := Lib.hid (show reaO N K L M (some (R, S)) = 4 by rw [HR.out]; simp)
    go_wp2
    go_ret
    exact ⟨by rw [HV.out]; rfl, bal hB3 _⟩
  | true =>
    by_cases g : m < 1
    · have HV := Lib.hid (show reaO N K L M (some (R, S)) = 4 by
        rw [HR.out, if_pos]
        have := HM.out.1 g
        simp
        omega)
      go_wp2
      go_ret
      exact ⟨by rw [HV.out]; rfl, bal hB3 _⟩
    · have HR2 := Lib.hid (show reaO N K L M (some (R, S)) = if (c5 || c6) = true then 5 else if (c7 || c8) = true then 6 else 0 by
        rw [HR.out, if_neg]
        have := mt HM.out.2 g
        simp
        omega)
      clear HM
      go_wp2_with fail
      refine (bound_go _ w.heap.size N K L M R S (persist hx3 (bal (Below.refl _ _) _)) (by omega) (by omega) (by omega) (by omega) (by omega) (by omega)).mono ?_
      rw [H5.out]
      rintro e w4 ⟨rfl, hb⟩
      obtain ⟨hx4, hy4⟩ : w4.heap[w.heap.size]? = some (.cells #[.int .i64 N, .int .i64 K, .int .i64 L, .int .i64 M] 24 (0, 0)) ∧ w4.heap[w3.heap.size]? = some (.cells #[.int .i64 R, .int .i64 S, .int .i64 F, .int .i64 (N - 1 - F)] 52 (0, 0)) :=
        ⟨persist (persist hx3 (bal (Below.refl _ _) _)) hb, kept0 hb⟩
      have hB4 := btr (bal hB3 _) hb
      clear hb
      cases c5 with
      | true =>
        have HV := Lib.hid (show reaO N K L M (some (R, S)) = 5 by rw [HR2.out]; simp)
        go_wp2
        go_ret
        exact ⟨by rw [HV.out]; rfl, hB4⟩
      | false =>
        go_wp2_with fail
        refine (bound_go _ w.heap.size N K L M S R hx4 (by omega) (by omega) (by omega) (by omega) (by omega) (by omega)).mono ?_
        rw [H6.out]
        rintro e w5 ⟨rfl, hb⟩
        have hx5 := persist hx4 hb
        have hy5 := persist hy4 hb
        have hB5 := btr hB4 hb
        clear hb
        obtain ⟨z2, d0, d1, d2, d3, _, _, _, _⟩ := four_at hy5
        cases c6 with
        | true =>
          have HV := Lib.hid (show reaO N K L M (some (R, S)) = 5 by rw [HR2.out]; simp)
          go_wp2
          go_ret
          exact ⟨by rw [HV.out]; rfl, hB5⟩
        | false =>
          go_wp2_with fail
          refine (room_go _ w.heap.size N K L M F hx5 (by omega) (by omega) (by omega) (by omega)).mono ?_
          rw [H7.out]
          rintro e w6 ⟨rfl, hb⟩
          have hx6 := persist hx5 hb
          have hy6 := persist hy5 hb
          have hB6 := btr hB5 hb
          clear hb d0 d1 d2 d3 z2
          obtain ⟨z2, d0, d1, d2, d3, _, _, _, _⟩ := four_at hy6
          cases c7 with
          | true =>
            have HV := Lib.hid (show reaO N K L M (some (R, S)) = 6 by rw [HR2.out]; simp)
            go_wp2
            go_ret
            exact ⟨by rw [HV.out]; rfl, hB6⟩
          | false =>
            go_wp2_with fail
            refine (room_go _ w.heap.size N K L M (N - 1 - F) hx6 (by omega) (by omega) (by omega) (by omega)).mono ?_
            rw [H8.out]
            rintro e w7 ⟨rfl, hb⟩
            have hB7 := btr hB6 hb
            clear hb
            cases c8 with
            | true =>
              have HV := Lib.hid (show reaO N K L M (some (R, S)) = 6 by rw [HR2.out]; simp)
              go_wp2
              go_ret
              exact ⟨by rw [HV.out]; rfl, hB7⟩
            | false =>
              have HV := Lib.hid (show reaO N K L M (some (R, S)) = 0 by rw [HR2.out]; simp)
              go_wp2
              go_ret
              exact ⟨by rw [HV.out]; rfl, hB7⟩
end Go.Proofs.Ytijnpcehjnaaiaa
