/- Walks: Reason of the reference, with whole solutions. -/
import Derived.Test.YtijnpcehjnaaiaaReaC
namespace Go.Proofs.Ytijnpcehjnaaiaa
open Go.RowKit

theorem okR_okS {N K R S : Int} (h : okS N K R S = false) : okR N K R S = false := by
  cases q : okR N K R S with
  | false => rfl
  | true =>
    unfold okR at q; unfold okS at h
    simp only [Bool.and_eq_true, decide_eq_true_eq] at q
    obtain ⟨⟨q1, q2⟩, q3⟩ := q
    simp [q1] at h
    omega
theorem bndB_comm (K R S : Int) : bndB K S R = decide ((K + S) * (R + 1) * (R + 1) < (S + 1) * (K + S + 2 * R * S)) := by
  unfold bndB
  rw [show 2 * S * R = 2 * R * S by rw [Int.mul_assoc, Int.mul_comm S R, ← Int.mul_assoc]]

set_option maxRecDepth 100000 in
set_option maxHeartbeats 1000000 in
theorem rrea4bad (w : World) (N K L M R S : Int) (ha : Ask N K L M) (h : K * (K - L - 1) = (N - K - 1) * M) (hm : ¬ (M = 0 ∨ M = K)) (hro : Roots K L M R S) (hs : okS N K R S = false) :
    Calls Try.prog 46 #[agg4 N K L M] w fun e w' => e = .returned (.tuple #[.int .i64 4, .int .i64 0]) ∧ Below w.heap.size w w' := by
  have HA := Lib.hid ha
  have HO := Lib.hid hro
  have HS := Lib.hid hs
  clear hro hs
  obtain ⟨a1, a2, a3, a4, a5, a6, a7, a8⟩ := ha
  obtain ⟨p1, p2⟩ := mul_le2 (a := K) (b := K - L - 1) (A := 100) (B := 100) (by omega) (by omega) (by omega) (by omega) (by omega)
  obtain ⟨p3, p4⟩ := mul_le2 (a := N - K - 1) (b := M) (A := 100) (B := 100) (by omega) (by omega) (by omega) (by omega) (by omega)
  obtain ⟨X, hX⟩ : ∃ X, K * (K - L - 1) = X := ⟨_, rfl⟩
  obtain ⟨Y, hY⟩ : ∃ Y, (N - K - 1) * M = Y := ⟨_, rfl⟩
  rw [hX, hY] at h
  rw [hX] at p1 p2
  rw [hY] at p3 p4
  have t0 : (M == 0) = false := by simp; omega
  have t1 : (M == K) = false := by simp; omega
  have tx : (X != Y) = false := by simp [h]
  have ty : ¬ X ≠ Y := by simp [h]
  clear h hm
  go_enter Try.func46, Try.ntmps46
  go_wp2_with fail
  refine (roots_some _ N K L M R S HA.out HO.out).mono ?_
  rintro e w' ⟨rfl, hb⟩
  have hx := kept0 hb
  have hB := below0 hb
  clear hb
  obtain ⟨z, c0, c1, c2, c3, _, _, _, _⟩ := four_at hx
  go_wp2_with fail
  refine (rsolve_some _ N K L M R S HA.out HO.out).mono ?_
  rw [show solA N K (some (R, S)) = agg4 0 0 0 0 by simp [solA, HS.out], show solE N K (some (R, S)) = 4 by simp [solE, HS.out]]
  rintro e w3 ⟨rfl, hb⟩
  have hx3 := persist hx hb
  have hB3 := btr hB hb
  clear hb hx hB z c0 c1 c2 c3
  obtain ⟨z, c0, c1, c2, c3, _, _, _, _⟩ := four_at hx3
  go_wp2
  go_ret2
  exact ⟨rfl, bal hB3 _⟩

set_option maxRecDepth 100000 in
set_option maxHeartbeats 4000000 in
theorem rrea4 (w : World) (N K L M R S : Int) (ha : Ask N K L M) (h : K * (K - L - 1) = (N - K - 1) * M) (hm : ¬ (M = 0 ∨ M = K)) (hro : Roots K L M R S) (hs : okS N K R S = true) :
    Calls Try.prog 46 #[agg4 N K L M] w fun e w' => e = .returned (.tuple #[.int .i64 (reaO N K L M (some (R, S))), .int .i64 (reaE (reaO N K L M (some (R, S))))]) ∧ Below w.heap.size w w' := by
  obtain ⟨b1, b2, b3, b4⟩ := roots_bounds ha hro
  obtain ⟨g1, g2⟩ := fF_bounds ha hro
  have HA := Lib.hid ha
  have HO := Lib.hid hro
  have HS := Lib.hid hs
  clear hro hs
  obtain ⟨a1, a2, a3, a4, a5, a6, a7, a8⟩ := ha
  obtain ⟨p1, p2⟩ := mul_le2 (a := K) (b := K - L - 1) (A := 100) (B := 100) (by omega) (by omega) (by omega) (by omega) (by omega)
  obtain ⟨p3, p4⟩ := mul_le2 (a := N - K - 1) (b := M) (A := 100) (B := 100) (by omega) (by omega) (by omega) (by omega) (by omega)
  obtain ⟨X, hX⟩ : ∃ X, K * (K - L - 1) = X := ⟨_, rfl⟩
  obtain ⟨Y, hY⟩ : ∃ Y, (N - K - 1) * M = Y := ⟨_, rfl⟩
  rw [hX, hY] at h
  rw [hX] at p1 p2
  rw [hY] at p3 p4
  have t0 : (M == 0) = false := by simp; omega
  have t1 : (M == K) = false := by simp; omega
  have tx : (X != Y) = false := by simp [h]
  have ty : ¬ X ≠ Y := by simp [h]
  clear h hm
  obtain ⟨F, hF⟩ : ∃ F, fF N K R S = F := ⟨_, rfl⟩
  rw [hF] at g1 g2
  have hw : wholeB N K R S = true := by
    have := HS.out
    unfold okS at this
    simp only [Bool.and_eq_true] at this
    exact this.1.1
  obtain ⟨q1, q2⟩ := mul_le2 (a := 2 * R) (b := S) (A := 196) (B := 98) (by omega) (by omega) (by omega) (by omega) (by omega)
  obtain ⟨q3, q4⟩ := mul_le2 (a := R + 1) (b := K + R + 2 * R * S) (A := 99) (B := 20000) (by omega) (by omega) (by omega) (by omega) (by omega)
  obtain ⟨q5, q6⟩ := mul_le2 (a := K + R) (b := S + 1) (A := 200) (B := 99) (by omega) (by omega) (by omega) (by omega) (by omega)
  obtain ⟨q7, q8⟩ := mul_le2 (a := (K + R) * (S + 1)) (b := S + 1) (A := 19800) (B := 99) (by omega) (by omega) (by omega) (by omega) (by omega)
  obtain ⟨r3, r4⟩ := mul_le2 (a := S + 1) (b := K + S + 2 * R * S) (A := 99) (B := 20000) (by omega) (by omega) (by omega) (by omega) (by omega)
  obtain ⟨r5, r6⟩ := mul_le2 (a := K + S) (b := R + 1) (A := 200) (B := 99) (by omega) (by omega) (by omega) (by omega) (by omega)
  obtain ⟨r7, r8⟩ := mul_le2 (a := (K + S) * (R + 1)) (b := R + 1) (A := 19800) (B := 99) (by omega) (by omega) (by omega) (by omega) (by omega)
  obtain ⟨G, hG⟩ : ∃ G, N - 1 - F = G := ⟨_, rfl⟩
  obtain ⟨s1, s2⟩ := mul_le2 (a := F) (b := F + 3) (A := 10000) (B := 10003) (by omega) (by omega) (by omega) (by omega) (by omega)
  obtain ⟨s3, s4⟩ := mul_le2 (a := G) (b := G + 3) (A := 10100) (B := 10103) (by omega) (by omega) (by omega) (by omega) (by omega)
  have HR := Lib.hid (show reaO N K L M (some (R, S)) = if (decide (1 ≤ F) && decide (1 ≤ G)) = false then 4 else if (bndB K R S || bndB K S R) = true then 5 else if (roomB N F || roomB N G) = true then 6 else 0 by
    subst hG hF; simp only [reaO, okR, hw, Bool.true_and])
  rw [bndB_comm K R S] at HR
  unfold bndB roomB at HR
  have hA : solA N K (some (R, S)) = agg4 R S F G := by simp [solA, HS.out, hF, hG]
  have hE : solE N K (some (R, S)) = 0 := by simp [solE, HS.out]
  clear hw
  have HF := Lib.hid hF
  have HG := Lib.hid hG
  have hG1 : G ≤ 10100 := by omega
  have hG2 : -10100 ≤ G := by omega
  clear hF hG
  go_enter Try.func46, Try.ntmps46
  go_wp2_with fail
  refine (roots_some _ N K L M R S HA.out HO.out).mono ?_
  rintro e w' ⟨rfl, hb⟩
  have hx := kept0 hb
  have hB := below0 hb
  clear hb
  obtain ⟨z, c0, c1, c2, c3, _, _, _, _⟩ := four_at hx
  go_wp2_with fail
  refine (rsolve_some _ N K L M R S HA.out HO.out).mono ?_
  rw [hA, hE]
  rintro e w3 ⟨rfl, hb⟩
  have hx3 := persist hx hb
  have hB3 := btr hB hb
  clear hb hx hB z c0 c1 c2 c3 hA hE
  obtain ⟨z, c0, c1, c2, c3, _, _, _, _⟩ := four_at hx3
  obtain ⟨A1, h1⟩ : ∃ x, (R + 1) * (K + R + 2 * R * S) = x := ⟨_, rfl⟩
  obtain ⟨A2, h2⟩ : ∃ x, (K + R) * (S + 1) * (S + 1) = x := ⟨_, rfl⟩
  obtain ⟨A3, h3⟩ : ∃ x, (S + 1) * (K + S + 2 * R * S) = x := ⟨_, rfl⟩
  obtain ⟨A4, h4⟩ : ∃ x, (K + S) * (R + 1) * (R + 1) = x := ⟨_, rfl⟩
  obtain ⟨A5, h5⟩ : ∃ x, F * (F + 3) = x := ⟨_, rfl⟩
  obtain ⟨A6, h6⟩ : ∃ x, G * (G + 3) = x := ⟨_, rfl⟩
  rw [h1, h2, h3, h4, h5, h6] at HR
  rw [h1] at q3 q4
  rw [h2] at q7 q8
  rw [h3] at r3 r4
  rw [h4] at r7 r8
  rw [h5] at s1 s2
  rw [h6] at s3 s4
  by_cases f1 : F < 1
  · have HV := Lib.hid (show reaO N K L M (some (R, S)) = 4 by rw [HR.out, if_pos]; simp; omega)
    go_wp2
    go_ret2
    exact ⟨by rw [HV.out]; rfl, bal hB3 _⟩
  · by_cases f2 : G < 1
    · have HV := Lib.hid (show reaO N K L M (some (R, S)) = 4 by rw [HR.out, if_pos]; simp; omega)
      go_wp2
      go_ret2
      exact ⟨by rw [HV.out]; rfl, bal hB3 _⟩
    · have hnn : ¬ ((decide (1 ≤ F) && decide (1 ≤ G)) = false) := by simp; omega
      have HR2 := Lib.hid (HR.out.trans (if_neg hnn))
      clear HR hnn
      by_cases i1 : A2 < A1
      · have HV := Lib.hid (show reaO N K L M (some (R, S)) = 5 by rw [HR2.out, if_pos]; simp; omega)
        go_wp2
        go_ret2
        exact ⟨by rw [HV.out]; rfl, bal hB3 _⟩
      · by_cases i2 : A4 < A3
        · have HV := Lib.hid (show reaO N K L M (some (R, S)) = 5 by rw [HR2.out, if_pos]; simp; omega)
          go_wp2
          go_ret2
          exact ⟨by rw [HV.out]; rfl, bal hB3 _⟩
        · have hnn : ¬ ((decide (A2 < A1) || decide (A4 < A3)) = true) := by simp; omega
          have HR3 := Lib.hid (HR2.out.trans (if_neg hnn))
          clear HR2 hnn
          by_cases i3 : A5 < 2 * N
          · have HV := Lib.hid (show reaO N K L M (some (R, S)) = 6 by rw [HR3.out, if_pos]; simp; omega)
            go_wp2
            go_ret2
            exact ⟨by rw [HV.out]; rfl, bal hB3 _⟩
          · by_cases i4 : A6 < 2 * N
            · have HV := Lib.hid (show reaO N K L M (some (R, S)) = 6 by rw [HR3.out, if_pos]; simp; omega)
              go_wp2
              go_ret2
              exact ⟨by rw [HV.out]; rfl, bal hB3 _⟩
            · have HV := Lib.hid (show reaO N K L M (some (R, S)) = 0 by rw [HR3.out, if_neg]; simp; omega)
              go_wp2
              go_ret2
              exact ⟨by rw [HV.out]; rfl, bal hB3 _⟩
end Go.Proofs.Ytijnpcehjnaaiaa
