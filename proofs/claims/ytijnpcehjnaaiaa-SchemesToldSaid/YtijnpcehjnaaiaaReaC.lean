/- Walks: reason whole, Reason of the program and of the reference. -/
import Derived.Test.YtijnpcehjnaaiaaReaB
namespace Go.Proofs.Ytijnpcehjnaaiaa
open Go.RowKit

theorem preason_go (w : World) (N K L M : Int) (o : Option (Int × Int)) (ha : Ask N K L M) (ho : RO K L M o) :
    Calls Try.prog 69 #[agg4 N K L M] w fun e w' => e = .returned (.int .i64 (reaF N K L M o)) ∧ Below w.heap.size w w' := by
  by_cases h : K * (K - L - 1) = (N - K - 1) * M
  · by_cases hm : M = 0 ∨ M = K
    · refine prea2 w N K L M ha h hm _ ?_
      unfold reaF
      rw [if_neg (by simp [h]), if_pos hm]
    · have e : reaF N K L M o = reaO N K L M o := by unfold reaF; rw [if_neg (by simp [h]), if_neg hm]
      rw [e]
      match o, ho with
      | none, ho => exact prea3 w N K L M ha h hm ho
      | some (R, S), ho => exact prea4 w N K L M R S ha h hm ho
  · have e : reaF N K L M o = 1 := by unfold reaF; rw [if_pos h]
    rw [e]
    exact prea1 w N K L M ha h

theorem reaF_small (N K L M : Int) (o : Option (Int × Int)) : 0 ≤ reaF N K L M o ∧ reaF N K L M o ≤ 6 := by
  unfold reaF reaO
  split
  · omega
  · split
    · split <;> omega
    · split
      · split <;> omega
      · split
        · omega
        · split
          · omega
          · split <;> omega
def reaE (r : Int) : Int := if r = 0 then 4 else 0

theorem preasonX_go (w : World) (N K L M : Int) (o : Option (Int × Int)) (ha : Ask N K L M) (ho : RO K L M o) :
    Calls Try.prog 43 #[agg4 N K L M] w fun e w' => e = .returned (.tuple #[.int .i64 (reaF N K L M o), .int .i64 (reaE (reaF N K L M o))]) ∧ Below w.heap.size w w' := by
  have hd : decide (Ask N K L M) = true := by simp [ha]
  go_enter Try.func43, Try.ntmps43
  go_wp2_with fail
  refine (nvalid_go _ N K L M).mono ?_
  rw [hd]
  rintro e w' ⟨rfl, hb⟩
  have hx := kept0 hb
  have hB := below0 hb
  clear hb
  obtain ⟨z, c0, c1, c2, c3, _, _, _, _⟩ := four_at hx
  go_wp2_with fail
  refine (preason_go _ N K L M o ha ho).mono ?_
  obtain ⟨r, hr⟩ : ∃ r, reaF N K L M o = r := ⟨_, rfl⟩
  rw [hr]
  have HRr := Lib.hid hr
  clear hr
  rintro e w2 ⟨rfl, hb⟩
  have hB2 := btr hB hb
  by_cases q : r = 0
  · have tq : (r == 0) = true := by simp [q]
    have HE := Lib.hid (show reaE r = 4 by simp [reaE, q])
    have Q := Lib.hid q
    clear q
    go_wp2
    go_ret2
    exact ⟨by rw [HRr.out, HE.out, Q.out]; rfl, hB2⟩
  · have tq : (r == 0) = false := by simp [q]
    have HE := Lib.hid (show reaE r = 0 by simp [reaE, q])
    go_wp2
    go_ret2
    exact ⟨by rw [HRr.out, HE.out]; rfl, hB2⟩

theorem preasonX_bad (w : World) (N K L M : Int) (ha : ¬ Ask N K L M) :
    Calls Try.prog 43 #[agg4 N K L M] w fun e w' => e = .returned (.tuple #[.int .i64 0, .int .i64 2]) ∧ Below w.heap.size w w' := by
  have hd : decide (Ask N K L M) = false := by simp [ha]
  go_enter Try.func43, Try.ntmps43
  go_wp2_with fail
  refine (nvalid_go _ N K L M).mono ?_
  rw [hd]
  rintro e w' ⟨rfl, hb⟩
  have hB := below0 hb
  go_wp2
  go_ret2
  exact ⟨rfl, hB⟩
set_option maxRecDepth 100000 in
theorem rrea1 (w : World) (N K L M : Int) (ha : Ask N K L M) (h : K * (K - L - 1) ≠ (N - K - 1) * M) :
    Calls Try.prog 46 #[agg4 N K L M] w fun e w' => e = .returned (.tuple #[.int .i64 1, .int .i64 0]) ∧ Below w.heap.size w w' := by
  obtain ⟨a1, a2, a3, a4, a5, a6, a7, a8⟩ := ha
  obtain ⟨p1, p2⟩ := mul_le2 (a := K) (b := K - L - 1) (A := 100) (B := 100) (by omega) (by omega) (by omega) (by omega) (by omega)
  obtain ⟨p3, p4⟩ := mul_le2 (a := N - K - 1) (b := M) (A := 100) (B := 100) (by omega) (by omega) (by omega) (by omega) (by omega)
  go_enter Try.func46, Try.ntmps46
  go_wp2
  go_ret2
  exact ⟨rfl, bal (Below.refl _ _) _⟩

set_option maxRecDepth 100000 in
theorem rrea2 (w : World) (N K L M : Int) (ha : Ask N K L M) (h : K * (K - L - 1) = (N - K - 1) * M) (hm : M = 0 ∨ M = K) (v : Int) (hv : v = if (M = 0 ∧ N.tmod (K + 1) ≠ 0) ∨ (M = K ∧ N.tmod (N - K) ≠ 0) then 2 else 0) :
    Calls Try.prog 46 #[agg4 N K L M] w fun e w' => e = .returned (.tuple #[.int .i64 v, .int .i64 (reaE v)]) ∧ Below w.heap.size w w' := by
  obtain ⟨a1, a2, a3, a4, a5, a6, a7, a8⟩ := ha
  obtain ⟨p1, p2⟩ := mul_le2 (a := K) (b := K - L - 1) (A := 100) (B := 100) (by omega) (by omega) (by omega) (by omega) (by omega)
  obtain ⟨p3, p4⟩ := mul_le2 (a := N - K - 1) (b := M) (A := 100) (B := 100) (by omega) (by omega) (by omega) (by omega) (by omega)
  obtain ⟨X, hX⟩ : ∃ X, K * (K - L - 1) = X := ⟨_, rfl⟩
  obtain ⟨Y, hY⟩ : ∃ Y, (N - K - 1) * M = Y := ⟨_, rfl⟩
  obtain ⟨E, hE⟩ : ∃ E, N.tmod (K + 1) = E := ⟨_, rfl⟩
  obtain ⟨D, hD⟩ : ∃ D, N.tmod (N - K) = D := ⟨_, rfl⟩
  rw [hX, hY] at h
  rw [hX] at p1 p2
  rw [hY] at p3 p4
  rw [hE, hD] at hv
  have HV := Lib.hid hv
  clear hv
  go_enter Try.func46, Try.ntmps46
  rcases hm with hm | hm
  · have k0 : ¬ M = K := by omega
    have t0 : (M == 0) = true := by simp [hm]
    have t1 : (M == K) = false := by simp [k0]
    have tx : (X != Y) = false := by simp [h]
    have ty : ¬ X ≠ Y := by simp [h]
    by_cases e : E = 0
    · have hv : v = 0 := by rw [HV.out, if_neg]; rintro (q | q) <;> omega
      have HV2 := Lib.hid hv
      have te : (E != 0) = false := by simp [e]
      clear hv h hm k0 e
      go_wp2
      all_goals (go_ret2; exact ⟨by rw [HV2.out]; rfl, bal (Below.refl _ _) _⟩)
    · have hv : v = 2 := by rw [HV.out, if_pos (.inl ⟨hm, e⟩)]
      have HV2 := Lib.hid hv
      have te : (E != 0) = true := by simp [e]
      clear hv h hm k0 e
      go_wp2
      all_goals (go_ret2; exact ⟨by rw [HV2.out]; rfl, bal (Below.refl _ _) _⟩)
  · have k0 : ¬ M = 0 := by omega
    have t0 : (M == 0) = false := by simp [k0]
    have t1 : (M == K) = true := by simp [hm]
    have tx : (X != Y) = false := by simp [h]
    have ty : ¬ X ≠ Y := by simp [h]
    by_cases e : D = 0
    · have hv : v = 0 := by rw [HV.out, if_neg]; rintro (q | q) <;> omega
      have HV2 := Lib.hid hv
      have te : (D != 0) = false := by simp [e]
      clear hv h hm k0 e
      go_wp2
      all_goals (go_ret2; exact ⟨by rw [HV2.out]; rfl, bal (Below.refl _ _) _⟩)
    · have hv : v = 2 := by rw [HV.out, if_pos (.inr ⟨hm, e⟩)]
      have HV2 := Lib.hid hv
      have te : (D != 0) = true := by simp [e]
      clear hv h hm k0 e
      go_wp2
      all_goals (go_ret2; exact ⟨by rw [HV2.out]; rfl, bal (Below.refl _ _) _⟩)
set_option maxRecDepth 100000 in
set_option maxHeartbeats 1000000 in
theorem rrea3 (w : World) (N K L M : Int) (ha : Ask N K L M) (h : K * (K - L - 1) = (N - K - 1) * M) (hm : ¬ (M = 0 ∨ M = K)) (hno : ¬ ∃ R S, Roots K L M R S) :
    Calls Try.prog 46 #[agg4 N K L M] w fun e w' => e = .returned (.tuple #[.int .i64 (reaO N K L M none), .int .i64 (reaE (reaO N K L M none))]) ∧ Below w.heap.size w w' := by
  have HA := Lib.hid ha
  have HN := Lib.hid hno
  clear hno
  obtain ⟨a1, a2, a3, a4, a5, a6, a7, a8⟩ := ha
  obtain ⟨p1, p2⟩ := mul_le2 (a := K) (b := K - L - 1) (A := 100) (B := 100) (by omega) (by omega) (by omega) (by omega) (by omega)
  obtain ⟨p3, p4⟩ := mul_le2 (a := N - K - 1) (b := M) (A := 100) (B := 100) (by omega) (by omega) (by omega) (by omega) (by omega)
  obtain ⟨p5, p6⟩ := mul_le2 (a := N - 1) (b := L - M) (A := 100) (B := 100) (by omega) (by omega) (by omega) (by omega) (by omega)
  obtain ⟨X, hX⟩ : ∃ X, K * (K - L - 1) = X := ⟨_, rfl⟩
  obtain ⟨Y, hY⟩ : ∃ Y, (N - K - 1) * M = Y := ⟨_, rfl⟩
  obtain ⟨Z, hZ⟩ : ∃ Z, (N - 1) * (L - M) = Z := ⟨_, rfl⟩
  rw [hX, hY] at h
  rw [hX] at p1 p2
  rw [hY] at p3 p4
  rw [hZ] at p5 p6
  obtain ⟨n, hn⟩ : ∃ n : Nat, N = n := ⟨N.toNat, by omega⟩
  have hn1 : N.toNat = n := by omega
  have t0 : (M == 0) = false := by simp; omega
  have t1 : (M == K) = false := by simp; omega
  have tx : (X != Y) = false := by simp [h]
  have ty : ¬ X ≠ Y := by simp [h]
  have hR : reaO N K L M none = if 2 * K + Z = 0 ∧ sq2 n = true then 0 else 3 := by unfold reaO; rw [hZ, hn1]
  have HR := Lib.hid hR
  have HNn := Lib.hid hn
  clear h hm hn1 hR hn
  obtain ⟨Q, hQ⟩ : ∃ Q, 2 * K + Z = Q := ⟨_, rfl⟩
  have HQ := Lib.hid hQ
  go_enter Try.func46, Try.ntmps46
  go_wp2_with fail
  refine (roots_none _ N K L M HA.out HN.out).mono ?_
  rintro e w' ⟨rfl, hb⟩
  have hx := kept0 hb
  have hB := below0 hb
  clear hb
  obtain ⟨z, c0, c1, c2, c3, _, _, _, _⟩ := four_at hx
  by_cases q0 : Q = 0
  · have tq : (Q != 0) = false := by simp [q0]
    have tq2 : ¬ Q ≠ 0 := by simp [q0]
    have Q0 := Lib.hid q0
    clear q0
    go_wp2_with fail
    rw [HNn.out]
    refine (rsq_go _ n (by have := HNn.out; omega)).mono ?_
    rintro e w2 ⟨rfl, hb⟩
    have hB2 := btr hB hb
    cases hs : sq2 n with
    | true =>
      have HS := Lib.hid hs
      clear hs
      go_wp2
      go_ret2
      exact ⟨by rw [HR.out, HQ.out, if_pos ⟨Q0.out, HS.out⟩]; rfl, hB2⟩
    | false =>
      have HS := Lib.hid hs
      clear hs
      go_wp2
      go_ret2
      exact ⟨by rw [HR.out, if_neg (by rw [HS.out]; simp)]; rfl, hB2⟩
  · have tq : (Q != 0) = true := by simp [q0]
    have Q0 := Lib.hid q0
    clear q0
    go_wp2
    go_ret2
    exact ⟨by rw [HR.out, HQ.out, if_neg (fun hh => Q0.out hh.1)]; rfl, hB⟩

end Go.Proofs.Ytijnpcehjnaaiaa
