/- Walks: the reason. -/
import Derived.Test.YtijnpcehjnaaiaaSq2
namespace Go.Proofs.Ytijnpcehjnaaiaa
open Go.RowKit

def bndB (k r s : Int) : Bool := decide ((k + r) * (s + 1) * (s + 1) < (r + 1) * (k + r + 2 * r * s))
def roomB (n f : Int) : Bool := decide (f * (f + 3) < 2 * n)

theorem bound_go (w : World) (p : Nat) (N K L M r s : Int) (hx : w.heap[p]? = some (.cells #[.int .i64 N, .int .i64 K, .int .i64 L, .int .i64 M] 24 (0, 0))) (hk : 0 ≤ K) (hk2 : K ≤ 100) (hr : -98 ≤ r) (hr2 : r ≤ 98) (hs : -98 ≤ s) (hs2 : s ≤ 98) :
    Calls Try.prog 78 #[.int .i64 r, .int .i64 s, .pointer (some ⟨p, 0, none⟩)] w fun e w' => e = .returned (.bool (bndB K r s)) ∧ Below w.heap.size w w' := by
  obtain ⟨z, c0, c1, c2, c3, _, _, _, _⟩ := four_at hx
  obtain ⟨p1, p2⟩ := mul_le2 (a := 2 * r) (b := s) (A := 196) (B := 98) (by omega) (by omega) (by omega) (by omega) (by omega)
  obtain ⟨p3, p4⟩ := mul_le2 (a := r + 1) (b := K + r + 2 * r * s) (A := 99) (B := 20000) (by omega) (by omega) (by omega) (by omega) (by omega)
  obtain ⟨p5, p6⟩ := mul_le2 (a := K + r) (b := s + 1) (A := 200) (B := 99) (by omega) (by omega) (by omega) (by omega) (by omega)
  obtain ⟨p7, p8⟩ := mul_le2 (a := (K + r) * (s + 1)) (b := s + 1) (A := 19800) (B := 99) (by omega) (by omega) (by omega) (by omega) (by omega)
  go_enter Try.func78, Try.ntmps78
  go_wp2
  go_ret
  exact ⟨rfl, Below.refl _ _⟩
theorem room_go (w : World) (p : Nat) (N K L M f : Int) (hx : w.heap[p]? = some (.cells #[.int .i64 N, .int .i64 K, .int .i64 L, .int .i64 M] 24 (0, 0))) (hn : 0 ≤ N) (hn2 : N ≤ 100) (hf : -10000 ≤ f) (hf2 : f ≤ 10000) :
    Calls Try.prog 79 #[.int .i64 f, .pointer (some ⟨p, 0, none⟩)] w fun e w' => e = .returned (.bool (roomB N f)) ∧ Below w.heap.size w w' := by
  obtain ⟨z, c0, c1, c2, c3, _, _, _, _⟩ := four_at hx
  obtain ⟨p1, p2⟩ := mul_le2 (a := f) (b := f + 3) (A := 10000) (B := 10003) (by omega) (by omega) (by omega) (by omega) (by omega)
  go_enter Try.func79, Try.ntmps79
  go_wp2
  go_ret
  exact ⟨rfl, Below.refl _ _⟩

def okR (N K R S : Int) : Bool := wholeB N K R S && decide (1 ≤ fF N K R S) && decide (1 ≤ N - 1 - fF N K R S)
/-- The first reason from the solutions on. -/
def reaO (N K L M : Int) : Option (Int × Int) → Int
  | none => if 2 * K + (N - 1) * (L - M) = 0 ∧ sq2 N.toNat = true then 0 else 3
  | some (R, S) => if okR N K R S = false then 4 else if (bndB K R S || bndB K S R) = true then 5 else if (roomB N (fF N K R S) || roomB N (N - 1 - fF N K R S)) = true then 6 else 0
def reaF (N K L M : Int) (o : Option (Int × Int)) : Int :=
  if K * (K - L - 1) ≠ (N - K - 1) * M then 1
  else if M = 0 ∨ M = K then (if (M = 0 ∧ N.tmod (K + 1) ≠ 0) ∨ (M = K ∧ N.tmod (N - K) ≠ 0) then 2 else 0)
  else reaO N K L M o

theorem prea1 (w : World) (N K L M : Int) (ha : Ask N K L M) (h : K * (K - L - 1) ≠ (N - K - 1) * M) :
    Calls Try.prog 69 #[agg4 N K L M] w fun e w' => e = .returned (.int .i64 1) ∧ Below w.heap.size w w' := by
  obtain ⟨a1, a2, a3, a4, a5, a6, a7, a8⟩ := ha
  obtain ⟨p1, p2⟩ := mul_le2 (a := K) (b := K - L - 1) (A := 100) (B := 100) (by omega) (by omega) (by omega) (by omega) (by omega)
  obtain ⟨p3, p4⟩ := mul_le2 (a := N - K - 1) (b := M) (A := 100) (B := 100) (by omega) (by omega) (by omega) (by omega) (by omega)
  go_enter Try.func69, Try.ntmps69
  go_wp2
  go_ret
  exact ⟨rfl, bal (Below.refl _ _) _⟩

theorem prea2 (w : World) (N K L M : Int) (ha : Ask N K L M) (h : K * (K - L - 1) = (N - K - 1) * M) (hm : M = 0 ∨ M = K) (v : Int) (hv : v = if (M = 0 ∧ N.tmod (K + 1) ≠ 0) ∨ (M = K ∧ N.tmod (N - K) ≠ 0) then 2 else 0) :
    Calls Try.prog 69 #[agg4 N K L M] w fun e w' => e = .returned (.int .i64 v) ∧ Below w.heap.size w w' := by
  obtain ⟨a1, a2, a3, a4, a5, a6, a7, a8⟩ := ha
  obtain ⟨p1, p2⟩ := mul_le2 (a := K) (b := K - L - 1) (A := 100) (B := 100) (by omega) (by omega) (by omega) (by omega) (by omega)
  obtain ⟨p3, p4⟩ := mul_le2 (a := N - K - 1) (b := M) (A := 100) (B := 100) (by omega) (by omega) (by omega) (by omega) (by omega)
  obtain ⟨X, hX⟩ : ∃ X, K * (K - L - 1) = X := ⟨_, rfl⟩
  obtain ⟨Y, hY⟩ : ∃ Y, (N - K - 1) * M = Y := ⟨_, rfl⟩
  obtain ⟨E, hE⟩ : ∃ E, N.tmod (K + 1) = E := ⟨_, rfl⟩
  obtain ⟨D, hD⟩ : ∃ D, N.tmod (N - K) = D := ⟨_, rfl⟩
  rw [hX, hY] at h
  rw [hX] at p1 p2
  rw [hY] at p3 p4
  rw [hE, hD] at hv
  have HV := Lib.hid hv
  clear hv
  go_enter Try.func69, Try.ntmps69
  rcases hm with hm | hm
  · have k0 : ¬ M = K := by omega
    have t0 : (M == 0) = true := by simp [hm]
    have t1 : (M == K) = false := by simp [k0]
    have tx : (X != Y) = false := by simp [h]
    have ty : ¬ X ≠ Y := by simp [h]
    by_cases e : E = 0
    · have hv : v = 0 := by rw [HV.out, if_neg]; rintro (q | q) <;> omega
      have HV2 := Lib.hid hv
      have te : (E != 0) = false := by simp [e]
      clear hv h hm k0 e
      go_wp2
      all_goals (go_ret; exact ⟨by rw [HV2.out]; rfl, bal (Below.refl _ _) _⟩)
    · have hv : v = 2 := by rw [HV.out, if_pos (.inl ⟨hm, e⟩)]
      have HV2 := Lib.hid hv
      have te : (E != 0) = true := by simp [e]
      clear hv h hm k0 e
      go_wp2
      all_goals (go_ret; exact ⟨by rw [HV2.out]; rfl, bal (Below.refl _ _) _⟩)
  · have k0 : ¬ M = 0 := by omega
    have t0 : (M == 0) = false := by simp [k0]
    have t1 : (M == K) = true := by simp [hm]
    have tx : (X != Y) = false := by simp [h]
    have ty : ¬ X ≠ Y := by simp [h]
    by_cases e : D = 0
    · have hv : v = 0 := by rw [HV.out, if_neg]; rintro (q | q) <;> omega
      have HV2 := Lib.hid hv
      have te : (D != 0) = false := by simp [e]
      clear hv h hm k0 e
      go_wp2
      all_goals (go_ret; exact ⟨by rw [HV2.out]; rfl, bal (Below.refl _ _) _⟩)
    · have hv : v = 2 := by rw [HV.out, if_pos (.inr ⟨hm, e⟩)]
      have HV2 := Lib.hid hv
      have te : (D != 0) = true := by simp [e]
      clear hv h hm k0 e
      go_wp2
      all_goals (go_ret; exact ⟨by rw [HV2.out]; rfl, bal (Below.refl _ _) _⟩)
end Go.Proofs.Ytijnpcehjnaaiaa
