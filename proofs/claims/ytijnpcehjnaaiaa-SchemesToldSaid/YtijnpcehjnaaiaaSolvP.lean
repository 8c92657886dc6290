/- Walks: Solve, of the program. -/
import Derived.Test.YtijnpcehjnaaiaaSolS
namespace Go.Proofs.Ytijnpcehjnaaiaa
open Go.RowKit

def solA (N K : Int) : Option (Int × Int) → Value
  | none => agg4 0 0 0 0
  | some (R, S) => if okS N K R S then agg4 R S (fF N K R S) (N - 1 - fF N K R S) else agg4 0 0 0 0
def solE (N K : Int) : Option (Int × Int) → Int
  | none => 5
  | some (R, S) => if okS N K R S then 0 else 4

theorem fF_bounds {N K L M R S : Int} (ha : Ask N K L M) (h : Roots K L M R S) : -9900 ≤ fF N K R S ∧ fF N K R S ≤ 9900 := by
  obtain ⟨b1, b2, b3, b4⟩ := roots_bounds ha h
  obtain ⟨a1, a2, a3, a4, a5, a6, a7, a8⟩ := ha
  have hlt := h.1
  obtain ⟨p1, p2⟩ := mul_le2 (a := N - 1) (b := S) (A := 99) (B := 98) (by omega) (by omega) (by omega) (by omega) (by omega)
  unfold fF topF
  exact tdiv_le (by omega) (by omega) (by omega)

set_option maxHeartbeats 1000000 in
theorem psolve_bad (w : World) (N K L M : Int) (ha : ¬ Ask N K L M) :
    Calls Try.prog 41 #[agg4 N K L M] w fun e w' => e = .returned (.tuple #[agg4 0 0 0 0, .int .i64 2]) ∧ Below w.heap.size w w' := by
  have hd : decide (Ask N K L M) = false := by simp [ha]
  go_enter Try.func41, Try.ntmps41
  go_wp2_with fail
  refine (nvalid_go _ N K L M).mono ?_
  rw [hd]
  rintro e w' ⟨rfl, hb⟩
  obtain ⟨hx, hy⟩ := persist2 hb
  obtain ⟨z, c0, c1, c2, c3, _, _, _, _⟩ := four_at hx
  obtain ⟨z2, d0, d1, d2, d3, f0, f1, f2, f3⟩ := four_at hy
  have hB := below00 hb
  go_wp2
  exact bodyPost_ret (v := .tuple #[agg4 0 0 0 0, .int .i64 2]) (by simp [results, Try.results41, go_sem, *]) rfl ⟨rfl, below_set4 hB (by omega) _ _ _ _⟩

set_option maxHeartbeats 1000000 in
theorem psolve_none (w : World) (N K L M : Int) (ha : Ask N K L M) (h : ¬ ∃ R S, Roots K L M R S) :
    Calls Try.prog 41 #[agg4 N K L M] w fun e w' => e = .returned (.tuple #[agg4 0 0 0 0, .int .i64 5]) ∧ Below w.heap.size w w' := by
  have hd : decide (Ask N K L M) = true := by simp [ha]
  go_enter Try.func41, Try.ntmps41
  go_wp2_with fail
  refine (nvalid_go _ N K L M).mono ?_
  rw [hd]
  rintro e w' ⟨rfl, hb⟩
  obtain ⟨hx, hy⟩ := persist2 hb
  obtain ⟨z, c0, c1, c2, c3, _, _, _, _⟩ := four_at hx
  have hB := below00 hb
  go_wp2_with fail
  refine (values_none _ N K L M ha h).mono ?_
  rintro e w2 ⟨⟨r, s, rfl⟩, hb2⟩
  have hB2 := btr hB hb2
  have hx2 := persist hx hb2
  have hy2 := persist hy hb2
  obtain ⟨z2, d0, d1, d2, d3, f0, f1, f2, f3⟩ := four_at hy2
  go_wp2
  exact bodyPost_ret (v := .tuple #[agg4 0 0 0 0, .int .i64 5]) (by simp [results, Try.results41, go_sem, *]) rfl ⟨rfl, below_set4 hB2 (by omega) _ _ _ _⟩

set_option maxHeartbeats 1000000 in
theorem psolve_some (w : World) (N K L M R S : Int) (ha : Ask N K L M) (h : Roots K L M R S) :
    Calls Try.prog 41 #[agg4 N K L M] w fun e w' => e = .returned (.tuple #[solA N K (some (R, S)), .int .i64 (solE N K (some (R, S)))]) ∧ Below w.heap.size w w' := by
  have hd : decide (Ask N K L M) = true := by simp [ha]
  obtain ⟨q1, q2⟩ := fF_bounds ha h
  go_enter Try.func41, Try.ntmps41
  go_wp2_with fail
  refine (nvalid_go _ N K L M).mono ?_
  rw [hd]
  rintro e w' ⟨rfl, hb⟩
  obtain ⟨hx, hy⟩ := persist2 hb
  obtain ⟨z, c0, c1, c2, c3, _, _, _, _⟩ := four_at hx
  have hB := below00 hb
  clear hb
  go_wp2_with fail
  refine (values_some _ N K L M R S ha h).mono ?_
  rintro e w2 ⟨rfl, hb2⟩
  replace hB := btr hB hb2
  have hx2 := persist hx hb2
  have hy2 := persist hy hb2
  clear c0 c1 c2 c3 z hx hy hb2
  obtain ⟨z, c0, c1, c2, c3, _, _, _, _⟩ := four_at hx2
  go_wp2_with fail
  generalize hF : fF N K R S = F at *
  have HF := Lib.hid hF
  clear hF
  obtain ⟨b, hb⟩ : ∃ b, wholeB N K R S = b := ⟨_, rfl⟩
  refine (solve_go _ N K L M R S ha h).mono ?_
  rw [HF.out, hb]
  rintro e w3 ⟨rfl, hb3⟩
  replace hB := btr hB hb3
  have hy3 := persist hy2 hb3
  have hzz : w3.heap.size = w3.heap.size := rfl
  clear c0 c1 c2 c3 z hx2 hy2 hb3
  obtain ⟨z2, d0, d1, d2, d3, f0, f1, f2, f3⟩ := four_at hy3
  have HB := Lib.hid hb
  clear hb h ha hd
  obtain ⟨m, hm⟩ : ∃ m, (if N - 1 - F < F then N - 1 - F else F) = m := ⟨_, rfl⟩
  have hmi : m < 0 ↔ (F < 0 ∨ N - 1 - F < 0) := by rw [← hm]; split <;> omega
  have HM := Lib.hid hmi
  clear hmi
  cases b with
  | false =>
    have hs : okS N K R S = false := by simp [okS, HB.out]
    have hA : solA N K (some (R, S)) = agg4 0 0 0 0 := by simp [solA, hs]
    have hE : solE N K (some (R, S)) = 4 := by simp [solE, hs]
    have HA := Lib.hid hA
    have HE := Lib.hid hE
    clear hs hA hE
    go_wp2
    exact bodyPost_ret (v := .tuple #[agg4 0 0 0 0, .int .i64 4]) (by simp [results, Try.results41, go_sem, *]) rfl ⟨by rw [HA.out, HE.out], bal (below_set4 hB (Nat.le_succ _) _ _ _ _) _⟩
  | true =>
    by_cases g : m < 0
    · have hs : okS N K R S = false := by
        have := HM.out.1 g
        simp [okS, HB.out, HF.out]
        omega
      have hA : solA N K (some (R, S)) = agg4 0 0 0 0 := by simp [solA, hs]
      have hE : solE N K (some (R, S)) = 4 := by simp [solE, hs]
      have HA := Lib.hid hA
      have HE := Lib.hid hE
      clear hs hA hE
      go_wp2
      exact bodyPost_ret (v := .tuple #[agg4 0 0 0 0, .int .i64 4]) (by simp [results, Try.results41, go_sem, *]) rfl ⟨by rw [HA.out, HE.out], bal (below_set4 hB (Nat.le_succ _) _ _ _ _) _⟩
    · have hs : okS N K R S = true := by
        have := mt HM.out.2 g
        simp [okS, HB.out, HF.out]
        omega
      have hA : solA N K (some (R, S)) = agg4 R S F (N - 1 - F) := by simp [solA, hs, HF.out]
      have hE : solE N K (some (R, S)) = 0 := by simp [solE, hs]
      have HA := Lib.hid hA
      have HE := Lib.hid hE
      clear hs hA hE
      go_wp2
      exact bodyPost_ret (v := .tuple #[agg4 R S F (N - 1 - F), .int .i64 0]) (by simp [results, Try.results41, go_sem, *]) rfl ⟨by rw [HA.out, HE.out], bal (below_set4 hB (Nat.le_succ _) _ _ _ _) _⟩

/-- Solve of the program, by the solutions. -/
theorem psolve_go (w : World) (N K L M : Int) (o : Option (Int × Int)) (ha : Ask N K L M) (h : RO K L M o) :
    Calls Try.prog 41 #[agg4 N K L M] w fun e w' => e = .returned (.tuple #[solA N K o, .int .i64 (solE N K o)]) ∧ Below w.heap.size w w' := by
  match o, h with
  | none, h => exact psolve_none w N K L M ha h
  | some (R, S), h => exact psolve_some w N K L M R S ha h
end Go.Proofs.Ytijnpcehjnaaiaa
