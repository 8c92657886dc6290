/- Walks: solve, Solve. -/
import Derived.Test.YtijnpcehjnaaiaaSolW
namespace Go.Proofs.Ytijnpcehjnaaiaa
open Go.RowKit

theorem wrap_i64i (a : Int) (h1 : -9223372036854775808 ≤ a) (h2 : a < 9223372036854775808) : IntKind.i64.wrap a = a := by
  rw [IntWalk.i64_left]; exact IntWalk.wrap64_in _ (by constructor <;> omega)
theorem drew_below {B : Nat} {a w : World} (h : Below B a w) : Below B a w.drew := drewN_below (n := 1) h
theorem below00 {w w' : World} {o o2 : Obj} (hb : Below ((w.alloc o).alloc o2).heap.size ((w.alloc o).alloc o2) w') : Below w.heap.size w w' :=
  btr (bal (bal (Below.refl _ _) o) o2) hb
theorem set4_at {w : World} {p : Nat} {x0 x1 x2 x3 a b c d : Value} {E : TypeId} (h : w.heap[p]? = some (.cells #[x0, x1, x2, x3] E (0, 0))) :
    ((((w.setCell ⟨p, 0, none⟩ a).setCell ⟨p, 1, none⟩ b).setCell ⟨p, 2, none⟩ c).setCell ⟨p, 3, none⟩ d).heap[p]? = some (.cells #[a, b, c, d] E (0, 0)) := by
  have h4 := set_at (set_at (set_at (set_at h 0 a) 1 b) 2 c) 3 d
  simpa using h4
theorem drew_at {w : World} {p : Nat} {o : Obj} (h : w.heap[p]? = some o) : w.drew.heap[p]? = some o := h
theorem mul_le2 {a b A B : Int} (ha : -A ≤ a) (ha2 : a ≤ A) (hb : -B ≤ b) (hb2 : b ≤ B) (_hA : 0 ≤ A) : -(A * B) ≤ a * b ∧ a * b ≤ A * B := by
  have h1 := Int.mul_nonneg (show 0 ≤ A + a by omega) (show 0 ≤ B + b by omega)
  have h2 := Int.mul_nonneg (show 0 ≤ A - a by omega) (show 0 ≤ B - b by omega)
  have h3 := Int.mul_nonneg (show 0 ≤ A + a by omega) (show 0 ≤ B - b by omega)
  have h4 := Int.mul_nonneg (show 0 ≤ A - a by omega) (show 0 ≤ B + b by omega)
  simp only [Int.add_mul, Int.sub_mul, Int.mul_add, Int.mul_sub] at h1 h2 h3 h4
  omega

theorem tdiv_le {a b A : Int} (h1 : -A ≤ a) (h2 : a ≤ A) (_hb : 0 < b) : -A ≤ a.tdiv b ∧ a.tdiv b ≤ A := by
  have h := Int.natAbs_tdiv a b
  have h3 := Nat.div_le_self a.natAbs b.natAbs
  rw [show a.natAbs / b.natAbs = (a.tdiv b).natAbs from h.symm] at h3
  generalize a.tdiv b = q at *
  clear h
  omega

set_option maxHeartbeats 1000000 in
theorem solve_go (w : World) (N K L M R S : Int) (ha : Ask N K L M) (h : Roots K L M R S) :
    Calls Try.prog 68 #[agg4 N K L M] w fun e w' => e = .returned (.tuple #[agg4 R S (fF N K R S) (N - 1 - fF N K R S), .bool (wholeB N K R S)]) ∧ Below w.heap.size w w' := by
  obtain ⟨b1, b2, b3, b4⟩ := roots_bounds ha h
  have HA := Lib.hid ha
  have HR := Lib.hid h
  obtain ⟨a1, a2, a3, a4, a5, a6, a7, a8⟩ := ha
  have hlt := h.1
  clear h
  obtain ⟨p1, p2⟩ := mul_le2 (a := N - 1) (b := S) (A := 99) (B := 98) (by omega) (by omega) (by omega) (by omega) (by omega)
  go_enter Try.func68, Try.ntmps68
  go_wp2_with fail
  refine (values_some _ N K L M R S HA.out HR.out).mono ?_
  rintro e w' ⟨rfl, hb⟩
  have hx : w'.heap[w.heap.size]? = some (.cells #[.int .i64 N, .int .i64 K, .int .i64 L, .int .i64 M] 24 (0, 0)) := by
    rw [hb.block w.heap.size (by simp; omega)]; simp [heap_alloc_eq, Array.getElem?_push]
  have hy : w'.heap[w.heap.size + 1]? = some (.cells #[.int .i64 0, .int .i64 0, .int .i64 0, .int .i64 0] 52 (0, 0)) := by
    have h := kept0 hb
    rw [show (w.alloc (.cells #[.int .i64 N, .int .i64 K, .int .i64 L, .int .i64 M] 24)).heap.size = w.heap.size + 1 by simp] at h
    exact h
  obtain ⟨z, c0, c1, c2, c3, _, _, _, _⟩ := four_at hx
  obtain ⟨z2, d0, d1, d2, d3, f0, f1, f2, f3⟩ := four_at hy
  obtain ⟨E, hE⟩ : ∃ E, R - S = E := ⟨_, rfl⟩
  have hE0 : 0 < E := by omega
  have hE1 : E ≤ 196 := by omega
  have hEn : (E == 0) = false := by simp; omega
  have hEm : (E == -1) = false := by simp; omega
  have hEw : IntKind.i64.wrap E = E := wrap_i64i _ (by omega) (by omega)
  obtain ⟨F, hF⟩ : ∃ F, (-K - (N - 1) * S).tdiv E = F := ⟨_, rfl⟩
  obtain ⟨T, hT⟩ : ∃ T, (-K - (N - 1) * S).tmod E = T := ⟨_, rfl⟩
  have hFb : -9900 ≤ F ∧ F ≤ 9900 := by rw [← hF]; exact tdiv_le (by omega) (by omega) (by omega)
  obtain ⟨q1, q2⟩ := hFb
  have HF := Lib.hid (show fF N K R S = F by unfold fF topF; rw [hE, hF])
  obtain ⟨b, hTb⟩ : ∃ b, (T == (0 : Int)) = b := ⟨_, rfl⟩
  have HT := Lib.hid (show wholeB N K R S = b by unfold wholeB topF; rw [hE, hT, hTb])
  go_wp2
  go_region
  go_wp2
  rw [HF.out, HT.out]
  generalize hW : World.drew _ = W
  have hz : W.heap[w.heap.size + 1]? = some (.cells #[.int .i64 R, .int .i64 S, .int .i64 F, .int .i64 (N - 1 - F)] 52 (0, 0)) := by
    rw [← hW]; exact drew_at (set4_at (set4_at hy))
  have hBW : Below w.heap.size w W := by
    rw [← hW]; exact drew_below (below_set4 (below_set4 (below00 hb) (by omega) _ _ _ _) (by omega) _ _ _ _)
  obtain ⟨_, k0, k1, k2, k3, _, _, _, _⟩ := four_at hz
  exact bodyPost_ret (v := .tuple #[agg4 R S F (N - 1 - F), .bool b]) (by simp [results, Try.results68, go_sem, k0, k1, k2, k3]) rfl ⟨rfl, hBW⟩
end Go.Proofs.Ytijnpcehjnaaiaa
