/- Walks: root, values. -/
import Derived.Test.YtijnpcehjnaaiaaSw
import Derived.Test.YtijnpcehjnaaiaaSolP
namespace Go.Proofs.Ytijnpcehjnaaiaa
open Go.RowKit

/-- d is the least whose square is not below n. -/
def Rt (n d : Nat) : Prop := n ≤ d * d ∧ ∀ c, c < d → c * c < n

theorem rt_le {n d b : Nat} (h : ∀ c, c < d → c * c < n) (hb : n ≤ b * b) : d ≤ b := by
  apply Nat.le_of_not_lt; intro q
  have := h b q
  omega
theorem rt_sq {q d : Nat} (h : Rt (q * q) d) : d = q := by
  have h1 : d ≤ q := rt_le h.2 (Nat.le_refl _)
  have h2 : q ≤ d := by
    apply Nat.le_of_not_lt; intro hlt
    have := Nat.mul_lt_mul'' hlt hlt
    have := h.1
    omega
  omega
theorem kept0 {w w' : World} {o : Obj} (hb : Below (w.alloc o).heap.size (w.alloc o) w') : w'.heap[w.heap.size]? = some o := by
  rw [hb.block w.heap.size (by simp)]
  simp [heap_alloc_eq]
theorem below0 {w w' : World} {o : Obj} (hb : Below (w.alloc o).heap.size (w.alloc o) w') : Below w.heap.size w w' :=
  btr (bal (Below.refl _ _) o) hb
theorem sq_nn (u : Int) : 0 ≤ u * u := by
  rcases Int.le_total 0 u with q | q
  · exact Int.mul_nonneg q q
  · exact Int.mul_nonneg_of_nonpos_of_nonpos q q
theorem mul_cast (a : Nat) : (a : Int) * (a : Int) = ((a * a : Nat) : Int) := by simp

set_option maxHeartbeats 400000 in
theorem root_go (w : World) (n : Nat) (hn : n ≤ 40000) :
    Calls Try.prog 76 #[.int .i64 n] w fun e w' => ∃ d, Rt n d ∧ e = .returned (.tuple #[.int .i64 d, .bool (d * d == n)]) ∧ Below w.heap.size w w' := by
  go_enter Try.func76, Try.ntmps76
  go_wp2
  go_loopw [4] (fun t wr => ∃ r : Nat, t = .int .i64 r ∧ (∀ c, c < r → c * c < n) ∧ wr = w) (fun t _ => 201 - (intOf t).toNat)
  case atStart => exact ⟨0, rfl, fun c hc => by omega, rfl⟩
  case round =>
    obtain ⟨r, rfl, hr, rfl⟩ := hrel
    have h200 : r ≤ 200 := rt_le hr (by omega)
    have hm := mul_cast r
    have hmb : r * r ≤ 40000 := Nat.mul_le_mul h200 h200
    generalize hq : r * r = q at *
    have HQ := Lib.hid hq
    have HR := Lib.hid hr
    clear hq hr
    by_cases h : q < n
    · have h1 : (q : Int) < (n : Int) := by omega
      go_wp2
      go_roundw
      case rel =>
        refine ⟨r + 1, by go_num, fun c hc => ?_, trivial⟩
        by_cases e : c = r
        · subst e; rw [HQ.out]; exact h
        · exact HR.out c (by omega)
      case measure => simp [intOf]; omega
    · have h1 : ¬ (q : Int) < (n : Int) := by omega
      obtain ⟨b, hb⟩ : ∃ b, (q == n) = b := ⟨_, rfl⟩
      have hb2 : ((q : Int) == (n : Int)) = b := by rw [← hb, Bool.eq_iff_iff]; simp; omega
      have HB := Lib.hid hb
      clear hb
      go_wp2
      go_ret2
      exact ⟨r, ⟨by rw [HQ.out]; omega, HR.out⟩, by rw [HQ.out, HB.out]; rfl, Below.refl _ _⟩

theorem values_some (w : World) (N K L M R S : Int) (ha : Ask N K L M) (h : Roots K L M R S) :
    Calls Try.prog 67 #[agg4 N K L M] w fun e w' => e = .returned (.tuple #[.int .i64 R, .int .i64 S, .bool true]) ∧ Below w.heap.size w w' := by
  obtain ⟨b1, b2, b3, b4⟩ := roots_bounds ha h
  have hD := roots_dsc h
  unfold Dsc at hD
  obtain ⟨a1, a2, a3, a4, a5, a6, a7, a8⟩ := ha
  obtain ⟨h1, h2, h3⟩ := h
  obtain ⟨q, hq⟩ : ∃ q : Nat, (q : Int) = (R - S) := ⟨(R - S).toNat, by omega⟩
  have hu2 : 0 ≤ (L - M) * (L - M) := sq_nn _
  have hqb : q ≤ 196 := by omega
  have hqq : q * q ≤ 196 * 196 := Nat.mul_le_mul hqb hqb
  have hqc : ((q * q : Nat) : Int) = (L - M) * (L - M) + 4 * (K - M) := by rw [← hD, ← hq]; simp
  have hr2 : R + S + q = 2 * R := by omega
  have hs2 : R + S - q = 2 * S := by omega
  go_enter Try.func67, Try.ntmps67
  go_wp2_with fail
  rw [← hqc]
  refine (root_go _ (q * q) (by omega)).mono ?_
  rintro e w' ⟨d, hd, rfl, hb⟩
  obtain rfl := rt_sq hd
  obtain ⟨z, c0, c1, c2, c3, _, _, _, _⟩ := four_at (kept0 hb)
  have hB := below0 hb
  have e1 : (L - M + d).tdiv 2 = R := by rw [← h2, hr2]; exact Int.mul_tdiv_cancel_left _ (by decide)
  have e2 : (L - M - d).tdiv 2 = S := by rw [← h2, hs2]; exact Int.mul_tdiv_cancel_left _ (by decide)
  clear hqc hr2 hs2 hu2 hqq hD h3 hd hb hq
  have hbd : (d * d == d * d) = true := by simp
  go_wp2
  go_quiet (fail)
  go_wp2
  exact bodyPost_ret (v := .tuple #[.int .i64 R, .int .i64 S, .bool true]) (by simp [results, Try.results67, go_sem]) rfl ⟨rfl, drewN_below hB⟩

theorem sq_le {u b : Int} (h1 : -b ≤ u) (h2 : u ≤ b) : u * u ≤ b * b := by
  have := Int.mul_nonneg (show 0 ≤ b - u by omega) (show 0 ≤ b + u by omega)
  rw [Int.sub_mul, Int.mul_add, Int.mul_add, Int.mul_comm u b] at this
  omega

theorem values_none (w : World) (N K L M : Int) (ha : Ask N K L M) (h : ¬ ∃ R S, Roots K L M R S) :
    Calls Try.prog 67 #[agg4 N K L M] w fun e w' => (∃ r s, e = .returned (.tuple #[.int .i64 r, .int .i64 s, .bool false])) ∧ Below w.heap.size w w' := by
  have HA := Lib.hid ha
  have HN := Lib.hid h
  obtain ⟨a1, a2, a3, a4, a5, a6, a7, a8⟩ := ha
  have hu2 := sq_nn (L - M)
  have hu3 := sq_le (show -98 ≤ L - M by omega) (show L - M ≤ 98 by omega)
  obtain ⟨n, hn⟩ : ∃ n : Nat, (n : Int) = (L - M) * (L - M) + 4 * (K - M) := ⟨((L - M) * (L - M) + 4 * (K - M)).toNat, by omega⟩
  have hnb : n ≤ 40000 := by omega
  clear h
  go_enter Try.func67, Try.ntmps67
  go_wp2_with fail
  rw [← hn]
  refine (root_go _ n hnb).mono ?_
  rintro e w' ⟨d, hd, rfl, hb⟩
  have hdb : d ≤ 200 := rt_le hd.2 (by omega)
  have hne : (d * d == n) = false := by
    simp only [beq_eq_false_iff_ne, ne_eq]
    intro he
    obtain ⟨R, S, hr, _⟩ := dsc_roots HA.out (show (0:Int) ≤ d by omega) (show (d : Int) * d = Dsc K L M by unfold Dsc; rw [← hn, ← he]; simp)
    exact HN.out ⟨R, S, hr⟩
  obtain ⟨z, c0, c1, c2, c3, _, _, _, _⟩ := four_at (kept0 hb)
  have hB := below0 hb
  clear hd hu2 hu3 hb
  go_wp2
  go_quiet (fail)
  go_wp2
  exact bodyPost_ret (v := .tuple #[.int .i64 ((L - M + d).tdiv 2), .int .i64 ((L - M - d).tdiv 2), .bool false]) (by simp [results, Try.results67, go_sem]) rfl ⟨⟨_, _, rfl⟩, drewN_below hB⟩

theorem nvalid_go (w : World) (N K L M : Int) :
    Calls Try.prog 66 #[agg4 N K L M] w fun e w' => e = .returned (.bool (decide (Ask N K L M))) ∧ Below w.heap.size w w' := by
  by_cases ha : Ask N K L M
  · have hd : decide (Ask N K L M) = true := by simp [ha]
    obtain ⟨a1, a2, a3, a4, a5, a6, a7, a8⟩ := ha
    go_enter Try.func66, Try.ntmps66
    go_wp2
    go_ret
    exact ⟨by rw [hd]; first | rfl | exact congrArg (fun b => Ending.returned (Value.bool b)) (decide_eq_true a8), bal (Below.refl _ _) _⟩
  · have hd : decide (Ask N K L M) = false := by simp [ha]
    unfold Ask at ha
    go_enter Try.func66, Try.ntmps66
    go_wp2
    all_goals (go_ret; refine ⟨?_, bal (Below.refl _ _) _⟩)
    all_goals (try rw [hd])
    all_goals first | rfl | (refine congrArg (fun b => Ending.returned (Value.bool b)) (decide_eq_false (fun hq => ha ?_)); refine ⟨?_, ?_, ?_, ?_, ?_, ?_, ?_, ?_⟩ <;> omega)
end Go.Proofs.Ytijnpcehjnaaiaa
