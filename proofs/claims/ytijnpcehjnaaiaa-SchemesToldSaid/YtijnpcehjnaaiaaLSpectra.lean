/- Walk: the statement SchemesSpectra. -/
import Derived.Test.YtijnpcehjnaaiaaLSolves
namespace Go.Proofs.Ytijnpcehjnaaiaa
open Go.RowKit

theorem spec_facts {N K L M R S F : Int} (h : Roots K L M R S) (hf : F * (R - S) = topF N K S) :
    K + F * R + (N - 1 - F) * S = 0 ∧ ((K * K + F * R * R + (N - 1 - F) * S * S = N * K) ↔ (K * (K - L - 1) = (N - K - 1) * M)) := by
  have h0 := (top_eq N K R S F).2 hf
  refine ⟨h0, ?_⟩
  obtain ⟨_, h2, h3⟩ := h
  generalize hG : N - 1 - F = G at *
  have eR : R * R = (L - M) * R + (K - M) := by
    rw [← h2, Int.add_mul, Int.mul_comm S R, h3]; omega
  have eS : S * S = (L - M) * S + (K - M) := by
    rw [← h2, Int.add_mul, h3]; omega
  have e1 : F * R * R + G * S * S = (L - M) * (F * R + G * S) + (F + G) * (K - M) := by
    rw [Int.mul_assoc, Int.mul_assoc, eR, eS]
    simp only [Int.mul_add, Int.add_mul]
    rw [Int.mul_left_comm F (L - M) R, Int.mul_left_comm G (L - M) S]
    omega
  have e2 : F * R + G * S = -K := by omega
  have e3 : F + G = N - 1 := by omega
  rw [e2, e3] at e1
  have e4 : K * K + F * R * R + G * S * S = K * K + ((L - M) * -K + (N - 1) * (K - M)) := by omega
  rw [e4]
  have c1 : L * K = K * L := Int.mul_comm _ _
  have c2 : M * K = K * M := Int.mul_comm _ _
  have c3 : N * M = M * N := Int.mul_comm _ _
  simp only [Int.mul_sub, Int.sub_mul, Int.mul_neg, Int.mul_one, Int.one_mul]
  constructor <;> intro q <;> omega

set_option maxRecDepth 100000 in
set_option maxHeartbeats 1000000 in
theorem lspec_bad (w : World) (N K L M : Int) (ha : ¬ Ask N K L M) :
    Calls Try.prog 12 #[agg4 N K L M] w fun e w' => e = .returned (.bool true) ∧ Below w.heap.size w w' := by
  go_enter Try.func12, Try.ntmps12
  go_wp2_with fail
  refine (of_go _ N K L M).mono ?_
  rintro e w1 ⟨rfl, hb⟩
  have hx1 := kept0 hb
  have hB1 := below0 hb
  clear hb
  go_wp2_with fail
  refine (psolve_bad _ N K L M ha).mono ?_
  rintro e w2 ⟨rfl, hb⟩
  have hx2 := persist hx1 hb
  have hB2 := btr hB1 hb
  clear hb
  obtain ⟨z, c0, c1, c2, c3, _, _, _, _⟩ := four_at hx2
  go_wp2_with fail
  refine (of_go _ N K L M).mono ?_
  rintro e w3 ⟨rfl, hb⟩
  have hx3 := persist (persist hx2 (bal (Below.refl _ _) _)) hb
  have ha3 := kept0 hb
  have hB3 := btr (bal hB2 _) hb
  clear hb c0 c1 c2 c3 z
  go_wp2_with fail
  refine (preasonX_bad _ N K L M ha).mono ?_
  rintro e w4 ⟨rfl, hb⟩
  have hB4 := btr hB3 hb
  clear hb
  go_wp2_with fail
  refine (awake_go _).mono ?_
  rintro e w6 ⟨rfl, hb⟩
  go_wp2
  go_ret
  exact ⟨rfl, btr hB4 hb⟩

set_option maxRecDepth 100000 in
set_option maxHeartbeats 1000000 in
theorem lspec_none (w : World) (N K L M : Int) (ha : Ask N K L M) (o : Option (Int × Int)) (ho : RO K L M o) (hs : solE N K o ≠ 0) :
    Calls Try.prog 12 #[agg4 N K L M] w fun e w' => e = .returned (.bool true) ∧ Below w.heap.size w w' := by
  obtain ⟨E, hE, hE2⟩ : ∃ E, solE N K o = E ∧ (E = 4 ∨ E = 5) := by
    match o, hs with
    | none, _ => exact ⟨5, rfl, .inr rfl⟩
    | some (R, S), hs =>
      simp only [solE] at hs ⊢
      split at hs
      · exact absurd rfl hs
      · rename_i q; exact ⟨4, by rw [if_neg q], .inl rfl⟩
  have hA : solA N K o = agg4 0 0 0 0 := by
    match o, hs with
    | none, _ => rfl
    | some (R, S), hs =>
      simp only [solE] at hs
      simp only [solA]
      split at hs
      · exact absurd rfl hs
      · rename_i q; rw [if_neg q]
  obtain ⟨T, hT⟩ : ∃ T, reaF N K L M o = T := ⟨_, rfl⟩
  obtain ⟨T2, hT2, hT3⟩ : ∃ E, reaE T = E ∧ (E = 0 ∨ E = 4) := ⟨_, rfl, by unfold reaE; split <;> simp⟩
  have t1 : (E != 0) = true := by rcases hE2 with rfl | rfl <;> decide
  have t2 : (E == 2) = false := by rcases hE2 with rfl | rfl <;> decide
  have t3 : (T2 == 2) = false := by rcases hT3 with rfl | rfl <;> decide
  have t4 : ¬ E = 0 := by omega
  have t5 : ¬ E = 2 := by omega
  have t6 : ¬ T2 = 2 := by omega
  have HP1 := Lib.hid (show ∀ w, _ from fun w => psolve_go w N K L M o ha ho)
  have HP3 := Lib.hid (show ∀ w, _ from fun w => preasonX_go w N K L M o ha ho)
  rw [hA, hE] at HP1
  rw [hT, hT2] at HP3
  have HE2 := Lib.hid hE2
  clear hA hE hT hT2 hE2 hT3 hs
  go_enter Try.func12, Try.ntmps12
  go_wp2_with fail
  refine (of_go _ N K L M).mono ?_
  rintro e w1 ⟨rfl, hb⟩
  have hx1 := kept0 hb
  have hB1 := below0 hb
  clear hb
  go_wp2_with fail
  refine (HP1.out _).mono ?_
  rintro e w2 ⟨rfl, hb⟩
  have hx2 := persist hx1 hb
  have hB2 := btr hB1 hb
  clear hb
  obtain ⟨z, c0, c1, c2, c3, _, _, _, _⟩ := four_at hx2
  go_wp2_with fail
  refine (of_go _ N K L M).mono ?_
  rintro e w3 ⟨rfl, hb⟩
  have hB3 := btr (bal hB2 _) hb
  clear hb c0 c1 c2 c3 z
  go_wp2_with fail
  refine (HP3.out _).mono ?_
  rintro e w4 ⟨rfl, hb⟩
  have hB4 := btr hB3 hb
  clear hb
  rcases HE2.out with rfl | rfl
  · go_wp2_with fail
    refine (awake_go _).mono ?_
    rintro e w6 ⟨rfl, hb⟩
    go_wp2
    go_ret
    exact ⟨rfl, btr hB4 hb⟩
  · go_wp2_with fail
    refine (awake_go _).mono ?_
    rintro e w6 ⟨rfl, hb⟩
    go_wp2
    go_ret
    exact ⟨rfl, btr hB4 hb⟩

set_option maxRecDepth 100000 in
set_option maxHeartbeats 4000000 in
theorem lspec_good (w : World) (N K L M R S : Int) (ha : Ask N K L M) (ho : Roots K L M R S) (hs : okS N K R S = true) :
    Calls Try.prog 12 #[agg4 N K L M] w fun e w' => e = .returned (.bool true) ∧ Below w.heap.size w w' := by
  have hd : decide (Ask N K L M) = true := by simp [ha]
  have HA := Lib.hid ha
  obtain ⟨b1, b2, b3, b4⟩ := roots_bounds ha ho
  obtain ⟨F, f0, f1, hf⟩ := (okS_iff ho.1).1 hs
  obtain ⟨E0, E1⟩ := spec_facts ho hf
  have hF : fF N K R S = F := fF_of ho.1 hf
  obtain ⟨G, hG⟩ : ∃ G, N - 1 - F = G := ⟨_, rfl⟩
  rw [hG] at E0 E1
  have hA : solA N K (some (R, S)) = agg4 R S F G := by simp [solA, hs, hF, hG]
  have hE : solE N K (some (R, S)) = 0 := by simp [solE, hs]
  obtain ⟨T, hT⟩ : ∃ T, reaF N K L M (some (R, S)) = T := ⟨_, rfl⟩
  obtain ⟨T2, hT2, hT3⟩ : ∃ E, reaE T = E ∧ (E = 0 ∨ E = 4) := ⟨_, rfl, by unfold reaE; split <;> simp⟩
  have HP1 := Lib.hid (show ∀ w, _ from fun w => psolve_go w N K L M (some (R, S)) ha ho)
  have HP3 := Lib.hid (show ∀ w, _ from fun w => preasonX_go w N K L M (some (R, S)) ha ho)
  rw [hA, hE] at HP1
  rw [hT, hT2] at HP3
  have u1 : (T2 != 2) = true := by rcases hT3 with rfl | rfl <;> decide
  have u2 : ¬ T2 = 2 := by omega
  have t1 : (R + S != L - M) = false := by have := ho.2.1; simp; omega
  have t2 : (R * S != M - K) = false := by have := ho.2.2; simp; omega
  have t3 : (F + G != N - 1) = false := by simp; omega
  have t4 : (K + F * R + G * S != 0) = false := by simp; omega
  have t1' : ¬ (R + S ≠ L - M) := by have := ho.2.1; omega
  have t2' : ¬ (R * S ≠ M - K) := by have := ho.2.2; omega
  have t3' : ¬ (F + G ≠ N - 1) := by omega
  have t4' : ¬ (K + F * R + G * S ≠ 0) := by omega
  have hRS : S ≤ R := by have := ho.1; omega
  obtain ⟨a1, a2, a3, a4, a5, a6, a7, a8⟩ := ha
  obtain ⟨b, hb⟩ : ∃ b, (K * (K - L - 1) == (N - K - 1) * M) = b := ⟨_, rfl⟩
  have hb' : (K * K + F * R * R + G * S * S == N * K) = b := by
    rw [← hb, Bool.eq_iff_iff, beq_iff_eq, beq_iff_eq]; exact E1
  have tb : (b == b) = true := by simp
  have g0 : 0 ≤ G := by omega
  have g1 : G ≤ 99 := by omega
  have f2 : F ≤ 99 := by omega
  obtain ⟨p1, p2⟩ := mul_le2 (a := K) (b := K - L - 1) (A := 100) (B := 100) (by omega) (by omega) (by omega) (by omega) (by omega)
  obtain ⟨p3, p4⟩ := mul_le2 (a := N - K - 1) (b := M) (A := 100) (B := 100) (by omega) (by omega) (by omega) (by omega) (by omega)
  obtain ⟨p5, p6⟩ := mul_le2 (a := R) (b := S) (A := 100) (B := 100) (by omega) (by omega) (by omega) (by omega) (by omega)
  obtain ⟨p7, p8⟩ := mul_le2 (a := F) (b := R) (A := 100) (B := 100) (by omega) (by omega) (by omega) (by omega) (by omega)
  obtain ⟨p9, q1⟩ := mul_le2 (a := G) (b := S) (A := 100) (B := 100) (by omega) (by omega) (by omega) (by omega) (by omega)
  obtain ⟨q2, q3⟩ := mul_le2 (a := F * R) (b := R) (A := 10000) (B := 100) (by omega) (by omega) (by omega) (by omega) (by omega)
  obtain ⟨q4, q5⟩ := mul_le2 (a := G * S) (b := S) (A := 10000) (B := 100) (by omega) (by omega) (by omega) (by omega) (by omega)
  obtain ⟨q6, q7⟩ := mul_le2 (a := K) (b := K) (A := 100) (B := 100) (by omega) (by omega) (by omega) (by omega) (by omega)
  obtain ⟨q8, q9⟩ := mul_le2 (a := N) (b := K) (A := 100) (B := 100) (by omega) (by omega) (by omega) (by omega) (by omega)
  have HG := Lib.hid hG
  clear hG hs hf E0 E1 hF hA hE hT hT2 hT3 ho
  go_enter Try.func12, Try.ntmps12
  go_wp2_with fail
  refine (of_go _ N K L M).mono ?_
  rintro e w1 ⟨rfl, hb⟩
  have hx1 := kept0 hb
  have hB1 := below0 hb
  clear hb
  go_wp2_with fail
  refine (HP1.out _).mono ?_
  rintro e w2 ⟨rfl, hb⟩
  have hx2 := persist hx1 hb
  have hB2 := btr hB1 hb
  clear hb
  obtain ⟨z, c0, c1, c2, c3, _, _, _, _⟩ := four_at hx2
  go_wp2_with fail
  refine (of_go _ N K L M).mono ?_
  rintro e w3 ⟨rfl, hb⟩
  have hx3 := persist (persist hx2 (bal (Below.refl _ _) _)) hb
  have ha3 := kept0 hb
  have hB3 := btr (bal hB2 _) hb
  clear hb c0 c1 c2 c3 z hx2
  go_wp2_with fail
  refine (HP3.out _).mono ?_
  rintro e w4 ⟨rfl, hb⟩
  have hx4 := persist hx3 hb
  have ha4 := persist ha3 hb
  have hB4 := btr hB3 hb
  clear hb hx3 ha3
  obtain ⟨z, c0, c1, c2, c3, _, _, _, _⟩ := four_at hx4
  go_wp2_with fail
  refine (rasked_go _ N K L M).mono ?_
  rw [hd]
  rintro e w5 ⟨rfl, hb⟩
  have hx5 := persist hx4 hb
  have ha5 := persist ha4 hb
  have hB5 := btr hB4 hb
  clear hb c0 c1 c2 c3 z hx4 ha4 hd
  obtain ⟨z, c0, c1, c2, c3, _, _, _, _⟩ := four_at hx5
  obtain ⟨z2, d0, d1, d2, d3, _, _, _, _⟩ := four_at ha5
  go_wp2_with fail
  refine (awake_go _).mono ?_
  rintro e w6 ⟨rfl, hb⟩
  go_wp2
  go_ret
  exact ⟨rfl, btr hB5 hb⟩

theorem lspec_walk (w : World) (N K L M : Int) :
    Calls Try.prog 12 #[agg4 N K L M] w fun e w' => e = .returned (.bool true) ∧ Below w.heap.size w w' := by
  by_cases ha : Ask N K L M
  · obtain ⟨o, ho⟩ := ro_ex K L M
    match o, ho with
    | none, ho => exact lspec_none w N K L M ha none ho (by simp [solE])
    | some (R, S), ho =>
      cases hs : okS N K R S with
      | true => exact lspec_good w N K L M R S ha ho hs
      | false => exact lspec_none w N K L M ha (some (R, S)) ho (by simp [solE, hs])
  · exact lspec_bad w N K L M ha
end Go.Proofs.Ytijnpcehjnaaiaa
