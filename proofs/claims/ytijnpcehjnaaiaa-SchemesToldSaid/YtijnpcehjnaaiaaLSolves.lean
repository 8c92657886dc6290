/- Walk: the statement SchemesSolves. -/
import Derived.Test.YtijnpcehjnaaiaaReaD
import Derived.Test.YtijnpcehjnaaiaaRead
namespace Go.Proofs.Ytijnpcehjnaaiaa
open Go.RowKit

theorem rreason_go (w : World) (N K L M : Int) (o : Option (Int × Int)) (ha : Ask N K L M) (ho : RO K L M o) :
    Calls Try.prog 46 #[agg4 N K L M] w fun e w' => e = .returned (.tuple #[.int .i64 (reaF N K L M o), .int .i64 (reaE (reaF N K L M o))]) ∧ Below w.heap.size w w' := by
  by_cases h : K * (K - L - 1) = (N - K - 1) * M
  · by_cases hm : M = 0 ∨ M = K
    · refine rrea2 w N K L M ha h hm _ ?_
      unfold reaF
      rw [if_neg (by simp [h]), if_pos hm]
    · have e : reaF N K L M o = reaO N K L M o := by unfold reaF; rw [if_neg (by simp [h]), if_neg hm]
      rw [e]
      match o, ho with
      | none, ho => exact rrea3 w N K L M ha h hm ho
      | some (R, S), ho =>
        cases hs : okS N K R S with
        | true => exact rrea4 w N K L M R S ha h hm ho hs
        | false =>
          have e : reaO N K L M (some (R, S)) = 4 := by simp only [reaO]; rw [if_pos (okR_okS hs)]
          rw [e]
          exact rrea4bad w N K L M R S ha h hm ho hs
  · have e : reaF N K L M o = 1 := by unfold reaF; rw [if_pos h]
    rw [e]
    exact rrea1 w N K L M ha h

theorem of_go (w : World) (a b c d : Int) :
    Calls Try.prog 42 #[agg4 a b c d] w fun e w' => e = .returned (agg4 a b c d) ∧ Below w.heap.size w w' := by
  go_enter Try.func42, Try.ntmps42
  go_wp2
  refine bodyPost_ret (v := agg4 a b c d) ?_ rfl ⟨rfl, ?_⟩
  · simp [results, Try.results42, go_sem]
  · exact bal (bal (Below.refl _ _) _) _

set_option maxHeartbeats 1000000 in
theorem lsolves_bad (w : World) (N K L M : Int) (ha : ¬ Ask N K L M) :
    Calls Try.prog 11 #[agg4 N K L M] w fun e w' => e = .returned (.bool true) ∧ Below w.heap.size w w' := by
  have hd : decide (Ask N K L M) = false := by simp [ha]
  go_enter Try.func11, Try.ntmps11
  go_wp2_with fail
  refine (of_go _ N K L M).mono ?_
  rintro e w1 ⟨rfl, hb⟩
  have hx1 := kept0 hb
  have hB1 := below0 hb
  clear hb
  go_wp2_with fail
  refine (psolve_bad _ N K L M ha).mono ?_
  rintro e w2 ⟨rfl, hb⟩
  have hx2 := persist hx1 hb
  have hB2 := btr hB1 hb
  clear hb
  obtain ⟨z, c0, c1, c2, c3, _, _, _, _⟩ := four_at hx2
  go_wp2_with fail
  refine (of_go _ N K L M).mono ?_
  rintro e w3 ⟨rfl, hb⟩
  have hx3 := persist (persist hx2 (bal (Below.refl _ _) _)) hb
  have ha3 := kept0 hb
  have hB3 := btr (bal hB2 _) hb
  clear hb c0 c1 c2 c3 z
  go_wp2_with fail
  refine (preasonX_bad _ N K L M ha).mono ?_
  rintro e w4 ⟨rfl, hb⟩
  have hx4 := persist hx3 hb
  have ha4 := persist ha3 hb
  have hB4 := btr hB3 hb
  clear hb
  obtain ⟨z, c0, c1, c2, c3, _, _, _, _⟩ := four_at hx4
  go_wp2_with fail
  refine (rasked_go _ N K L M).mono ?_
  rw [hd]
  rintro e w5 ⟨rfl, hb⟩
  have hx5 := persist hx4 hb
  have ha5 := persist ha4 hb
  have hB5 := btr hB4 hb
  clear hb c0 c1 c2 c3 z
  obtain ⟨z, c0, c1, c2, c3, _, _, _, _⟩ := four_at hx5
  obtain ⟨z2, d0, d1, d2, d3, _, _, _, _⟩ := four_at ha5
  go_wp2_with fail
  refine (awake_go _).mono ?_
  rintro e w6 ⟨rfl, hb⟩
  go_wp2
  go_ret
  exact ⟨rfl, btr hB5 hb⟩

set_option maxRecDepth 100000 in
set_option maxHeartbeats 1000000 in
theorem lsolves_go (w : World) (N K L M : Int) (ha : Ask N K L M) (o : Option (Int × Int)) (ho : RO K L M o) :
    Calls Try.prog 11 #[agg4 N K L M] w fun e w' => e = .returned (.bool true) ∧ Below w.heap.size w w' := by
  have hd : decide (Ask N K L M) = true := by simp [ha]
  obtain ⟨R, S, F, G, hq⟩ : ∃ R S F G, solA N K o = agg4 R S F G := by
    match o with
    | none => exact ⟨0, 0, 0, 0, rfl⟩
    | some (R, S) =>
      simp only [solA]
      split
      · exact ⟨_, _, _, _, rfl⟩
      · exact ⟨0, 0, 0, 0, rfl⟩
  obtain ⟨E, hE⟩ : ∃ E, solE N K o = E := ⟨_, rfl⟩
  obtain ⟨T, hT⟩ : ∃ T, reaF N K L M o = T := ⟨_, rfl⟩
  obtain ⟨T2, hT2⟩ : ∃ E, reaE T = E := ⟨_, rfl⟩
  have HP1 := Lib.hid (show ∀ w, _ from fun w => psolve_go w N K L M o ha ho)
  have HP2 := Lib.hid (show ∀ w, _ from fun w => rsolve_go w N K L M o ha ho)
  have HP3 := Lib.hid (show ∀ w, _ from fun w => preasonX_go w N K L M o ha ho)
  have HP4 := Lib.hid (show ∀ w, _ from fun w => rreason_go w N K L M o ha ho)
  rw [hq, hE] at HP1 HP2
  rw [hT, hT2] at HP3 HP4
  clear hq hE hT hT2
  go_enter Try.func11, Try.ntmps11
  go_wp2_with fail
  refine (of_go _ N K L M).mono ?_
  rintro e w1 ⟨rfl, hb⟩
  have hx1 := kept0 hb
  have hB1 := below0 hb
  clear hb
  go_wp2_with fail
  refine (HP1.out _).mono ?_
  rintro e w2 ⟨rfl, hb⟩
  have hx2 := persist hx1 hb
  have hB2 := btr hB1 hb
  clear hb hx1 hB1
  obtain ⟨z, c0, c1, c2, c3, _, _, _, _⟩ := four_at hx2
  go_wp2_with fail
  refine (of_go _ N K L M).mono ?_
  rintro e w3 ⟨rfl, hb⟩
  have hx3 := persist (persist hx2 (bal (Below.refl _ _) _)) hb
  have ha3 := kept0 hb
  have hB3 := btr (bal hB2 _) hb
  clear hb c0 c1 c2 c3 z hx2 hB2
  go_wp2_with fail
  refine (HP3.out _).mono ?_
  rintro e w4 ⟨rfl, hb⟩
  have hx4 := persist hx3 hb
  have ha4 := persist ha3 hb
  have hB4 := btr hB3 hb
  clear hb hx3 ha3 hB3
  obtain ⟨z, c0, c1, c2, c3, _, _, _, _⟩ := four_at hx4
  go_wp2_with fail
  refine (rasked_go _ N K L M).mono ?_
  rw [hd]
  rintro e w5 ⟨rfl, hb⟩
  have hx5 := persist hx4 hb
  have ha5 := persist ha4 hb
  have hB5 := btr hB4 hb
  clear hb c0 c1 c2 c3 z hx4 ha4 hB4
  obtain ⟨z, c0, c1, c2, c3, _, _, _, _⟩ := four_at hx5
  go_wp2_with fail
  refine (HP2.out _).mono ?_
  rintro e w6 ⟨rfl, hb⟩
  have hx6 := persist hx5 hb
  have ha6 := persist ha5 hb
  have hB6 := btr hB5 hb
  clear hb c0 c1 c2 c3 z hx5 ha5 hB5
  obtain ⟨z, c0, c1, c2, c3, _, _, _, _⟩ := four_at hx6
  go_wp2_with fail
  refine (HP4.out _).mono ?_
  rintro e w7 ⟨rfl, hb⟩
  have ha7 := persist (persist ha6 (bal (Below.refl _ _) _)) hb
  have hb7 := kept0 hb
  have hB7 := btr (bal hB6 _) hb
  clear hb c0 c1 c2 c3 z hx6 ha6 hB6
  obtain ⟨z, c0, c1, c2, c3, _, _, _, _⟩ := four_at ha7
  obtain ⟨z2, d0, d1, d2, d3, _, _, _, _⟩ := four_at hb7
  go_wp2_with fail
  refine (awake_go _).mono ?_
  rintro e w8 ⟨rfl, hb⟩
  go_wp2
  go_ret
  exact ⟨rfl, btr hB7 hb⟩

theorem lsolves_walk (w : World) (N K L M : Int) :
    Calls Try.prog 11 #[agg4 N K L M] w fun e w' => e = .returned (.bool true) ∧ Below w.heap.size w w' := by
  by_cases ha : Ask N K L M
  · obtain ⟨o, ho⟩ := ro_ex K L M
    exact lsolves_go w N K L M ha o ho
  · exact lsolves_bad w N K L M ha
end Go.Proofs.Ytijnpcehjnaaiaa
