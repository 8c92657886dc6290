/- Walk: the statement SchemesLists. -/
import Derived.Test.YtijnpcehjnaaiaaNEq
namespace Go.Proofs.Ytijnpcehjnaaiaa
open Go.RowKit

def chkL (n : Nat) : Bool := (ls1 n (n - 1)).all fun q => decide (2 * q.1 + 2 ≤ n + q.2.2) && decide (2 * q.1 ≤ n + q.2.1) && decide (q.1 + 1 ≤ n) && decide (q.2.1 ≤ 100) && decide (q.2.2 ≤ 100) && (ls1 n (n - 1)).contains (n - q.1 - 1, n + q.2.2 - 2 - 2 * q.1, n + q.2.1 - 2 * q.1)
theorem chk_all : ∀ n, n < 31 → 4 ≤ n → chkL n = true := by decide +kernel
theorem chk_of {n : Nat} (h4 : 4 ≤ n) (h30 : n ≤ 30) {k l m : Nat} (h : (k, l, m) ∈ ls1 n (n - 1)) :
    2 * k + 2 ≤ n + m ∧ 2 * k ≤ n + l ∧ k + 1 ≤ n ∧ l ≤ 100 ∧ m ≤ 100 ∧ (n - k - 1, n + m - 2 - 2 * k, n + l - 2 * k) ∈ ls1 n (n - 1) := by
  have := chk_all n (by omega) h4
  unfold chkL at this
  rw [List.all_eq_true] at this
  have := this _ h
  simp only [Bool.and_eq_true, decide_eq_true_eq, List.contains_iff_mem] at this
  obtain ⟨⟨⟨⟨⟨h1, h2⟩, h3⟩, h5⟩, h6⟩, h7⟩ := this
  exact ⟨h1, h2, h3, h5, h6, h7⟩

theorem contains_go (w : World) (a : Option Addr) (c cap n : Nat) (P : List (Nat × Nat × Nat)) (h1 : SlN w a c cap n P) (x y z : Nat) (hm : (x, y, z) ∈ P) :
    Calls Try.prog 51 #[.slice a c cap, agg4 n x y z] w fun e w' => e = .returned (.bool true) ∧ Below w.heap.size w w' := by
  go_enter Try.func51, Try.ntmps51
  go_wp2_with fail
  refine (index_go _ a c cap n P (h1.mono (bal (Below.refl _ _) _)) x y z hm).mono ?_
  rintro e w' ⟨⟨i, rfl⟩, hb⟩
  have hd : decide ((0 : Int) ≤ (i : Int)) = true := by simp
  have hB := below0 hb
  go_wp2
  go_ret
  exact ⟨rfl, hB⟩

theorem other_go2 (w : World) (n k l m : Nat) (hn : n ≤ 30) (h1 : 2 * k + 2 ≤ n + m) (h2 : 2 * k ≤ n + l) (h3 : k + 1 ≤ n) (h4 : l ≤ 100) (h5 : m ≤ 100) :
    Calls Try.prog 52 #[agg4 n k l m] w fun e w' => e = .returned (agg4 n ((n - k - 1 : Nat) : Int) ((n + m - 2 - 2 * k : Nat) : Int) ((n + l - 2 * k : Nat) : Int)) ∧ Below w.heap.size w w' := by
  have e1 : ((n - k - 1 : Nat) : Int) = (n : Int) - k - 1 := by omega
  have e2 : ((n + m - 2 - 2 * k : Nat) : Int) = (n : Int) - 2 - 2 * k + m := by omega
  have e3 : ((n + l - 2 * k : Nat) : Int) = (n : Int) - 2 * k + l := by omega
  rw [e1, e2, e3]
  clear e1 e2 e3
  go_enter Try.func52, Try.ntmps52
  go_wp2
  refine bodyPost_ret (v := agg4 n ((n : Int) - k - 1) ((n : Int) - 2 - 2 * k + m) ((n : Int) - 2 * k + l)) ?_ rfl ⟨rfl, ?_⟩
  · simp [results, Try.results52, go_sem]
  · exact bal (bal (Below.refl _ _) _) _

set_option maxHeartbeats 1000000 in
theorem llists_bad (w : World) (n : Int) (h : n < 4 ∨ 30 < n) :
    Calls Try.prog 13 #[.int .i64 n] w fun e w' => e = .returned (.bool true) ∧ Below w.heap.size w w' := by
  have H := Lib.hid h
  rcases h with h | h
  · have d1 : decide (n < 4) = true := by simpa using h
    go_enter Try.func13, Try.ntmps13
    go_wp2_with fail
    refine (nlist_bad _ n H.out).mono ?_
    rintro e w1 ⟨rfl, hb1⟩
    go_wp2_with fail
    refine (awake_go _).mono ?_
    rintro e w2 ⟨rfl, hb⟩
    go_wp2
    go_ret
    exact ⟨rfl, btr hb1 hb⟩
  · have d1 : decide (n < 4) = false := by simp; omega
    have d2 : decide (30 < n) = true := by simpa using h
    have d3 : ¬ n < 4 := by omega
    go_enter Try.func13, Try.ntmps13
    go_wp2_with fail
    refine (nlist_bad _ n H.out).mono ?_
    rintro e w1 ⟨rfl, hb1⟩
    go_wp2_with fail
    refine (awake_go _).mono ?_
    rintro e w2 ⟨rfl, hb⟩
    go_wp2
    go_ret
    exact ⟨rfl, btr hb1 hb⟩

set_option maxRecDepth 100000 in
set_option maxHeartbeats 1000000 in
theorem llists_good (w : World) (n : Nat) (h4 : 4 ≤ n) (h30 : n ≤ 30) :
    Calls Try.prog 13 #[.int .i64 n] w fun e w' => e = .returned (.bool true) ∧ Below w.heap.size w w' := by
  have hmf : ∀ (fn : Fn) (first cap : Array Value) (w : World), (Instr.makeFunc fn first cap).run Try.prog w = .ok (.func fn first cap) w := fun _ _ _ _ => rfl
  have d1 : decide ((n : Int) < 4) = false := by simp; omega
  have d2 : decide (30 < (n : Int)) = false := by simp; omega
  have HK := Lib.hid (fun k l m => chk_of (k := k) (l := l) (m := m) h4 h30)
  generalize hP : ls1 n (n - 1) = P at *
  have HN1 := Lib.hid (show ∀ w, _ from fun w => nlist_go w n h4 h30)
  have HN2 := Lib.hid (show ∀ w, _ from fun w => rlist_go w n h4 h30)
  rw [hP] at HN1 HN2
  clear hP
  go_enter Try.func13, Try.ntmps13
  go_wp2_with fail
  refine (HN1.out _).mono ?_
  rintro e w1 ⟨v, rfl, hg⟩
  obtain ⟨a, c, cap, rfl, hs1, hb1⟩ := gives_slN hg
  clear hg
  go_wp2_with fail
  refine (HN2.out _).mono ?_
  rintro e w2 ⟨v, rfl, hg⟩
  obtain ⟨a', c', cap', rfl, hs2, hb2⟩ := gives_slN hg
  clear hg
  obtain rfl : c = c' := hs1.1.symm.trans hs2.1
  have hs12 := hs1.mono hb2
  have hB2 := btr hb1 hb2
  clear hb1 hb2 hs1
  go_wp2_with fail
  refine (eqf_go _ a a' c cap cap' n P hs12 hs2).mono ?_
  rintro e w3 ⟨rfl, hb⟩
  have hs3 := hs12.mono hb
  have hB3 := btr hB2 hb
  clear hs12 hs2 hb hB2
  have HS := Lib.hid hs3
  obtain ⟨l1, l2, l3, h0 | ⟨g, rfl, hg, hcell⟩⟩ := hs3
  · subst h0
    clear l2 l3
    go_wp2_with fail
    go_loopw [39] (fun t wr => t = .int .i64 (0 : Nat) ∧ Below w.heap.size w wr) (fun _ _ => 1)
    case atStart => exact ⟨rfl, hB3⟩
    case round =>
      clear hB3
      obtain ⟨rfl, hB⟩ := hrel
      go_wp2_with fail
      refine (awake_go _).mono ?_
      rintro e w4 ⟨rfl, hb⟩
      go_wp2
      go_ret
      exact ⟨rfl, btr hB hb⟩
  · have HC := Lib.hid hcell
    unfold maxLen at l3
    have HL := Lib.hid l1
    clear hcell l1
    go_wp2_with fail
    go_loopw [39] (fun t wr => ∃ i : Nat, i ≤ c ∧ t = .int .i64 i ∧ Below w3.heap.size w3 wr) (fun t _ => c - (intOf t).toNat)
    case atStart => exact ⟨0, by omega, rfl, Below.refl _ _⟩
    case round =>
      obtain ⟨i, hi, rfl, hB⟩ := hrel
      by_cases hl : i < c
      · obtain ⟨k0, k1, k2, k3⟩ := four_mono hg hB (HC.out i hl)
        have hmem : ((P.getD i (0, 0, 0)).1, (P.getD i (0, 0, 0)).2.1, (P.getD i (0, 0, 0)).2.2) ∈ P := by
          have hi2 : i < P.length := by have := HL.out; omega
          show P.getD i (0, 0, 0) ∈ P
          rw [List.getD_eq_getElem?_getD, List.getElem?_eq_getElem hi2]
          exact List.getElem_mem hi2
        have icap : i ≤ cap := by omega
        have hgz := Nat.lt_of_lt_of_le hg hB.size
        generalize (P.getD i (0, 0, 0)).1 = k at *
        generalize (P.getD i (0, 0, 0)).2.1 = l at *
        generalize (P.getD i (0, 0, 0)).2.2 = m at *
        obtain ⟨q1, q2, q3, q4, q5, q6⟩ := HK.out k l m hmem
        have HQ := Lib.hid q6
        clear q6 hmem
        go_wp2_with fail
        refine (other_go2 _ n k l m h30 q1 q2 q3 q4 q5).mono ?_
        rintro e w4 ⟨rfl, hb⟩
        have hB4 := btr (bal hB _) hb
        clear hb
        go_wp2_with fail
        refine (contains_go _ _ c cap n P (HS.out.mono hB4) _ _ _ HQ.out).mono ?_
        rintro e w5 ⟨rfl, hb⟩
        have hB5 := btr hB4 hb
        go_wp2
        go_roundw
        case rel => exact ⟨i + 1, by omega, by go_num, hB5⟩
        case measure => simp [intOf]; omega
      · obtain rfl : i = c := by omega
        go_wp2_with fail
        refine (awake_go _).mono ?_
        rintro e w4 ⟨rfl, hb⟩
        go_wp2
        go_ret
        exact ⟨rfl, btr (btr hB3 hB) hb⟩

theorem llists_walk (w : World) (n : Int) :
    Calls Try.prog 13 #[.int .i64 n] w fun e w' => e = .returned (.bool true) ∧ Below w.heap.size w w' := by
  by_cases h : n < 4 ∨ 30 < n
  · exact llists_bad w n h
  · obtain ⟨k, rfl⟩ : ∃ k : Nat, n = k := ⟨n.toNat, by omega⟩
    exact llists_good w k (by omega) (by omega)
end Go.Proofs.Ytijnpcehjnaaiaa
