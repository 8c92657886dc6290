/- Walk: Read, of the reference. -/
import Derived.Test.YtijnpcehjnaaiaaOther
namespace Go.Proofs.Ytijnpcehjnaaiaa
open Go.RowKit

def RSt (w wr : World) (n k l m : Int) : Prop :=
  wr.heap[w.heap.size + 1]? = some (.cells #[.int .i64 n, .int .i64 k, .int .i64 l, .int .i64 m] 32 (0, 0)) ∧
  wr.heap[w.heap.size]? = some (.cells #[.int .i64 0, .int .i64 0, .int .i64 0, .int .i64 0] 32 (0, 0)) ∧ Below w.heap.size w wr
theorem RSt.drewN {w wr : World} {n k l m : Int} (q : Nat) (h : RSt w wr n k l m) : RSt w (wr.drewN q) n k l m := ⟨h.1, h.2.1, drewN_below h.2.2⟩
theorem set_far {w : World} {p q i : Nat} {v : Value} (h : q ≠ p) : (w.setCell ⟨p, i, none⟩ v).heap[q]? = w.heap[q]? := Below.heap_setCell _ _ _ _ h
theorem RSt.setL {w wr : World} {n k l m : Int} (h : RSt w wr n k l m) (v : Int) : RSt w (wr.setCell ⟨w.heap.size + 1, 2, none⟩ (.int .i64 v)) n k v m :=
  ⟨by rw [set_at h.1]; simp, by rw [set_far (by omega)]; exact h.2.1, h.2.2.setCell (by simp) _⟩
theorem RSt.setM {w wr : World} {n k l m : Int} (h : RSt w wr n k l m) (v : Int) : RSt w (wr.setCell ⟨w.heap.size + 1, 3, none⟩ (.int .i64 v)) n k l v :=
  ⟨by rw [set_at h.1]; simp, by rw [set_far (by omega)]; exact h.2.1, h.2.2.setCell (by simp) _⟩
theorem RSt.start (w : World) (n k l m : Int) : RSt w ((w.alloc (.cells #[.int .i64 0, .int .i64 0, .int .i64 0, .int .i64 0] 32)).alloc (.cells #[.int .i64 n, .int .i64 k, .int .i64 l, .int .i64 m] 32)) n k l m := by
  refine ⟨?_, ?_, bal (bal (Below.refl _ _) _) _⟩
  · simp only [heap_alloc_eq, Array.getElem?_push, Array.size_push]; rw [if_pos trivial]
  · simp only [heap_alloc_eq, Array.getElem?_push, Array.size_push]; rw [if_neg (by omega), if_pos trivial]

/-- What has been seen of the numbers in common: nothing, or all alike. -/
def LV (ls : List Nat) (v : Int) : Prop := (ls = [] ∧ v = -1) ∨ (0 ≤ v ∧ ls ≠ [] ∧ ∀ x ∈ ls, (x : Int) = v)
theorem LV.snoc {ls : List Nat} {v : Int} {c : Nat} (h : LV ls v) (hc : v < 0 ∨ v = c) : LV (ls ++ [c]) c := by
  refine .inr ⟨by omega, by simp, fun x hx => ?_⟩
  rcases List.mem_append.1 hx with hx | hx
  · rcases h with ⟨rfl, _⟩ | ⟨h0, _, h2⟩
    · cases hx
    · have := h2 x hx; omega
  · rw [List.mem_singleton.1 hx]
theorem LV.bad {ls : List Nat} {v : Int} {c : Nat} (h : LV ls v) (h0 : ¬ v < 0) (hc : v ≠ c) : ∃ x ∈ ls, x ≠ c := by
  rcases h with ⟨rfl, h⟩ | ⟨_, h1, h2⟩
  · omega
  · obtain ⟨x, hx⟩ := nonempty_mem h1
    exact ⟨x, hx, fun e => hc (by rw [← e]; exact (h2 x hx).symm)⟩
theorem mem_prs2 {i j a b : Nat} (h : (a, b) ∈ prs i j) (hj : j ≤ i) : a ≤ i ∧ b < a := by
  simp only [prs, List.mem_append, List.mem_flatMap, List.mem_range, List.mem_map, Prod.mk.injEq] at h
  rcases h with ⟨a', h1, b', h2, rfl, rfl⟩ | ⟨b', h1, rfl, rfl⟩ <;> omega
theorem mem_Ll2 {G : List Nat} {bb : Bool} {k j x : Nat} (hx : x ∈ Ll G bb (prs k j)) (hj : j ≤ k) (hk : k < G.length) : ∃ a b, a < G.length ∧ b < a ∧ (gn G a).testBit b = bb ∧ x = pop (gn G a &&& gn G b) := by
  simp only [Ll, List.mem_map, List.mem_filter, beq_iff_eq, Prod.exists] at hx
  obtain ⟨a, b, ⟨h1, h2⟩, rfl⟩ := hx
  have := mem_prs2 h1 hj
  exact ⟨a, b, by omega, this.2, h2, rfl⟩
/-- Two pairs that see another number: there are none. -/
theorem not_num {G : List Nat} {bb : Bool} {k j : Nat} {v : Int} (h : LV (Ll G bb (prs k j)) v) (hv : ¬ v < 0) (hj : j < k) (hk : k < G.length) (hb : (gn G k).testBit j = bb) (hc : v ≠ (pop (gn G k &&& gn G j) : Int)) : ¬ ∃ k l m, Num G k l m := by
  rintro ⟨k', l, m, h1, h2, h3, h4, h5⟩
  obtain ⟨x, hx, hne⟩ := h.bad hv hc
  obtain ⟨a, b, ha, hba, hbit, rfl⟩ := mem_Ll2 hx (by omega) hk
  cases bb with
  | true => exact hne ((h4 a b ha hba hbit).trans (h4 k j hk hj hb).symm)
  | false => exact hne ((h5 a b ha hba hbit).trans (h5 k j hk hj hb).symm)
theorem not_num_k {G : List Nat} (hG : Gr G) (i : Nat) (hi : i < G.length) (h : pop (gn G i) ≠ pop (gn G 0) ∨ pop (gn G 0) < 1 ∨ G.length < pop (gn G 0) + 2) : ¬ ∃ k l m, Num G k l m := by
  rintro ⟨k', l, m, h1, h2, h3, _⟩
  have a := h3 i hi
  have b := h3 0 hG.1
  omega
/-- At the end the numbers are found. -/
theorem num_end {G : List Nat} (hG : Gr G) {l m : Int} (hk : ∀ i, i < G.length → pop (gn G i) = pop (gn G 0)) (h1 : 1 ≤ pop (gn G 0)) (h2 : pop (gn G 0) + 2 ≤ G.length) (hl : LV (Ll G true (prs G.length 0)) l) (hm : LV (Ll G false (prs G.length 0)) m) :
    ∃ l' m' : Nat, l = l' ∧ m = m' ∧ Num G (pop (gn G 0)) l' m' := by
  obtain ⟨i, j, hi, hj, hb⟩ := hG.edge rfl h1
  obtain ⟨i2, j2, hi2, hj2, hb2⟩ := hG.gap rfl h2
  have ml := mem_Ll.2 ⟨i, j, hi, hj, hb, rfl⟩
  have mm := mem_Ll.2 ⟨i2, j2, hi2, hj2, hb2, rfl⟩
  rcases hl with ⟨e, _⟩ | ⟨l0, _, hl⟩
  · exact absurd e (mem_nonempty ml)
  rcases hm with ⟨e, _⟩ | ⟨m0, _, hm⟩
  · exact absurd e (mem_nonempty mm)
  refine ⟨l.toNat, m.toNat, by omega, by omega, h1, h2, hk, fun i j hi hj hb => ?_, fun i j hi hj hb => ?_⟩
  · have := hl _ (mem_Ll.2 ⟨i, j, hi, hj, hb, rfl⟩); omega
  · have := hm _ (mem_Ll.2 ⟨i, j, hi, hj, hb, rfl⟩); omega

set_option maxHeartbeats 2000000 in
theorem rread_go (w : World) (a : Option Addr) (n cap : Nat) (G : List Nat) (hs : Sl w a n cap (ints G)) (hG : Gr G) :
    Calls Try.prog 21 #[.slice a n cap] w (ReadPost w G) := by
  have hn : G.length = n := by have := hs.len; rwa [ints_length] at this
  subst hn
  rcases hs.parts with ⟨_, h0, _⟩ | ⟨b, off, rfl, hs2⟩
  · have := hG.1; omega
  have hlt16 := gn_lt hG.small (by omega)
  obtain ⟨hb, hc⟩ := hs2.icells (by have := hG.1; omega)
  have h1n := hG.1
  have hn16 := hG.2.1
  have hc0 := hc 0 h1n
  rw [Nat.add_zero] at hc0
  have hbw0 : (w.alloc (.cells #[.int .i64 0, .int .i64 0, .int .i64 0, .int .i64 0] 32)).cell? ⟨b, off, none⟩ = some (.int .i64 (gn G 0)) := by
    rw [← hc0]; exact ((Below.refl w.heap.size w).alloc (Nat.le_refl _) _).cell hb
  clear hs hs2
  go_enter Try.func21, Try.ntmps21
  go_wp2_with (go_at_call 56; refine (size_go _ _ (hlt16 0)).mono ?_; rintro e w' ⟨rfl, rfl⟩)
  clear hc0 hbw0
  go_loopw [19] (fun i wr => ∃ k : Nat, k ≤ G.length ∧ i = .int .i64 k ∧ ∃ lv mv : Int, RSt w wr G.length (pop (gn G 0)) lv mv ∧ LV (Ll G true (prs k 0)) lv ∧ LV (Ll G false (prs k 0)) mv ∧
     Hid (∀ i, i < k → pop (gn G i) = pop (gn G 0)) ∧ Hid (0 < k → 1 ≤ pop (gn G 0) ∧ pop (gn G 0) + 2 ≤ G.length)) (fun i _ => G.length - (intOf i).toNat)
  case atStart => exact ⟨0, by omega, rfl, _, _, RSt.start w _ _ _ _, .inl ⟨rfl, rfl⟩, .inl ⟨rfl, rfl⟩, fun i hi => by omega, fun h => by omega⟩
  case round =>
    obtain ⟨k, hk, rfl, lv, mv, hst, HL, HM, HK, H1⟩ := hrel
    have hbw := hst.2.2
    obtain ⟨zx, x0, x1, x2, x3, fx0, fx1, fx2, fx3⟩ := four_at hst.1
    obtain ⟨zr, r0, r1, r2, r3, fr0, fr1, fr2, fr3⟩ := four_at hst.2.1
    by_cases hlt : k < G.length
    · have hck : wr.cell? ⟨b, off + k, none⟩ = some (.int .i64 (gn G k)) := (hbw.cell hb).trans (hc k hlt)
      by_cases q1 : pop (gn G k) = pop (gn G 0)
      · have t1 : ((pop (gn G k) : Int) != (pop (gn G 0) : Int)) = false := by rw [q1]; simp
        have w2 : IntKind.i64.wrap ((G.length : Int) - 2) = (G.length : Int) - 2 := by rw [IntWalk.i64_left]; exact IntWalk.wrap64_in _ (by omega)
        have Q1 := Lib.hid q1
        clear q1
        by_cases q2 : pop (gn G 0) < 1
        · have NN := not_num_k hG k hlt (.inr (.inl q2))
          have t2 : decide ((pop (gn G 0) : Int) < 1) = true := by simp; omega
          go_wp2
          go_quiet ((go_at_call 56; exact quiet_is (size_go _ _ (hlt16 k))))
          go_wp2
          refine bodyPost_ret (v := .tuple #[agg4 0 0 0 0, .int .i64 4]) ?_ rfl ⟨below_set4 (drewN_below hbw) (Nat.le_refl _) _ _ _ _, .inr ⟨NN, rfl⟩⟩
          simp [results, Try.results21, go_sem, *]
        have t2 : decide ((pop (gn G 0) : Int) < 1) = false := by simp; omega
        by_cases q3 : G.length < pop (gn G 0) + 2
        · have NN := not_num_k hG k hlt (.inr (.inr q3))
          have t3 : decide ((G.length : Int) - 2 < (pop (gn G 0) : Int)) = true := by simp; omega
          go_wp2
          go_quiet ((go_at_call 56; exact quiet_is (size_go _ _ (hlt16 k))))
          go_wp2
          refine bodyPost_ret (v := .tuple #[agg4 0 0 0 0, .int .i64 4]) ?_ rfl ⟨below_set4 (drewN_below hbw) (Nat.le_refl _) _ _ _ _, .inr ⟨NN, rfl⟩⟩
          simp [results, Try.results21, go_sem, *]
        have t3 : decide ((G.length : Int) - 2 < (pop (gn G 0) : Int)) = false := by simp; omega
        go_wp2
        go_quiet ((go_at_call 56; exact quiet_is (size_go _ _ (hlt16 k))))
        go_wp2
        have hst2 := hst.drewN nq
        clear hst x0 x1 x2 x3 fx0 fx1 fx2 fx3 r0 r1 r2 r3 fr0 fr1 fr2 fr3 hck hbw zx zr t1 t2 t3 w2
        generalize wr.drewN nq = w1 at *
        go_loopw [44] (fun i wr => ∃ j : Nat, j ≤ k ∧ i = .int .i64 j ∧ ∃ lv mv : Int, RSt w wr G.length (pop (gn G 0)) lv mv ∧ LV (Ll G true (prs k j)) lv ∧ LV (Ll G false (prs k j)) mv) (fun i _ => k - (intOf i).toNat)
        case atStart => exact ⟨0, by omega, rfl, lv, mv, hst2, HL, HM⟩
        case round =>
          clear HL HM hst2
          obtain ⟨j, hj, rfl, lv, mv, hst, HL2, HM2⟩ := hrel
          by_cases hlj : j < k
          · have hbw := hst.2.2
            have hck : wr.cell? ⟨b, off + k, none⟩ = some (.int .i64 (gn G k)) := (hbw.cell hb).trans (hc k hlt)
            have hcj : wr.cell? ⟨b, off + j, none⟩ = some (.int .i64 (gn G j)) := (hbw.cell hb).trans (hc j (by omega))
            have hand := i64_and_nat (gn G k) (gn G j) (by have := hlt16 k; omega) (by have := hlt16 j; omega)
            have hlo : gn G k &&& gn G j < 65536 := Nat.lt_of_le_of_lt Nat.and_le_left (hlt16 k)
            go_wp2
            go_quiet ((go_at_call 56; exact quiet_is (size_go _ _ hlo)))
            have hst2 := hst.drewN nq
            have hck2 : (wr.drewN nq).cell? ⟨b, off + k, none⟩ = some (.int .i64 (gn G k)) := hck
            clear hst hck hcj hand hbw
            generalize wr.drewN nq = wq at *
            have hbit1 := bits_bt (gn G k) j (by have := hlt16 k; omega)
            obtain ⟨zx, x0, x1, x2, x3, fx0, fx1, fx2, fx3⟩ := four_at hst2.1
            obtain ⟨zr, r0, r1, r2, r3, fr0, fr1, fr2, fr3⟩ := four_at hst2.2.1
            cases hbit : (gn G k).testBit j with
            | true =>
              have e1 := Ll_snoc_hit (b := true) (prs k j) hbit
              have e2 : Ll G false (prs k j ++ [(k, j)]) = Ll G false (prs k j) := Ll_snoc_miss (prs k j) (by rw [hbit]; decide)
              rw [← prs_snoc] at e1 e2
              have E1 := Lib.hid e1
              have E2 := Lib.hid e2
              clear e1 e2
              have hone : ((bt (gn G k) j : Int) == 1) = true := by rw [bt_test, hbit]; rfl
              by_cases v0 : lv < 0
              · go_wp2
                go_roundw
                case rel => exact ⟨j + 1, by omega, by go_num, _, mv, hst2.setL _, by rw [E1.out]; exact HL2.snoc (.inl v0), by rw [E2.out]; exact HM2⟩
                case measure => simp [intOf]; omega
              · by_cases v1 : lv = (pop (gn G k &&& gn G j) : Int)
                · have tv : (lv != (pop (gn G k &&& gn G j) : Int)) = false := by simp [v1]
                  have V1 := Lib.hid v1
                  clear v1
                  go_wp2
                  go_roundw
                  case rel => exact ⟨j + 1, by omega, by go_num, lv, mv, hst2, by rw [E1.out]; have := HL2.snoc (.inr V1.out); rw [← V1.out] at this; exact this, by rw [E2.out]; exact HM2⟩
                  case measure => simp [intOf]; omega
                · have tv : (lv != (pop (gn G k &&& gn G j) : Int)) = true := by simp [v1]
                  have NN := not_num HL2 v0 hlj hlt hbit v1
                  have hbw := hst2.2.2
                  go_wp2
                  refine bodyPost_ret (v := .tuple #[agg4 0 0 0 0, .int .i64 4]) ?_ rfl ⟨below_set4 hbw (Nat.le_refl _) _ _ _ _, .inr ⟨NN, rfl⟩⟩
                  simp [results, Try.results21, go_sem, *]
            | false =>
              have e1 := Ll_snoc_hit (b := false) (prs k j) hbit
              have e2 : Ll G true (prs k j ++ [(k, j)]) = Ll G true (prs k j) := Ll_snoc_miss (prs k j) (by rw [hbit]; decide)
              rw [← prs_snoc] at e1 e2
              have E1 := Lib.hid e1
              have E2 := Lib.hid e2
              clear e1 e2
              have hone : ((bt (gn G k) j : Int) == 1) = false := by rw [bt_test, hbit]; rfl
              by_cases v0 : mv < 0
              · go_wp2
                go_roundw
                case rel => exact ⟨j + 1, by omega, by go_num, lv, _, hst2.setM _, by rw [E2.out]; exact HL2, by rw [E1.out]; exact HM2.snoc (.inl v0)⟩
                case measure => simp [intOf]; omega
              · by_cases v1 : mv = (pop (gn G k &&& gn G j) : Int)
                · have tv : (mv != (pop (gn G k &&& gn G j) : Int)) = false := by simp [v1]
                  have V1 := Lib.hid v1
                  clear v1
                  go_wp2
                  go_roundw
                  case rel => exact ⟨j + 1, by omega, by go_num, lv, mv, hst2, by rw [E2.out]; exact HL2, by rw [E1.out]; have := HM2.snoc (.inr V1.out); rw [← V1.out] at this; exact this⟩
                  case measure => simp [intOf]; omega
                · have tv : (mv != (pop (gn G k &&& gn G j) : Int)) = true := by simp [v1]
                  have NN := not_num HM2 v0 hlj hlt hbit v1
                  have hbw := hst2.2.2
                  go_wp2
                  refine bodyPost_ret (v := .tuple #[agg4 0 0 0 0, .int .i64 4]) ?_ rfl ⟨below_set4 hbw (Nat.le_refl _) _ _ _ _, .inr ⟨NN, rfl⟩⟩
                  simp [results, Try.results21, go_sem, *]
          · obtain rfl : j = k := by omega
            go_wp2
            go_roundw
            case rel =>
              refine ⟨j + 1, by omega, by go_num, lv, mv, hst, by rw [prs_row]; exact HL2, by rw [prs_row]; exact HM2, fun i hi => ?_, fun _ => ⟨by omega, by omega⟩⟩
              rcases Nat.lt_or_ge i j with h | h
              · exact HK.out i h
              · obtain rfl : i = j := by omega
                exact Q1.out
            case measure => simp [intOf]; omega
      · have t1 : ((pop (gn G k) : Int) != (pop (gn G 0) : Int)) = true := by simp; omega
        have NN := not_num_k hG k hlt (.inl q1)
        go_wp2
        go_quiet ((go_at_call 56; exact quiet_is (size_go _ _ (hlt16 k))))
        go_wp2
        refine bodyPost_ret (v := .tuple #[agg4 0 0 0 0, .int .i64 4]) ?_ rfl ⟨below_set4 (drewN_below hbw) (Nat.le_refl _) _ _ _ _, .inr ⟨NN, rfl⟩⟩
        simp [results, Try.results21, go_sem, *]
    · obtain rfl : k = G.length := by omega
      obtain ⟨h1, h2⟩ := H1.out h1n
      obtain ⟨l', m', rfl, rfl, hnum⟩ := num_end hG HK.out h1 h2 HL HM
      have NN := Lib.hid hnum
      clear hnum
      go_wp2
      refine bodyPost_ret (v := .tuple #[agg4 G.length (pop (gn G 0)) l' m', .int .i64 0]) ?_ rfl ⟨below_set4 hbw (Nat.le_refl _) _ _ _ _, .inl ⟨_, l', m', NN.out, rfl⟩⟩
      simp [results, Try.results21, go_sem, *]
end Go.Proofs.Ytijnpcehjnaaiaa
