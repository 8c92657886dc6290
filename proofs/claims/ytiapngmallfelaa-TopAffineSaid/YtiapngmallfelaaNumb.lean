
/- Walk: the numbers of a graph, as the program gathers them. -/
import Derived.Test.YtiapngmallfelaaNums
namespace Go.Proofs.Ytiapngmallfelaa
open Go.RowKit

theorem quiet_is {P : Program} {f : FuncId} {args : Array Value} {w : World} {n : Nat} {v : Value}
    (h : Calls P f args (w.drewN n) fun e w' => e = .returned v ∧ w.drewN n = w') : Calls P f args (w.drewN n) fun e w'' => e = .returned v ∧ ∃ m, w'' = w.drewN m :=
  h.mono fun _ _ ⟨he, hm⟩ => ⟨he, n, hm.symm⟩

/-! ### the numbers of a graph, as the program gathers them -/
def stL (ls : List Nat) : Once := ls.foldl (fun (s : Once) (v : Nat) => tellSt s (v : Int)) (0, false, false)
theorem stL_snoc (ls : List Nat) (v : Nat) : stL (ls ++ [v]) = tellSt (stL ls) (v : Int) := by simp [stL]
/-- The pairs (i, j), j below i, up to the row i and the place j. -/
def prs (i j : Nat) : List (Nat × Nat) := (List.range i).flatMap (fun a => (List.range a).map fun b => (a, b)) ++ (List.range j).map fun b => (i, b)
theorem prs_snoc (i j : Nat) : prs i (j + 1) = prs i j ++ [(i, j)] := by simp [prs, List.range_succ]
theorem prs_row (i : Nat) : prs (i + 1) 0 = prs i i := by simp [prs, List.range_succ]
def Kl (G : List Nat) (i : Nat) : List Nat := (List.range i).map fun a => pop (gn G a)
theorem Kl_snoc (G : List Nat) (i : Nat) : Kl G (i + 1) = Kl G i ++ [pop (gn G i)] := by simp [Kl, List.range_succ]
def Ll (G : List Nat) (b : Bool) (ps : List (Nat × Nat)) : List Nat := (ps.filter fun p => (gn G p.1).testBit p.2 == b).map fun p => pop (gn G p.1 &&& gn G p.2)
theorem Ll_snoc_hit {G : List Nat} {b : Bool} {i j : Nat} (ps : List (Nat × Nat)) (h : (gn G i).testBit j = b) : Ll G b (ps ++ [(i, j)]) = Ll G b ps ++ [pop (gn G i &&& gn G j)] := by simp [Ll, h]
theorem Ll_snoc_miss {G : List Nat} {b : Bool} {i j : Nat} (ps : List (Nat × Nat)) (h : (gn G i).testBit j ≠ b) : Ll G b (ps ++ [(i, j)]) = Ll G b ps := by simp [Ll, h]

theorem heap_alloc_eq (w : World) (o : Obj) : (w.alloc o).heap = w.heap.push o := rfl
def NumSt (w wr : World) (sk sl sm : Once) : Prop :=
  wr.heap[w.heap.size + 1]? = some (.cells (onceCells sk) 79 (0, 0)) ∧ wr.heap[w.heap.size + 1 + 1]? = some (.cells (onceCells sl) 79 (0, 0)) ∧
  wr.heap[w.heap.size + 1 + 1 + 1]? = some (.cells (onceCells sm) 79 (0, 0)) ∧
  wr.heap[w.heap.size]? = some (.cells #[.int .i64 0, .int .i64 0, .int .i64 0, .int .i64 0] 30 (0, 0)) ∧ Below w.heap.size w wr
theorem new4 (w : World) (o0 o1 o2 o3 : Obj) : ((((w.alloc o0).alloc o1).alloc o2).alloc o3).heap[w.heap.size]? = some o0 ∧ ((((w.alloc o0).alloc o1).alloc o2).alloc o3).heap[w.heap.size + 1]? = some o1 ∧
    ((((w.alloc o0).alloc o1).alloc o2).alloc o3).heap[w.heap.size + 1 + 1]? = some o2 ∧ ((((w.alloc o0).alloc o1).alloc o2).alloc o3).heap[w.heap.size + 1 + 1 + 1]? = some o3 := by
  simp only [heap_alloc_eq, Array.getElem?_push, Array.size_push]
  refine ⟨?_, ?_, ?_, ?_⟩
  · rw [if_neg (by omega), if_neg (by omega), if_neg (by omega), if_pos trivial]
  · rw [if_neg (by omega), if_neg (by omega), if_pos trivial]
  · rw [if_neg (by omega), if_pos trivial]
  · rw [if_pos trivial]
theorem NumSt.start (w : World) : NumSt w ((((w.alloc (.cells #[.int .i64 0, .int .i64 0, .int .i64 0, .int .i64 0] 30)).alloc (.cells #[.int .i64 0, .bool false, .bool false] 79)).alloc
    (.cells #[.int .i64 0, .bool false, .bool false] 79)).alloc (.cells #[.int .i64 0, .bool false, .bool false] 79)) (0, false, false) (0, false, false) (0, false, false) := by
  obtain ⟨h0, h1, h2, h3⟩ := new4 w (.cells #[.int .i64 0, .int .i64 0, .int .i64 0, .int .i64 0] 30) (.cells #[.int .i64 0, .bool false, .bool false] 79)
    (.cells #[.int .i64 0, .bool false, .bool false] 79) (.cells #[.int .i64 0, .bool false, .bool false] 79)
  exact ⟨h1, h2, h3, h0, ((((Below.refl _ _).alloc (Nat.le_refl _) _).alloc (by simp) _).alloc (by simp; omega) _).alloc (by simp; omega) _⟩
theorem NumSt.lt {w wr : World} {sk sl sm : Once} (h : NumSt w wr sk sl sm) : w.heap.size + 1 + 1 + 1 < wr.heap.size := lt_of_block h.2.2.1
theorem NumSt.drewN {w wr : World} {sk sl sm : Once} (m : Nat) (h : NumSt w wr sk sl sm) : NumSt w (wr.drewN m) sk sl sm := ⟨h.1, h.2.1, h.2.2.1, h.2.2.2.1, drewN_below h.2.2.2.2⟩
theorem NumSt.k {w wr w' : World} {sk sl sm sk' : Once} (h : NumSt w wr sk sl sm) (h1 : w'.heap[w.heap.size + 1]? = some (.cells (onceCells sk') 79 (0, 0))) (hg : wr.grownBy w' (some (w.heap.size + 1))) : NumSt w w' sk' sl sm := by
  have hl := h.lt
  refine ⟨h1, ?_, ?_, ?_, h.2.2.2.2.grown hg (by omega) (fun k hk => by simp at hk; omega)⟩
  · rw [hg.block _ (by omega) (by simp <;> omega)]; exact h.2.1
  · rw [hg.block _ (by omega) (by simp <;> omega)]; exact h.2.2.1
  · rw [hg.block _ (by omega) (by simp <;> omega)]; exact h.2.2.2.1
theorem NumSt.l {w wr w' : World} {sk sl sm sl' : Once} (h : NumSt w wr sk sl sm) (h1 : w'.heap[w.heap.size + 1 + 1]? = some (.cells (onceCells sl') 79 (0, 0))) (hg : wr.grownBy w' (some (w.heap.size + 1 + 1))) : NumSt w w' sk sl' sm := by
  have hl := h.lt
  refine ⟨?_, h1, ?_, ?_, h.2.2.2.2.grown hg (by omega) (fun k hk => by simp at hk; omega)⟩
  · rw [hg.block _ (by omega) (by simp <;> omega)]; exact h.1
  · rw [hg.block _ (by omega) (by simp <;> omega)]; exact h.2.2.1
  · rw [hg.block _ (by omega) (by simp <;> omega)]; exact h.2.2.2.1
theorem NumSt.m {w wr w' : World} {sk sl sm sm' : Once} (h : NumSt w wr sk sl sm) (h1 : w'.heap[w.heap.size + 1 + 1 + 1]? = some (.cells (onceCells sm') 79 (0, 0))) (hg : wr.grownBy w' (some (w.heap.size + 1 + 1 + 1))) : NumSt w w' sk sl sm' := by
  have hl := h.lt
  refine ⟨?_, ?_, h1, ?_, h.2.2.2.2.grown hg (by omega) (fun k hk => by simp at hk; omega)⟩
  · rw [hg.block _ (by omega) (by simp <;> omega)]; exact h.1
  · rw [hg.block _ (by omega) (by simp <;> omega)]; exact h.2.1
  · rw [hg.block _ (by omega) (by simp <;> omega)]; exact h.2.2.2.1

abbrev agg4 (a b c d : Int) : Value := .agg #[.int .i64 a, .int .i64 b, .int .i64 c, .int .i64 d]
def okB (sk sl sm : Once) : Bool := sl.2.1 && sm.2.1 && !sk.2.2 && !sl.2.2 && !sm.2.2

set_option maxHeartbeats 1000000 in
theorem numbers_go (w : World) (a : Option Addr) (n cap : Nat) (G : List Nat) (hs : Sl w a n cap (ints G)) (hG : Gr G) :
    Calls Try.prog 35 #[.slice a n cap] w fun e w' =>
      e = .returned (.tuple #[agg4 n (stL (Kl G n)).1 (stL (Ll G true (prs n 0))).1 (stL (Ll G false (prs n 0))).1, .bool (okB (stL (Kl G n)) (stL (Ll G true (prs n 0))) (stL (Ll G false (prs n 0))))]) ∧ Below w.heap.size w w' := by
  have hn : G.length = n := by have := hs.len; rwa [ints_length] at this
  have hn16 : n ≤ 16 := by have := hG.2.1; omega
  rcases hs.parts with ⟨_, rfl, _⟩ | ⟨b, off, rfl, hs2⟩
  · have := hG.1; omega
  have hsm := hG.small
  have hlt16 := gn_lt hsm (by omega)
  obtain ⟨hb, hc⟩ := hs2.icells (by have := hG.1; omega)
  have HN := Lib.hid hn
  clear hn hs2
  go_enter Try.func35, Try.ntmps35
  go_wp2
  go_loopw [13] (fun i wr => ∃ k : Nat, k ≤ n ∧ i = .int .i64 k ∧ NumSt w wr (stL (Kl G k)) (stL (Ll G true (prs k 0))) (stL (Ll G false (prs k 0)))) (fun i _ => n - (intOf i).toNat)
  case atStart => exact ⟨0, by omega, rfl, NumSt.start w⟩
  case round =>
    obtain ⟨k, hk, rfl, hst⟩ := hrel
    have hsr : Sl wr (some ⟨b, off, none⟩) n cap (ints G) := hs.mono hst.2.2.2.2
    by_cases hlt : k < n
    · have hck : wr.cell? ⟨b, off + k, none⟩ = some (.int .i64 (gn G k)) := (hst.2.2.2.2.cell hb).trans (hc k hlt)
      have h1 := hst.1
      rcases hsk : stL (Kl G k) with ⟨nk, tk, fk⟩
      rw [hsk] at h1
      have HSK := Lib.hid hsk
      clear hsk
      go_wp2_with (first
        | (go_at_call 63; refine (count_go _ _ (hlt16 k)).mono ?_; rintro e w' ⟨rfl, rfl⟩)
        | (go_at_call 62; refine (tell_go _ _ nk _ tk fk h1).mono ?_; rintro e w' ⟨rfl, hh, hg⟩))
      have hst1 := hst.k hh hg
      rw [← HSK.out, ← stL_snoc, ← Kl_snoc] at hst1
      clear hh hg HSK h1 hst hsr hck
      obtain ⟨w1, rfl⟩ : ∃ w1 : World, w1 = w' := ⟨_, rfl⟩
      go_loopw [23] (fun i wr => ∃ j : Nat, j ≤ k ∧ i = .int .i64 j ∧ NumSt w wr (stL (Kl G (k + 1))) (stL (Ll G true (prs k j))) (stL (Ll G false (prs k j)))) (fun i _ => k - (intOf i).toNat)
      case atStart => exact ⟨0, by omega, rfl, hst1⟩
      case round =>
        obtain ⟨j, hj, rfl, hst⟩ := hrel
        by_cases hlj : j < k
        · have hsr : Sl wr (some ⟨b, off, none⟩) n cap (ints G) := hs.mono hst.2.2.2.2
          have hck : wr.cell? ⟨b, off + k, none⟩ = some (.int .i64 (gn G k)) := (hst.2.2.2.2.cell hb).trans (hc k hlt)
          have hcj : wr.cell? ⟨b, off + j, none⟩ = some (.int .i64 (gn G j)) := (hst.2.2.2.2.cell hb).trans (hc j (by omega))
          have hand := i64_and_nat (gn G k) (gn G j) (by have := hlt16 k; omega) (by have := hlt16 j; omega)
          have hlo : gn G k &&& gn G j < 65536 := Nat.lt_of_le_of_lt Nat.and_le_left (hlt16 k)
          go_wp2
          go_quiet ((go_at_call 63; exact quiet_is (count_go _ _ hlo)))
          have hst2 := hst.drewN nq
          clear hst hck hcj hand hsr
          generalize wr.drewN nq = wq at *
          have hsr : Sl wq (some ⟨b, off, none⟩) n cap (ints G) := hs.mono hst2.2.2.2.2
          have e1 := fun h => Ll_snoc_hit (G := G) (b := true) (i := k) (j := j) (prs k j) h
          have e2 := fun h => Ll_snoc_miss (G := G) (b := false) (i := k) (j := j) (prs k j) h
          have e3 := fun h => Ll_snoc_hit (G := G) (b := false) (i := k) (j := j) (prs k j) h
          have e4 := fun h => Ll_snoc_miss (G := G) (b := true) (i := k) (j := j) (prs k j) h
          rw [← prs_snoc] at e1 e2 e3 e4
          cases hbit : (gn G k).testBit j with
          | true =>
            have h1 := hst2.2.1
            have E1 := Lib.hid (e1 hbit)
            have E2 := Lib.hid (e2 (by rw [hbit]; decide))
            clear e1 e2 e3 e4
            rcases hsk : stL (Ll G true (prs k j)) with ⟨nk, tk, fk⟩
            rw [hsk] at h1
            have HSK := Lib.hid hsk
            clear hsk
            go_wp2_with (first
              | (go_at_call 64; refine (near_go _ _ _ _ G hsr hsm k j hlt (by omega)).mono ?_; rintro e w' ⟨rfl, rfl⟩)
              | (go_at_call 62; refine (tell_go _ _ nk _ tk fk h1).mono ?_; rintro e w' ⟨rfl, hh, hg⟩))
            go_roundw
            case rel =>
              have hst3 := hst2.l hh hg
              rw [← HSK.out, ← stL_snoc, ← E1.out] at hst3
              exact ⟨j + 1, by omega, by go_num, by rw [E2.out]; exact hst3⟩
            case measure => simp [intOf]; omega
          | false =>
            have h1 := hst2.2.2.1
            have E1 := Lib.hid (e3 hbit)
            have E2 := Lib.hid (e4 (by rw [hbit]; decide))
            clear e1 e2 e3 e4
            rcases hsk : stL (Ll G false (prs k j)) with ⟨nk, tk, fk⟩
            rw [hsk] at h1
            have HSK := Lib.hid hsk
            clear hsk
            go_wp2_with (first
              | (go_at_call 64; refine (near_go _ _ _ _ G hsr hsm k j hlt (by omega)).mono ?_; rintro e w' ⟨rfl, rfl⟩)
              | (go_at_call 62; refine (tell_go _ _ nk _ tk fk h1).mono ?_; rintro e w' ⟨rfl, hh, hg⟩))
            go_roundw
            case rel =>
              have hst3 := hst2.m hh hg
              rw [← HSK.out, ← stL_snoc, ← E1.out] at hst3
              exact ⟨j + 1, by omega, by go_num, by rw [E2.out]; exact hst3⟩
            case measure => simp [intOf]; omega
        · obtain rfl : j = k := by omega
          go_wp2
          go_roundw
          case rel => exact ⟨j + 1, by omega, by go_num, by rw [prs_row]; exact hst⟩
          case measure => simp [intOf]; omega
    · obtain rfl : k = n := by omega
      have hk1 := hst.1
      have hl1 := hst.2.1
      have hm1 := hst.2.2.1
      have hr := hst.2.2.2.1
      have r0 : wr.cell? ⟨w.heap.size, 0, none⟩ = some (.int .i64 0) := by rw [cells_at hr]; rfl
      have r1 : wr.cell? ⟨w.heap.size, 1, none⟩ = some (.int .i64 0) := by rw [cells_at hr]; rfl
      have r2 : wr.cell? ⟨w.heap.size, 2, none⟩ = some (.int .i64 0) := by rw [cells_at hr]; rfl
      have r3 : wr.cell? ⟨w.heap.size, 3, none⟩ = some (.int .i64 0) := by rw [cells_at hr]; rfl
      have q0 := free_at hr 0
      have q1 := free_at hr 1
      have q2 := free_at hr 2
      have q3 := free_at hr 3
      clear hr
      have HB := Lib.hid hst.2.2.2.2
      clear hst hsr
      rcases hsk : stL (Kl G k) with ⟨nk, tk, fk⟩
      rcases hsl : stL (Ll G true (prs k 0)) with ⟨nl, tl, fl⟩
      rcases hsm : stL (Ll G false (prs k 0)) with ⟨nm, tm, fm⟩
      rw [hsk] at hk1
      rw [hsl] at hl1
      rw [hsm] at hm1
      have k0 : wr.cell? ⟨w.heap.size + 1, 0, none⟩ = some (.int .i64 nk) := by rw [cells_at hk1]; rfl
      have k2 : wr.cell? ⟨w.heap.size + 1, 2, none⟩ = some (.bool fk) := by rw [cells_at hk1]; rfl
      have l0 : wr.cell? ⟨w.heap.size + 1 + 1, 0, none⟩ = some (.int .i64 nl) := by rw [cells_at hl1]; rfl
      have l1 : wr.cell? ⟨w.heap.size + 1 + 1, 1, none⟩ = some (.bool tl) := by rw [cells_at hl1]; rfl
      have l2 : wr.cell? ⟨w.heap.size + 1 + 1, 2, none⟩ = some (.bool fl) := by rw [cells_at hl1]; rfl
      have m0 : wr.cell? ⟨w.heap.size + 1 + 1 + 1, 0, none⟩ = some (.int .i64 nm) := by rw [cells_at hm1]; rfl
      have m1 : wr.cell? ⟨w.heap.size + 1 + 1 + 1, 1, none⟩ = some (.bool tm) := by rw [cells_at hm1]; rfl
      have m2 : wr.cell? ⟨w.heap.size + 1 + 1 + 1, 2, none⟩ = some (.bool fm) := by rw [cells_at hm1]; rfl
      have HK := Lib.hid hsk
      have HL := Lib.hid hsl
      have HM := Lib.hid hsm
      clear hsk hsl hsm hk1 hl1 hm1
      go_wp2
      all_goals
        refine bodyPost_ret (v := .tuple #[agg4 k nk nl nm, .bool (okB (nk, tk, fk) (nl, tl, fl) (nm, tm, fm))]) ?_ rfl ⟨by rw [HK.out, HL.out, HM.out], ?_⟩
        · simp [results, Try.results35, go_sem, okB, *]
        · exact (((HB.out.setCell (Nat.le_refl _) _).setCell (Nat.le_refl _) _).setCell (Nat.le_refl _) _).setCell (Nat.le_refl _) _
end Go.Proofs.Ytiapngmallfelaa
