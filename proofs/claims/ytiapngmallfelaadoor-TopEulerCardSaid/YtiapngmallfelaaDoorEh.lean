
/- rooks: numbers of the board of one square; Rooks; places. -/
import Derived.Test.YtiapngmallfelaaDoorEg
namespace Go.Proofs.YtiapngmallfelaaDoor
open Go.RowKit Go.Shelf
attribute [local go_sem] Oper.semAt_some
set_option linter.unusedSimpArgs false
theorem num0_go (w : World) (a : Option Addr) (c : Nat) (u : Int) : Calls Tryd.prog 31 #[.slice a 0 c, .int .i64 u] w fun e w' => ∃ g, e = .returned (.slice (some ⟨g, 0, none⟩) 1 1) ∧ w.heap.size ≤ g ∧ w'.heap[g]? = some (.cells #[.int .i64 1] 3 (0, 0)) ∧ Below w.heap.size w w' := by
  refine (callsIn_wide (n := 5)).1 (callsIn_of_wp_marks Tryd.func31 rfl trivial (wpIn_wide.2 ?_) rfl)
  simp only [Tryd.ntmps31, List.size_toArray, List.length_cons, List.length_nil, Nat.reduceAdd, Nat.reduceSub, Array.replicate_succ, Array.replicate_zero, List.push_toArray, List.append_toArray, List.nil_append, List.cons_append]
  go_wp2
  refine ⟨.slice (some ⟨w.heap.size + 1 + 1, 0, none⟩) 1 1, ?_, ⟨_, rfl, by omega, ?_, bal (bal (bal (Below.refl _ _) _) _) _⟩⟩
  · simp [results, Tryd.results31, go_sem]
  · have h0 := new_at ((w.alloc (.cells #[.slice a 0 c] 38)).alloc (.cells #[.int .i64 u] 3)) (.cells #[.int .i64 1] 3)
    rwa [World.size_alloc, World.size_alloc] at h0
/-- append behind a full slice of one element. -/
theorem wp_grow1 {o : Oper} {a : Act} {K : Act → World → Prop} {Q : Exit → Act → World → Prop} {w : World} (s x : Operand)
    (ho : o.op = .call { callee := .builtin .append, args := #[s, x], argTypes := #[23, 23] }) (hty : o.type = 23) (g p : Nat) (hs : a.eval s = .slice (some ⟨g, 0, none⟩) 1 1) (hx : a.eval x = .slice (some ⟨p, 0, none⟩) 1 1)
    (hg : w.heap[g]? = some (.cells #[.int .i64 1] 3 (0, 0))) (hp : w.heap[p]? = some (.cells #[.int .i64 0] 3 (0, 0)))
    (h : ∀ (g2 c2 : Nat) (cur : Array Value) (w' : World), w'.heap[g2]? = some (.cells cur 3 (0, 0)) → cur.size = c2 → 2 ≤ c2 → c2 ≤ maxLen → cur[0]? = some (.int .i64 1) → cur[1]? = some (.int .i64 0) → w.heap.size ≤ g2 → Below w.heap.size w w' → K (a.put o.dst (.slice (some ⟨g2, 0, none⟩) 2 c2)) w') : o.wp Tryd.prog a w K Q := by
  obtain ⟨i0, hi, hz0, hz1, hz2⟩ := info_parts infoInt
  have ht : Tryd.prog.underlying 23 = some (.slice 3) := Tryd.underlying23
  have h1 : ∀ (q : Nat) (z : Int), w.heap[q]? = some (.cells #[.int .i64 z] 3 (0, 0)) → ∀ j v, [Value.int .i64 z][j]? = some v → w.cell? ((⟨q, 0, none⟩ : Addr).add j) = some v := by
    intro q z hq j v hj
    cases j with
    | zero => simp at hj; subst hj; exact one_atB hq
    | succ j => simp at hj
  have hr := run_append_grow (P := Tryd.prog) w 23 23 3 i0 (.int .i64 0) ht hi hz0 ⟨g, 0, none⟩ 1 1 [.int .i64 1] (by rw [hz1]; rfl) (h1 g 1 hg) ⟨p, 0, none⟩ 1 1 [.int .i64 0] (by rw [hz1]; rfl) (h1 p 0 hp) (by omega) (by omega) (by rw [hz2]; exact growslice_fits (by omega) (by omega))
  have hge := grownCap_ge w (1 + 1) 1 3
  have hle := grownCap_le_maxLen w (1 + 1) 1 3 (by unfold maxLen; omega)
  unfold Oper.wp execOp
  simp only [ho, hty, resolve, invoke, builtin, Sem.run_bind, Sem.run_pure, Result.andThen_ok, List.map_toArray, List.map_cons, List.map_nil, hs, hx, hr]
  refine h _ _ _ _ (new_at w.drew _) ?_ hge hle ?_ ?_ (Nat.le_refl _) (bal (w := w) (drewB ⟨1, rfl⟩) _)
  · simp only [Nat.reduceAdd] at hge hle
    simp [Builtin.zeroCells, Value.cells]
    omega
  · simp only [Nat.reduceAdd] at hge hle
    rw [Array.getElem?_append_left (by simp)]
    rfl
  · simp only [Nat.reduceAdd] at hge hle
    rw [Array.getElem?_append_left (by simp)]
    rfl
/-- What holds while the columns are gone through: out[1] is z. -/
structure Out1 (w : World) (bb p6 g2 c2 : Nat) (cur : Array Value) (V : World) (z : Nat) (A : World) : Prop where
  h6 : A.heap[p6]? = some (.cells #[.slice (some ⟨g2, 0, none⟩) 2 c2] 23 (0, 0))
  h2 : A.heap[g2]? = some (.cells (cur.setIfInBounds 1 (.int .i64 (z : Int))) 3 (0, 0))
  tab : Tab A
  hb : A.heap[w.heap.size]? = some (.cells #[.slice (some ⟨bb, 0, none⟩) 1 1] 38 (0, 0))
  hu : A.heap[w.heap.size + 1]? = some (.cells #[.int .i64 0] 3 (0, 0))
  hbb : A.heap[bb]? = some (.cells #[.int .i64 1] 3 (0, 0))
  size : V.heap.size ≤ A.heap.size
  below : Below w.heap.size w A
theorem Out1.near {w : World} {bb p6 g2 c2 : Nat} {cur : Array Value} {V : World} {z : Nat} {A A' : World} (h : Out1 w bb p6 g2 c2 cur V z A) (h2 : g2 < V.heap.size) (h6 : p6 < V.heap.size) (hw : w.heap.size + 1 < V.heap.size) (hb : bb < V.heap.size)
    (hn : Near (V.heap.size + 1) V.heap.size A A') : Out1 w bb p6 g2 c2 cur V z A' := by
  have k : ∀ x, x < V.heap.size → A'.heap[x]? = A.heap[x]? := fun x hx => hn.block x (by have := h.size; omega) (by omega) (by omega) (by omega)
  have hs := hn.size
  have hs2 := h.size
  have ht := h.tab.1
  have hbl := h.below
  refine ⟨(k _ h6).trans h.h6, (k _ h2).trans h.h2, h.tab.mono hs (k 1 (by omega)), (k _ (by omega)).trans h.hb, (k _ hw).trans h.hu, (k _ hb).trans h.hbb, by omega, ⟨hn.os.trans hbl.os, hn.tape.trans hbl.tape, hn.output.trans hbl.output, by have := hbl.size; omega, fun x hx => (k x (by omega)).trans (hbl.block x hx)⟩⟩
set_option maxRecDepth 100000 in
set_option maxHeartbeats 4000000 in
theorem num1_go (w : World) (bb : Nat) (hbb : w.heap[bb]? = some (.cells #[.int .i64 1] 3 (0, 0))) (tab : Tab w) : Calls Tryd.prog 31 #[.slice (some ⟨bb, 0, none⟩) 1 1, .int .i64 0] w fun e w' => ∃ a c, e = .returned (.slice a 2 c) ∧ Sl w' a 2 c [1, 1] ∧ Below w.heap.size w w' := by
  obtain ⟨W1, hW1⟩ : ∃ W1, (w.alloc (.cells #[.slice (some ⟨bb, 0, none⟩) 1 1] 38)).alloc (.cells #[.int .i64 0] 3) = W1 := ⟨_, rfl⟩
  have hbW : Below w.heap.size w W1 := by rw [← hW1]; exact bal (bal (Below.refl _ _) _) _
  have hs1 : W1.heap.size = w.heap.size + 2 := by rw [← hW1]; simp
  have q0 : W1.heap[w.heap.size]? = some (.cells #[.slice (some ⟨bb, 0, none⟩) 1 1] 38 (0, 0)) := by
    rw [← hW1, Below.heap_alloc _ _ _ (by simp)]
    exact new_at w _
  have q1 : W1.heap[w.heap.size + 1]? = some (.cells #[.int .i64 0] 3 (0, 0)) := by
    rw [← hW1]
    have h0 := new_at (w.alloc (.cells #[.slice (some ⟨bb, 0, none⟩) 1 1] 38)) (.cells #[.int .i64 0] 3)
    rwa [World.size_alloc] at h0
  have c0 := one_atB q0
  have c1 := one_atB q1
  have HW1 := Lib.hid hW1
  have HBW := Lib.hid hbW
  have HS1 := Lib.hid hs1
  have HQ0 := Lib.hid q0
  have HQ1 := Lib.hid q1
  have HBB := Lib.hid (persist hbb hbW)
  have HT := Lib.hid (tab.mono hbW.size (hbW.block 1 tab.1))
  clear hW1 hbW hs1 q0 q1 hbb tab
  refine (callsIn_wide (n := 5)).1 (callsIn_of_wp_marks Tryd.func31 rfl trivial (wpIn_wide.2 ?_) rfl)
  simp only [Tryd.ntmps31, List.size_toArray, List.length_cons, List.length_nil, Nat.reduceAdd, Nat.reduceSub, Array.replicate_succ, Array.replicate_zero, List.push_toArray, List.append_toArray, List.nil_append, List.cons_append]
  go_wp2
  rw [HW1.out]
  clear HW1
  refine wp_mono (Q := OnNormal (fun a V => ∃ (p4 p6 g g2 c2 : Nat) (cur : Array Value), a = { tmps := #[.slice (some ⟨bb, 0, none⟩) 1 1, .int .i64 0, .pointer (some ⟨w.heap.size, 0, none⟩), .pointer (some ⟨w.heap.size + 1, 0, none⟩), .slice none 0 0, .pointer (some ⟨p6, 0, none⟩), undef, undef, undef, .slice (some ⟨bb, 0, none⟩) 1 1, .int .i64 1, .bool false, undef, .slice (some ⟨bb, 0, none⟩) 1 1, .slice (some ⟨bb, 0, none⟩) 0 0, .int .i64 0, .slice (some ⟨g, 0, none⟩) 1 1, .slice (some ⟨p4, 0, none⟩) 1 1, .slice (some ⟨g2, 0, none⟩) 2 c2, undef, undef, undef, undef, undef, undef, undef, undef, undef, undef, undef, undef, undef, undef, undef, undef, undef, undef, undef, undef, undef, undef, undef, undef, undef, undef, undef, undef, undef, undef], defers := [] } ∧ V.heap[p6]? = some (.cells #[.slice (some ⟨g2, 0, none⟩) 2 c2] 23 (0, 0)) ∧ V.heap[g2]? = some (.cells cur 3 (0, 0)) ∧ cur.size = c2 ∧ 2 ≤ c2 ∧ c2 ≤ maxLen ∧ cur[0]? = some (.int .i64 1) ∧ cur[1]? = some (.int .i64 0) ∧ W1.heap.size ≤ g2 ∧ Below W1.heap.size W1 V)) ?region ?rest
  case region =>
    refine wp_region_F (S := fun V => V.cell? ⟨w.heap.size, 0, none⟩ = some (.slice (some ⟨bb, 0, none⟩) 1 1) ∧ V.cell? ⟨w.heap.size + 1, 0, none⟩ = some (.int .i64 0)) 99 (by kernel_rfl) ⟨c0, c1⟩ (fun hHeld => ?_)
    have hB : Below W1.heap.size W1 W1.drew := drewB ⟨1, rfl⟩
    refine wpAnyF_take (i := 0) (oi := _) (v := ?_) rfl (by kernel_rfl) (by kernel_rfl) (by kernel_rfl) (by kernel_rfl) (fun _ _ _ h => h) (Or.inl ⟨by rfl, ?_⟩) (by assumption) ?_
    rotate_left
    · intro w hSw
      (try dsimp only at hSw)
      go_simp
      all_goals with_reducible rfl
    (try simp only [Act.put, List.setIfInBounds_toArray, List.set_cons_zero, List.set_cons_succ])
    refine wpAnyF_take (i := 1) (oi := _) (v := ?_) rfl (by kernel_rfl) (by kernel_rfl) (by kernel_rfl) (by kernel_rfl) (fun _ _ _ h => h) (Or.inl ⟨by rfl, ?_⟩) (by assumption) ?_
    rotate_left
    · intro w hSw
      (try dsimp only at hSw)
      go_simp
      all_goals with_reducible rfl
    (try simp only [Act.put, List.setIfInBounds_toArray, List.set_cons_zero, List.set_cons_succ])
    refine wpAnyF_take (i := 2) (oi := _) (v := ?_) rfl (by kernel_rfl) (by kernel_rfl) (by kernel_rfl) (by kernel_rfl) (fun _ _ _ h => h) (Or.inl ⟨by rfl, ?_⟩) (by assumption) ?_
    rotate_left
    · intro w hSw
      (try dsimp only at hSw)
      go_simp
      all_goals with_reducible rfl
    (try simp only [Act.put, List.setIfInBounds_toArray, List.set_cons_zero, List.set_cons_succ])
    clear c0 c1 hHeld
    generalize W1.drew = V at hB ⊢
    refine wpAnyF_br (rs := [3, 4, 6]) (by kernel_rfl) (by simp) ?_
    simp only [List.forall_mem_cons, List.not_mem_nil, false_imp_iff, implies_true, and_true]
    refine ⟨?_, ?_, ?_⟩
    · refine wpOp_step (o := _) rfl (fun K hK => ?_)
      go_simp
      refine (num0_go V (some ⟨bb, 0, none⟩) 0 0).mono ?_
      rintro e V2 ⟨g, rfl, hg0, hg, hb⟩
      clear hg0
      replace hB := btr hB hb
      clear hb
      refine hK _ _ ⟨fun _ => ⟨one_atB (persist HQ0.out hB), one_atB (persist HQ1.out hB)⟩, ?_⟩
      clear hK K
      obtain ⟨V, rfl⟩ : ∃ X, X = V2 := ⟨_, rfl⟩
      (try simp only [Act.put, List.setIfInBounds_toArray, List.set_cons_zero, List.set_cons_succ])
      refine wpAnyF_br (rs := [4, 6]) (by kernel_rfl) (by simp) ?_
      simp only [List.forall_mem_cons, List.not_mem_nil, false_imp_iff, implies_true, and_true]
      refine ⟨?_, ?_⟩
      · refine wpOp_step (o := _) rfl (fun K hK => ?_)
        go_simp
        have hb : Below V.heap.size V (V.alloc (.cells #[.int .i64 0] 3)) := bal (Below.refl _ _) _
        have h4 := new_at V (.cells #[.int .i64 0] 3)
        replace hg := persist hg hb
        replace hB := btr hB hb
        clear hb
        refine hK _ _ ⟨fun _ => ⟨one_atB (persist HQ0.out hB), one_atB (persist HQ1.out hB)⟩, ?_⟩
        clear hK K
        generalize V.alloc (.cells #[.int .i64 0] 3) = V2 at *
        generalize V.heap.size = p4 at h4 ⊢
        obtain ⟨V, rfl⟩ : ∃ X, X = V2 := ⟨_, rfl⟩
        (try simp only [Act.put, List.setIfInBounds_toArray, List.set_cons_zero, List.set_cons_succ])
        refine wpAnyF_br (rs := [5, 6]) (by kernel_rfl) (by simp) ?_
        simp only [List.forall_mem_cons, List.not_mem_nil, false_imp_iff, implies_true, and_true]
        refine ⟨?_, ?_⟩
        · refine wpOp_step (o := _) rfl (fun K hK => ?_)
          rw [if_pos (by rfl)]
          refine wp_grow1 _ _ rfl rfl g p4 (by go_simp) (by go_simp) hg h4 ?_
          intro g2 c2 cur V2 e2 k1 k2 k3 k4 k5 k6 hb
          replace k6 := Nat.le_trans hB.size k6
          replace hg := persist hg hb
          replace h4 := persist h4 hb
          replace hB := btr hB hb
          clear hb
          refine hK _ _ ⟨fun _ => ⟨one_atB (persist HQ0.out hB), one_atB (persist HQ1.out hB)⟩, ?_⟩
          clear hK K
          obtain ⟨V, rfl⟩ : ∃ X, X = V2 := ⟨_, rfl⟩
          (try simp only [Act.put, List.setIfInBounds_toArray, List.set_cons_zero, List.set_cons_succ])
          refine wpAnyF_br (rs := [6]) (by kernel_rfl) (by simp) ?_
          simp only [List.forall_mem_cons, List.not_mem_nil, false_imp_iff, implies_true, and_true]
          · refine wpOp_step (o := _) rfl (fun K hK => ?_)
            go_simp
            have hb : Below V.heap.size V (V.alloc (.cells #[.slice none 0 0] 23)) := bal (Below.refl _ _) _
            have h6 := new_at V (.cells #[.slice none 0 0] 23)
            have hp6 : W1.heap.size ≤ V.heap.size := hB.size
            replace hg := persist hg hb
            replace h4 := persist h4 hb
            replace e2 := persist e2 hb
            replace hB := btr hB hb
            clear hb
            refine hK _ _ ⟨fun _ => ⟨one_atB (persist HQ0.out hB), one_atB (persist HQ1.out hB)⟩, ?_⟩
            clear hK K
            generalize V.alloc (.cells #[.slice none 0 0] 23) = V2 at *
            generalize V.heap.size = p6 at h6 hp6 ⊢
            obtain ⟨V, rfl⟩ : ∃ X, X = V2 := ⟨_, rfl⟩
            (try simp only [Act.put, List.setIfInBounds_toArray, List.set_cons_zero, List.set_cons_succ])
            refine wpAnyF_br (rs := [7]) (by kernel_rfl) (by simp) ?_
            simp only [List.forall_mem_cons, List.not_mem_nil, false_imp_iff, implies_true, and_true]
            · refine wpOp_step (o := _) rfl (fun K hK => ?_)
              have c6 := one_atB h6
              have f6 := free_at h6 0
              have hne : g2 ≠ p6 := by rintro rfl; rw [e2] at h6; simp at h6
              have e6 := set_at h6 0 (.slice (some ⟨g2, 0, none⟩) 2 c2)
              have e2 : (V.setCell ⟨p6, 0, none⟩ (.slice (some ⟨g2, 0, none⟩) 2 c2)).heap[g2]? = some (.cells cur 3 (0, 0)) := (Below.heap_setCell _ _ _ _ hne).trans e2
              have hB : Below W1.heap.size W1 (V.setCell ⟨p6, 0, none⟩ (.slice (some ⟨g2, 0, none⟩) 2 c2)) := hB.setCell (p := ⟨p6, 0, none⟩) hp6 _
              go_simp
              refine hK _ _ ⟨fun _ => ⟨one_atB (persist HQ0.out hB), one_atB (persist HQ1.out hB)⟩, ?_⟩
              clear hK K
              (try simp only [Act.put, List.setIfInBounds_toArray, List.set_cons_zero, List.set_cons_succ])
              refine wpAnyF_end (by kernel_rfl) (onNormal_mk ?_)
              exact ⟨p4, p6, g, g2, c2, cur, rfl, e6, e2, k1, k2, k3, k4, k5, k6, hB⟩
        · refine wpOp_step (o := _) rfl (fun K hK => ?_)
          go_simp
          have hb : Below V.heap.size V (V.alloc (.cells #[.slice none 0 0] 23)) := bal (Below.refl _ _) _
          have h6 := new_at V (.cells #[.slice none 0 0] 23)
          have hp6 : W1.heap.size ≤ V.heap.size := hB.size
          replace hg := persist hg hb
          replace h4 := persist h4 hb
          replace hB := btr hB hb
          clear hb
          refine hK _ _ ⟨fun _ => ⟨one_atB (persist HQ0.out hB), one_atB (persist HQ1.out hB)⟩, ?_⟩
          clear hK K
          generalize V.alloc (.cells #[.slice none 0 0] 23) = V2 at *
          generalize V.heap.size = p6 at h6 hp6 ⊢
          obtain ⟨V, rfl⟩ : ∃ X, X = V2 := ⟨_, rfl⟩
          (try simp only [Act.put, List.setIfInBounds_toArray, List.set_cons_zero, List.set_cons_succ])
          refine wpAnyF_br (rs := [5]) (by kernel_rfl) (by simp) ?_
          simp only [List.forall_mem_cons, List.not_mem_nil, false_imp_iff, implies_true, and_true]
          · refine wpOp_step (o := _) rfl (fun K hK => ?_)
            rw [if_pos (by rfl)]
            refine wp_grow1 _ _ rfl rfl g p4 (by go_simp) (by go_simp) hg h4 ?_
            intro g2 c2 cur V2 e2 k1 k2 k3 k4 k5 k6 hb
            replace k6 := Nat.le_trans hB.size k6
            replace hg := persist hg hb
            replace h4 := persist h4 hb
            replace h6 := persist h6 hb
            replace hB := btr hB hb
            clear hb
            refine hK _ _ ⟨fun _ => ⟨one_atB (persist HQ0.out hB), one_atB (persist HQ1.out hB)⟩, ?_⟩
            clear hK K
            obtain ⟨V, rfl⟩ : ∃ X, X = V2 := ⟨_, rfl⟩
            (try simp only [Act.put, List.setIfInBounds_toArray, List.set_cons_zero, List.set_cons_succ])
            refine wpAnyF_br (rs := [7]) (by kernel_rfl) (by simp) ?_
            simp only [List.forall_mem_cons, List.not_mem_nil, false_imp_iff, implies_true, and_true]
            · refine wpOp_step (o := _) rfl (fun K hK => ?_)
              have c6 := one_atB h6
              have f6 := free_at h6 0
              have hne : g2 ≠ p6 := by rintro rfl; rw [e2] at h6; simp at h6
              have e6 := set_at h6 0 (.slice (some ⟨g2, 0, none⟩) 2 c2)
              have e2 : (V.setCell ⟨p6, 0, none⟩ (.slice (some ⟨g2, 0, none⟩) 2 c2)).heap[g2]? = some (.cells cur 3 (0, 0)) := (Below.heap_setCell _ _ _ _ hne).trans e2
              have hB : Below W1.heap.size W1 (V.setCell ⟨p6, 0, none⟩ (.slice (some ⟨g2, 0, none⟩) 2 c2)) := hB.setCell (p := ⟨p6, 0, none⟩) hp6 _
              go_simp
              refine hK _ _ ⟨fun _ => ⟨one_atB (persist HQ0.out hB), one_atB (persist HQ1.out hB)⟩, ?_⟩
              clear hK K
              (try simp only [Act.put, List.setIfInBounds_toArray, List.set_cons_zero, List.set_cons_succ])
              refine wpAnyF_end (by kernel_rfl) (onNormal_mk ?_)
              exact ⟨p4, p6, g, g2, c2, cur, rfl, e6, e2, k1, k2, k3, k4, k5, k6, hB⟩
      · refine wpOp_step (o := _) rfl (fun K hK => ?_)
        go_simp
        have hb : Below V.heap.size V (V.alloc (.cells #[.slice none 0 0] 23)) := bal (Below.refl _ _) _
        have h6 := new_at V (.cells #[.slice none 0 0] 23)
        have hp6 : W1.heap.size ≤ V.heap.size := hB.size
        replace hg := persist hg hb
        replace hB := btr hB hb
        clear hb
        refine hK _ _ ⟨fun _ => ⟨one_atB (persist HQ0.out hB), one_atB (persist HQ1.out hB)⟩, ?_⟩
        clear hK K
        generalize V.alloc (.cells #[.slice none 0 0] 23) = V2 at *
        generalize V.heap.size = p6 at h6 hp6 ⊢
        obtain ⟨V, rfl⟩ : ∃ X, X = V2 := ⟨_, rfl⟩
        (try simp only [Act.put, List.setIfInBounds_toArray, List.set_cons_zero, List.set_cons_succ])
        refine wpAnyF_br (rs := [4]) (by kernel_rfl) (by simp) ?_
        simp only [List.forall_mem_cons, List.not_mem_nil, false_imp_iff, implies_true, and_true]
        · refine wpOp_step (o := _) rfl (fun K hK => ?_)
          go_simp
          have hb : Below V.heap.size V (V.alloc (.cells #[.int .i64 0] 3)) := bal (Below.refl _ _) _
          have h4 := new_at V (.cells #[.int .i64 0] 3)
          replace hg := persist hg hb
          replace h6 := persist h6 hb
          replace hB := btr hB hb
          clear hb
          refine hK _ _ ⟨fun _ => ⟨one_atB (persist HQ0.out hB), one_atB (persist HQ1.out hB)⟩, ?_⟩
          clear hK K
          generalize V.alloc (.cells #[.int .i64 0] 3) = V2 at *
          generalize V.heap.size = p4 at h4 ⊢
          obtain ⟨V, rfl⟩ : ∃ X, X = V2 := ⟨_, rfl⟩
          (try simp only [Act.put, List.setIfInBounds_toArray, List.set_cons_zero, List.set_cons_succ])
          refine wpAnyF_br (rs := [5]) (by kernel_rfl) (by simp) ?_
          simp only [List.forall_mem_cons, List.not_mem_nil, false_imp_iff, implies_true, and_true]
          · refine wpOp_step (o := _) rfl (fun K hK => ?_)
            rw [if_pos (by rfl)]
            refine wp_grow1 _ _ rfl rfl g p4 (by go_simp) (by go_simp) hg h4 ?_
            intro g2 c2 cur V2 e2 k1 k2 k3 k4 k5 k6 hb
            replace k6 := Nat.le_trans hB.size k6
            replace hg := persist hg hb
            replace h4 := persist h4 hb
            replace h6 := persist h6 hb
            replace hB := btr hB hb
            clear hb
            refine hK _ _ ⟨fun _ => ⟨one_atB (persist HQ0.out hB), one_atB (persist HQ1.out hB)⟩, ?_⟩
            clear hK K
            obtain ⟨V, rfl⟩ : ∃ X, X = V2 := ⟨_, rfl⟩
            (try simp only [Act.put, List.setIfInBounds_toArray, List.set_cons_zero, List.set_cons_succ])
            refine wpAnyF_br (rs := [7]) (by kernel_rfl) (by simp) ?_
            simp only [List.forall_mem_cons, List.not_mem_nil, false_imp_iff, implies_true, and_true]
            · refine wpOp_step (o := _) rfl (fun K hK => ?_)
              have c6 := one_atB h6
              have f6 := free_at h6 0
              have hne : g2 ≠ p6 := by rintro rfl; rw [e2] at h6; simp at h6
              have e6 := set_at h6 0 (.slice (some ⟨g2, 0, none⟩) 2 c2)
              have e2 : (V.setCell ⟨p6, 0, none⟩ (.slice (some ⟨g2, 0, none⟩) 2 c2)).heap[g2]? = some (.cells cur 3 (0, 0)) := (Below.heap_setCell _ _ _ _ hne).trans e2
              have hB : Below W1.heap.size W1 (V.setCell ⟨p6, 0, none⟩ (.slice (some ⟨g2, 0, none⟩) 2 c2)) := hB.setCell (p := ⟨p6, 0, none⟩) hp6 _
              go_simp
              refine hK _ _ ⟨fun _ => ⟨one_atB (persist HQ0.out hB), one_atB (persist HQ1.out hB)⟩, ?_⟩
              clear hK K
              (try simp only [Act.put, List.setIfInBounds_toArray, List.set_cons_zero, List.set_cons_succ])
              refine wpAnyF_end (by kernel_rfl) (onNormal_mk ?_)
              exact ⟨p4, p6, g, g2, c2, cur, rfl, e6, e2, k1, k2, k3, k4, k5, k6, hB⟩
    · refine wpOp_step (o := _) rfl (fun K hK => ?_)
      go_simp
      have hb : Below V.heap.size V (V.alloc (.cells #[.int .i64 0] 3)) := bal (Below.refl _ _) _
      have h4 := new_at V (.cells #[.int .i64 0] 3)
      replace hB := btr hB hb
      clear hb
      refine hK _ _ ⟨fun _ => ⟨one_atB (persist HQ0.out hB), one_atB (persist HQ1.out hB)⟩, ?_⟩
      clear hK K
      generalize V.alloc (.cells #[.int .i64 0] 3) = V2 at *
      generalize V.heap.size = p4 at h4 ⊢
      obtain ⟨V, rfl⟩ : ∃ X, X = V2 := ⟨_, rfl⟩
      (try simp only [Act.put, List.setIfInBounds_toArray, List.set_cons_zero, List.set_cons_succ])
      refine wpAnyF_br (rs := [3, 6]) (by kernel_rfl) (by simp) ?_
      simp only [List.forall_mem_cons, List.not_mem_nil, false_imp_iff, implies_true, and_true]
      refine ⟨?_, ?_⟩
      · refine wpOp_step (o := _) rfl (fun K hK => ?_)
        go_simp
        refine (num0_go V (some ⟨bb, 0, none⟩) 0 0).mono ?_
        rintro e V2 ⟨g, rfl, hg0, hg, hb⟩
        clear hg0
        replace h4 := persist h4 hb
        replace hB := btr hB hb
        clear hb
        refine hK _ _ ⟨fun _ => ⟨one_atB (persist HQ0.out hB), one_atB (persist HQ1.out hB)⟩, ?_⟩
        clear hK K
        obtain ⟨V, rfl⟩ : ∃ X, X = V2 := ⟨_, rfl⟩
        (try simp only [Act.put, List.setIfInBounds_toArray, List.set_cons_zero, List.set_cons_succ])
        refine wpAnyF_br (rs := [5, 6]) (by kernel_rfl) (by simp) ?_
        simp only [List.forall_mem_cons, List.not_mem_nil, false_imp_iff, implies_true, and_true]
        refine ⟨?_, ?_⟩
        · refine wpOp_step (o := _) rfl (fun K hK => ?_)
          rw [if_pos (by rfl)]
          refine wp_grow1 _ _ rfl rfl g p4 (by go_simp) (by go_simp) hg h4 ?_
          intro g2 c2 cur V2 e2 k1 k2 k3 k4 k5 k6 hb
          replace k6 := Nat.le_trans hB.size k6
          replace hg := persist hg hb
          replace h4 := persist h4 hb
          replace hB := btr hB hb
          clear hb
          refine hK _ _ ⟨fun _ => ⟨one_atB (persist HQ0.out hB), one_atB (persist HQ1.out hB)⟩, ?_⟩
          clear hK K
          obtain ⟨V, rfl⟩ : ∃ X, X = V2 := ⟨_, rfl⟩
          (try simp only [Act.put, List.setIfInBounds_toArray, List.set_cons_zero, List.set_cons_succ])
          refine wpAnyF_br (rs := [6]) (by kernel_rfl) (by simp) ?_
          simp only [List.forall_mem_cons, List.not_mem_nil, false_imp_iff, implies_true, and_true]
          · refine wpOp_step (o := _) rfl (fun K hK => ?_)
            go_simp
            have hb : Below V.heap.size V (V.alloc (.cells #[.slice none 0 0] 23)) := bal (Below.refl _ _) _
            have h6 := new_at V (.cells #[.slice none 0 0] 23)
            have hp6 : W1.heap.size ≤ V.heap.size := hB.size
            replace hg := persist hg hb
            replace h4 := persist h4 hb
            replace e2 := persist e2 hb
            replace hB := btr hB hb
            clear hb
            refine hK _ _ ⟨fun _ => ⟨one_atB (persist HQ0.out hB), one_atB (persist HQ1.out hB)⟩, ?_⟩
            clear hK K
            generalize V.alloc (.cells #[.slice none 0 0] 23) = V2 at *
            generalize V.heap.size = p6 at h6 hp6 ⊢
            obtain ⟨V, rfl⟩ : ∃ X, X = V2 := ⟨_, rfl⟩
            (try simp only [Act.put, List.setIfInBounds_toArray, List.set_cons_zero, List.set_cons_succ])
            refine wpAnyF_br (rs := [7]) (by kernel_rfl) (by simp) ?_
            simp only [List.forall_mem_cons, List.not_mem_nil, false_imp_iff, implies_true, and_true]
            · refine wpOp_step (o := _) rfl (fun K hK => ?_)
              have c6 := one_atB h6
              have f6 := free_at h6 0
              have hne : g2 ≠ p6 := by rintro rfl; rw [e2] at h6; simp at h6
              have e6 := set_at h6 0 (.slice (some ⟨g2, 0, none⟩) 2 c2)
              have e2 : (V.setCell ⟨p6, 0, none⟩ (.slice (some ⟨g2, 0, none⟩) 2 c2)).heap[g2]? = some (.cells cur 3 (0, 0)) := (Below.heap_setCell _ _ _ _ hne).trans e2
              have hB : Below W1.heap.size W1 (V.setCell ⟨p6, 0, none⟩ (.slice (some ⟨g2, 0, none⟩) 2 c2)) := hB.setCell (p := ⟨p6, 0, none⟩) hp6 _
              go_simp
              refine hK _ _ ⟨fun _ => ⟨one_atB (persist HQ0.out hB), one_atB (persist HQ1.out hB)⟩, ?_⟩
              clear hK K
              (try simp only [Act.put, List.setIfInBounds_toArray, List.set_cons_zero, List.set_cons_succ])
              refine wpAnyF_end (by kernel_rfl) (onNormal_mk ?_)
              exact ⟨p4, p6, g, g2, c2, cur, rfl, e6, e2, k1, k2, k3, k4, k5, k6, hB⟩
        · refine wpOp_step (o := _) rfl (fun K hK => ?_)
          go_simp
          have hb : Below V.heap.size V (V.alloc (.cells #[.slice none 0 0] 23)) := bal (Below.refl _ _) _
          have h6 := new_at V (.cells #[.slice none 0 0] 23)
          have hp6 : W1.heap.size ≤ V.heap.size := hB.size
          replace hg := persist hg hb
          replace h4 := persist h4 hb
          replace hB := btr hB hb
          clear hb
          refine hK _ _ ⟨fun _ => ⟨one_atB (persist HQ0.out hB), one_atB (persist HQ1.out hB)⟩, ?_⟩
          clear hK K
          generalize V.alloc (.cells #[.slice none 0 0] 23) = V2 at *
          generalize V.heap.size = p6 at h6 hp6 ⊢
          obtain ⟨V, rfl⟩ : ∃ X, X = V2 := ⟨_, rfl⟩
          (try simp only [Act.put, List.setIfInBounds_toArray, List.set_cons_zero, List.set_cons_succ])
          refine wpAnyF_br (rs := [5]) (by kernel_rfl) (by simp) ?_
          simp only [List.forall_mem_cons, List.not_mem_nil, false_imp_iff, implies_true, and_true]
          · refine wpOp_step (o := _) rfl (fun K hK => ?_)
            rw [if_pos (by rfl)]
            refine wp_grow1 _ _ rfl rfl g p4 (by go_simp) (by go_simp) hg h4 ?_
            intro g2 c2 cur V2 e2 k1 k2 k3 k4 k5 k6 hb
            replace k6 := Nat.le_trans hB.size k6
            replace hg := persist hg hb
            replace h4 := persist h4 hb
            replace h6 := persist h6 hb
            replace hB := btr hB hb
            clear hb
            refine hK _ _ ⟨fun _ => ⟨one_atB (persist HQ0.out hB), one_atB (persist HQ1.out hB)⟩, ?_⟩
            clear hK K
            obtain ⟨V, rfl⟩ : ∃ X, X = V2 := ⟨_, rfl⟩
            (try simp only [Act.put, List.setIfInBounds_toArray, List.set_cons_zero, List.set_cons_succ])
            refine wpAnyF_br (rs := [7]) (by kernel_rfl) (by simp) ?_
            simp only [List.forall_mem_cons, List.not_mem_nil, false_imp_iff, implies_true, and_true]
            · refine wpOp_step (o := _) rfl (fun K hK => ?_)
              have c6 := one_atB h6
              have f6 := free_at h6 0
              have hne : g2 ≠ p6 := by rintro rfl; rw [e2] at h6; simp at h6
              have e6 := set_at h6 0 (.slice (some ⟨g2, 0, none⟩) 2 c2)
              have e2 : (V.setCell ⟨p6, 0, none⟩ (.slice (some ⟨g2, 0, none⟩) 2 c2)).heap[g2]? = some (.cells cur 3 (0, 0)) := (Below.heap_setCell _ _ _ _ hne).trans e2
              have hB : Below W1.heap.size W1 (V.setCell ⟨p6, 0, none⟩ (.slice (some ⟨g2, 0, none⟩) 2 c2)) := hB.setCell (p := ⟨p6, 0, none⟩) hp6 _
              go_simp
              refine hK _ _ ⟨fun _ => ⟨one_atB (persist HQ0.out hB), one_atB (persist HQ1.out hB)⟩, ?_⟩
              clear hK K
              (try simp only [Act.put, List.setIfInBounds_toArray, List.set_cons_zero, List.set_cons_succ])
              refine wpAnyF_end (by kernel_rfl) (onNormal_mk ?_)
              exact ⟨p4, p6, g, g2, c2, cur, rfl, e6, e2, k1, k2, k3, k4, k5, k6, hB⟩
      · refine wpOp_step (o := _) rfl (fun K hK => ?_)
        go_simp
        have hb : Below V.heap.size V (V.alloc (.cells #[.slice none 0 0] 23)) := bal (Below.refl _ _) _
        have h6 := new_at V (.cells #[.slice none 0 0] 23)
        have hp6 : W1.heap.size ≤ V.heap.size := hB.size
        replace h4 := persist h4 hb
        replace hB := btr hB hb
        clear hb
        refine hK _ _ ⟨fun _ => ⟨one_atB (persist HQ0.out hB), one_atB (persist HQ1.out hB)⟩, ?_⟩
        clear hK K
        generalize V.alloc (.cells #[.slice none 0 0] 23) = V2 at *
        generalize V.heap.size = p6 at h6 hp6 ⊢
        obtain ⟨V, rfl⟩ : ∃ X, X = V2 := ⟨_, rfl⟩
        (try simp only [Act.put, List.setIfInBounds_toArray, List.set_cons_zero, List.set_cons_succ])
        refine wpAnyF_br (rs := [3]) (by kernel_rfl) (by simp) ?_
        simp only [List.forall_mem_cons, List.not_mem_nil, false_imp_iff, implies_true, and_true]
        · refine wpOp_step (o := _) rfl (fun K hK => ?_)
          go_simp
          refine (num0_go V (some ⟨bb, 0, none⟩) 0 0).mono ?_
          rintro e V2 ⟨g, rfl, hg0, hg, hb⟩
          clear hg0
          replace h4 := persist h4 hb
          replace h6 := persist h6 hb
          replace hB := btr hB hb
          clear hb
          refine hK _ _ ⟨fun _ => ⟨one_atB (persist HQ0.out hB), one_atB (persist HQ1.out hB)⟩, ?_⟩
          clear hK K
          obtain ⟨V, rfl⟩ : ∃ X, X = V2 := ⟨_, rfl⟩
          (try simp only [Act.put, List.setIfInBounds_toArray, List.set_cons_zero, List.set_cons_succ])
          refine wpAnyF_br (rs := [5]) (by kernel_rfl) (by simp) ?_
          simp only [List.forall_mem_cons, List.not_mem_nil, false_imp_iff, implies_true, and_true]
          · refine wpOp_step (o := _) rfl (fun K hK => ?_)
            rw [if_pos (by rfl)]
            refine wp_grow1 _ _ rfl rfl g p4 (by go_simp) (by go_simp) hg h4 ?_
            intro g2 c2 cur V2 e2 k1 k2 k3 k4 k5 k6 hb
            replace k6 := Nat.le_trans hB.size k6
            replace hg := persist hg hb
            replace h4 := persist h4 hb
            replace h6 := persist h6 hb
            replace hB := btr hB hb
            clear hb
            refine hK _ _ ⟨fun _ => ⟨one_atB (persist HQ0.out hB), one_atB (persist HQ1.out hB)⟩, ?_⟩
            clear hK K
            obtain ⟨V, rfl⟩ : ∃ X, X = V2 := ⟨_, rfl⟩
            (try simp only [Act.put, List.setIfInBounds_toArray, List.set_cons_zero, List.set_cons_succ])
            refine wpAnyF_br (rs := [7]) (by kernel_rfl) (by simp) ?_
            simp only [List.forall_mem_cons, List.not_mem_nil, false_imp_iff, implies_true, and_true]
            · refine wpOp_step (o := _) rfl (fun K hK => ?_)
              have c6 := one_atB h6
              have f6 := free_at h6 0
              have hne : g2 ≠ p6 := by rintro rfl; rw [e2] at h6; simp at h6
              have e6 := set_at h6 0 (.slice (some ⟨g2, 0, none⟩) 2 c2)
              have e2 : (V.setCell ⟨p6, 0, none⟩ (.slice (some ⟨g2, 0, none⟩) 2 c2)).heap[g2]? = some (.cells cur 3 (0, 0)) := (Below.heap_setCell _ _ _ _ hne).trans e2
              have hB : Below W1.heap.size W1 (V.setCell ⟨p6, 0, none⟩ (.slice (some ⟨g2, 0, none⟩) 2 c2)) := hB.setCell (p := ⟨p6, 0, none⟩) hp6 _
              go_simp
              refine hK _ _ ⟨fun _ => ⟨one_atB (persist HQ0.out hB), one_atB (persist HQ1.out hB)⟩, ?_⟩
              clear hK K
              (try simp only [Act.put, List.setIfInBounds_toArray, List.set_cons_zero, List.set_cons_succ])
              refine wpAnyF_end (by kernel_rfl) (onNormal_mk ?_)
              exact ⟨p4, p6, g, g2, c2, cur, rfl, e6, e2, k1, k2, k3, k4, k5, k6, hB⟩
    · refine wpOp_step (o := _) rfl (fun K hK => ?_)
      go_simp
      have hb : Below V.heap.size V (V.alloc (.cells #[.slice none 0 0] 23)) := bal (Below.refl _ _) _
      have h6 := new_at V (.cells #[.slice none 0 0] 23)
      have hp6 : W1.heap.size ≤ V.heap.size := hB.size
      replace hB := btr hB hb
      clear hb
      refine hK _ _ ⟨fun _ => ⟨one_atB (persist HQ0.out hB), one_atB (persist HQ1.out hB)⟩, ?_⟩
      clear hK K
      generalize V.alloc (.cells #[.slice none 0 0] 23) = V2 at *
      generalize V.heap.size = p6 at h6 hp6 ⊢
      obtain ⟨V, rfl⟩ : ∃ X, X = V2 := ⟨_, rfl⟩
      (try simp only [Act.put, List.setIfInBounds_toArray, List.set_cons_zero, List.set_cons_succ])
      refine wpAnyF_br (rs := [3, 4]) (by kernel_rfl) (by simp) ?_
      simp only [List.forall_mem_cons, List.not_mem_nil, false_imp_iff, implies_true, and_true]
      refine ⟨?_, ?_⟩
      · refine wpOp_step (o := _) rfl (fun K hK => ?_)
        go_simp
        refine (num0_go V (some ⟨bb, 0, none⟩) 0 0).mono ?_
        rintro e V2 ⟨g, rfl, hg0, hg, hb⟩
        clear hg0
        replace h6 := persist h6 hb
        replace hB := btr hB hb
        clear hb
        refine hK _ _ ⟨fun _ => ⟨one_atB (persist HQ0.out hB), one_atB (persist HQ1.out hB)⟩, ?_⟩
        clear hK K
        obtain ⟨V, rfl⟩ : ∃ X, X = V2 := ⟨_, rfl⟩
        (try simp only [Act.put, List.setIfInBounds_toArray, List.set_cons_zero, List.set_cons_succ])
        refine wpAnyF_br (rs := [4]) (by kernel_rfl) (by simp) ?_
        simp only [List.forall_mem_cons, List.not_mem_nil, false_imp_iff, implies_true, and_true]
        · refine wpOp_step (o := _) rfl (fun K hK => ?_)
          go_simp
          have hb : Below V.heap.size V (V.alloc (.cells #[.int .i64 0] 3)) := bal (Below.refl _ _) _
          have h4 := new_at V (.cells #[.int .i64 0] 3)
          replace hg := persist hg hb
          replace h6 := persist h6 hb
          replace hB := btr hB hb
          clear hb
          refine hK _ _ ⟨fun _ => ⟨one_atB (persist HQ0.out hB), one_atB (persist HQ1.out hB)⟩, ?_⟩
          clear hK K
          generalize V.alloc (.cells #[.int .i64 0] 3) = V2 at *
          generalize V.heap.size = p4 at h4 ⊢
          obtain ⟨V, rfl⟩ : ∃ X, X = V2 := ⟨_, rfl⟩
          (try simp only [Act.put, List.setIfInBounds_toArray, List.set_cons_zero, List.set_cons_succ])
          refine wpAnyF_br (rs := [5]) (by kernel_rfl) (by simp) ?_
          simp only [List.forall_mem_cons, List.not_mem_nil, false_imp_iff, implies_true, and_true]
          · refine wpOp_step (o := _) rfl (fun K hK => ?_)
            rw [if_pos (by rfl)]
            refine wp_grow1 _ _ rfl rfl g p4 (by go_simp) (by go_simp) hg h4 ?_
            intro g2 c2 cur V2 e2 k1 k2 k3 k4 k5 k6 hb
            replace k6 := Nat.le_trans hB.size k6
            replace hg := persist hg hb
            replace h4 := persist h4 hb
            replace h6 := persist h6 hb
            replace hB := btr hB hb
            clear hb
            refine hK _ _ ⟨fun _ => ⟨one_atB (persist HQ0.out hB), one_atB (persist HQ1.out hB)⟩, ?_⟩
            clear hK K
            obtain ⟨V, rfl⟩ : ∃ X, X = V2 := ⟨_, rfl⟩
            (try simp only [Act.put, List.setIfInBounds_toArray, List.set_cons_zero, List.set_cons_succ])
            refine wpAnyF_br (rs := [7]) (by kernel_rfl) (by simp) ?_
            simp only [List.forall_mem_cons, List.not_mem_nil, false_imp_iff, implies_true, and_true]
            · refine wpOp_step (o := _) rfl (fun K hK => ?_)
              have c6 := one_atB h6
              have f6 := free_at h6 0
              have hne : g2 ≠ p6 := by rintro rfl; rw [e2] at h6; simp at h6
              have e6 := set_at h6 0 (.slice (some ⟨g2, 0, none⟩) 2 c2)
              have e2 : (V.setCell ⟨p6, 0, none⟩ (.slice (some ⟨g2, 0, none⟩) 2 c2)).heap[g2]? = some (.cells cur 3 (0, 0)) := (Below.heap_setCell _ _ _ _ hne).trans e2
              have hB : Below W1.heap.size W1 (V.setCell ⟨p6, 0, none⟩ (.slice (some ⟨g2, 0, none⟩) 2 c2)) := hB.setCell (p := ⟨p6, 0, none⟩) hp6 _
              go_simp
              refine hK _ _ ⟨fun _ => ⟨one_atB (persist HQ0.out hB), one_atB (persist HQ1.out hB)⟩, ?_⟩
              clear hK K
              (try simp only [Act.put, List.setIfInBounds_toArray, List.set_cons_zero, List.set_cons_succ])
              refine wpAnyF_end (by kernel_rfl) (onNormal_mk ?_)
              exact ⟨p4, p6, g, g2, c2, cur, rfl, e6, e2, k1, k2, k3, k4, k5, k6, hB⟩
      · refine wpOp_step (o := _) rfl (fun K hK => ?_)
        go_simp
        have hb : Below V.heap.size V (V.alloc (.cells #[.int .i64 0] 3)) := bal (Below.refl _ _) _
        have h4 := new_at V (.cells #[.int .i64 0] 3)
        replace h6 := persist h6 hb
        replace hB := btr hB hb
        clear hb
        refine hK _ _ ⟨fun _ => ⟨one_atB (persist HQ0.out hB), one_atB (persist HQ1.out hB)⟩, ?_⟩
        clear hK K
        generalize V.alloc (.cells #[.int .i64 0] 3) = V2 at *
        generalize V.heap.size = p4 at h4 ⊢
        obtain ⟨V, rfl⟩ : ∃ X, X = V2 := ⟨_, rfl⟩
        (try simp only [Act.put, List.setIfInBounds_toArray, List.set_cons_zero, List.set_cons_succ])
        refine wpAnyF_br (rs := [3]) (by kernel_rfl) (by simp) ?_
        simp only [List.forall_mem_cons, List.not_mem_nil, false_imp_iff, implies_true, and_true]
        · refine wpOp_step (o := _) rfl (fun K hK => ?_)
          go_simp
          refine (num0_go V (some ⟨bb, 0, none⟩) 0 0).mono ?_
          rintro e V2 ⟨g, rfl, hg0, hg, hb⟩
          clear hg0
          replace h4 := persist h4 hb
          replace h6 := persist h6 hb
          replace hB := btr hB hb
          clear hb
          refine hK _ _ ⟨fun _ => ⟨one_atB (persist HQ0.out hB), one_atB (persist HQ1.out hB)⟩, ?_⟩
          clear hK K
          obtain ⟨V, rfl⟩ : ∃ X, X = V2 := ⟨_, rfl⟩
          (try simp only [Act.put, List.setIfInBounds_toArray, List.set_cons_zero, List.set_cons_succ])
          refine wpAnyF_br (rs := [5]) (by kernel_rfl) (by simp) ?_
          simp only [List.forall_mem_cons, List.not_mem_nil, false_imp_iff, implies_true, and_true]
          · refine wpOp_step (o := _) rfl (fun K hK => ?_)
            rw [if_pos (by rfl)]
            refine wp_grow1 _ _ rfl rfl g p4 (by go_simp) (by go_simp) hg h4 ?_
            intro g2 c2 cur V2 e2 k1 k2 k3 k4 k5 k6 hb
            replace k6 := Nat.le_trans hB.size k6
            replace hg := persist hg hb
            replace h4 := persist h4 hb
            replace h6 := persist h6 hb
            replace hB := btr hB hb
            clear hb
            refine hK _ _ ⟨fun _ => ⟨one_atB (persist HQ0.out hB), one_atB (persist HQ1.out hB)⟩, ?_⟩
            clear hK K
            obtain ⟨V, rfl⟩ : ∃ X, X = V2 := ⟨_, rfl⟩
            (try simp only [Act.put, List.setIfInBounds_toArray, List.set_cons_zero, List.set_cons_succ])
            refine wpAnyF_br (rs := [7]) (by kernel_rfl) (by simp) ?_
            simp only [List.forall_mem_cons, List.not_mem_nil, false_imp_iff, implies_true, and_true]
            · refine wpOp_step (o := _) rfl (fun K hK => ?_)
              have c6 := one_atB h6
              have f6 := free_at h6 0
              have hne : g2 ≠ p6 := by rintro rfl; rw [e2] at h6; simp at h6
              have e6 := set_at h6 0 (.slice (some ⟨g2, 0, none⟩) 2 c2)
              have e2 : (V.setCell ⟨p6, 0, none⟩ (.slice (some ⟨g2, 0, none⟩) 2 c2)).heap[g2]? = some (.cells cur 3 (0, 0)) := (Below.heap_setCell _ _ _ _ hne).trans e2
              have hB : Below W1.heap.size W1 (V.setCell ⟨p6, 0, none⟩ (.slice (some ⟨g2, 0, none⟩) 2 c2)) := hB.setCell (p := ⟨p6, 0, none⟩) hp6 _
              go_simp
              refine hK _ _ ⟨fun _ => ⟨one_atB (persist HQ0.out hB), one_atB (persist HQ1.out hB)⟩, ?_⟩
              clear hK K
              (try simp only [Act.put, List.setIfInBounds_toArray, List.set_cons_zero, List.set_cons_succ])
              refine wpAnyF_end (by kernel_rfl) (onNormal_mk ?_)
              exact ⟨p4, p6, g, g2, c2, cur, rfl, e6, e2, k1, k2, k3, k4, k5, k6, hB⟩
  case rest =>
    intro e a V he
    cases e with
    | normal =>
      obtain ⟨p4, p6, g, g2, c2, cur, rfl, e6, e2, k1, k2, k3, k4, k5, k6, hB⟩ := he
      have c0 := one_atB (persist HQ0.out hB)
      have c1 := one_atB (persist HQ1.out hB)
      have c3 := one_atB (persist HBB.out hB)
      have z3 := lt_of_block HBB.out
      have ka : bits .andNot .i64 1 0 = 1 := by decide
      have HE6 := Lib.hid e6
      have HE2 := Lib.hid e2
      have HK1 := Lib.hid k1
      have HK4 := Lib.hid k4
      have HK5 := Lib.hid k5
      have HB := Lib.hid hB
      have HCOL := Lib.hid (columns_go V.drew 1)
      clear e6 e2 k1 k4 k5 hB
      go_wp2
      go_still_tail 5, (by kernel_rfl)
      change wpList _ _ _ _ _ V.drew
      go_wp2_with fail
      refine HCOL.out.mono ?_
      rintro e V2 ⟨rfl, rfl⟩
      go_wp2
      have hlb := lt_of_block HBB.out
      have hl2 := lt_of_block HE2.out
      have hl6 := lt_of_block HE6.out
      have hs1 := HS1.out
      have hsV := HB.out.size
      have hbV := HB.out
      have hX0 : Out1 w bb p6 g2 c2 cur V 0 (V.drew.alloc (.cells #[.int .i64 1] 3)) := by
        have hd : Below V.heap.size V (V.drew.alloc (.cells #[.int .i64 1] 3)) := bal (drewB ⟨1, rfl⟩) _
        have hbw := btr HBW.out (btr hbV hd)
        have h1 := HT.out.1
        refine ⟨persist HE6.out hd, ?_, HT.out.mono (by have := hd.size; omega) ((btr hbV hd).block 1 h1), persist (persist HQ0.out hbV) hd, persist (persist HQ1.out hbV) hd, persist (persist HBB.out hbV) hd, hd.size, hbw⟩
        rw [persist HE2.out hd]
        congr 2
        apply Array.ext_getElem?
        intro i
        rw [Array.getElem?_setIfInBounds]
        split
        · rename_i h2; subst h2; rw [if_pos (by have := HK1.out; omega)]; exact HK5.out
        · rfl
      have HX0 := Lib.hid hX0
      have HV := Lib.hid (show g2 < V.heap.size ∧ p6 < V.heap.size ∧ w.heap.size + 1 < V.heap.size ∧ bb < V.heap.size ∧ g2 ≠ p6 ∧ g2 ≠ w.heap.size ∧ g2 ≠ w.heap.size + 1 ∧ g2 ≠ bb ∧ g2 ≠ 1 ∧ w.heap.size ≤ g2 from by
        have h1 := HT.out.1
        have h3 := HBW.out.size
        have hne : g2 ≠ p6 := by
          rintro rfl
          have h4 := HE6.out
          rw [HE2.out] at h4
          simp at h4
        omega)
      clear hX0 hlb hl2 hl6 hs1 hsV hbV c0 c1 c3 ka HCOL z3
      refine wpIn_wide.1 (range_cols (n := 5) V.heap.size 1 (by omega) rfl rfl (new_at V.drew _) (fun pre A => ∃ z : Nat, pre = List.replicate z 0 ∧ Out1 w bb p6 g2 c2 cur V z A) ⟨0, rfl, HX0.out⟩ ?hI (fun _ _ ⟨_, _, h⟩ => h.tab)
        (fun x => { tmps := #[.slice (some ⟨bb, 0, none⟩) 1 1, .int .i64 0, .pointer (some ⟨w.heap.size, 0, none⟩), .pointer (some ⟨w.heap.size + 1, 0, none⟩), .slice none 0 0, .pointer (some ⟨p6, 0, none⟩), .int .i64 (x : Int), undef, undef, .slice (some ⟨bb, 0, none⟩) 1 1, .int .i64 1, .bool false, undef, .slice (some ⟨bb, 0, none⟩) 1 1, .slice (some ⟨bb, 0, none⟩) 0 0, .int .i64 0, .slice (some ⟨g, 0, none⟩) 1 1, .slice (some ⟨p4, 0, none⟩) 1 1, .slice (some ⟨g2, 0, none⟩) 2 c2, .slice (some ⟨bb, 0, none⟩) 1 1, .pointer (some ⟨bb, 0, none⟩), .int .i64 1, .int .i64 0, .int .i64 1, .func (.func 33) #[] #[.pointer (some ⟨V.heap.size, 0, none⟩)], .int .i64 (x : Int), undef, undef, undef, undef, undef, undef, undef, undef, undef, undef, undef, undef, undef, undef, undef, undef, undef, undef, undef, undef, undef, undef, undef], defers := [] }) ?assign ?body ?done)
      case hI =>
        intro pre A A' ⟨z, e, h⟩ h1 h2
        refine ⟨z, e, h.near HV.out.1 HV.out.2.1 HV.out.2.2.1 HV.out.2.2.2.1 (by simpa using h2)⟩
      case assign =>
        intro l x A K hK
        gi_wp2
        exact hK
      case body =>
        intro l pre x A ⟨z, e, h⟩ hpre hx5 hsz
        have hb1 : bitsL 1 = [0] := by decide
        rw [hb1] at hpre
        obtain ⟨rfl, rfl⟩ : z = 0 ∧ x = 0 := by
          subst e
          have h1 := hpre.length_le
          simp at h1
          subst h1
          simpa using hpre
        have c0 := one_atB h.hb
        have c1 := one_atB h.hu
        have kw : IntKind.i64.wrap ((2 : Int) ^ 0) = 1 := by decide
        have ko : bits .or .i64 0 1 = 1 := by decide
        have HN := Lib.hid (num0_go A.drew (some ⟨bb, 0, none⟩) 0 1)
        have HH := Lib.hid h
        have HPRE := Lib.hid e
        clear h hpre e hb1
        gi_wp2_with fail
        refine wpIn_round_F (S := fun V => V.cell? ⟨w.heap.size, 0, none⟩ = some (.slice (some ⟨bb, 0, none⟩) 1 1) ∧ V.cell? ⟨w.heap.size + 1, 0, none⟩ = some (.int .i64 0)) 99 (by kernel_rfl) (by kernel_rfl) ⟨c0, c1⟩ (fun hHeld => ?_)
        refine wpAnyF_take (i := 0) (oi := _) (v := ?_) rfl (by kernel_rfl) (by kernel_rfl) (by kernel_rfl) (by kernel_rfl) (fun _ _ _ h => h) (Or.inl ⟨by rfl, ?_⟩) (by assumption) ?_
        rotate_left
        · intro w hSw
          (try dsimp only at hSw)
          go_simp
          all_goals with_reducible rfl
        (try simp only [Act.put, List.setIfInBounds_toArray, List.set_cons_zero, List.set_cons_succ])
        refine wpAnyF_take (i := 1) (oi := _) (v := ?_) rfl (by kernel_rfl) (by kernel_rfl) (by kernel_rfl) (by kernel_rfl) (fun _ _ _ h => h) (Or.inl ⟨by rfl, ?_⟩) (by assumption) ?_
        rotate_left
        · intro w hSw
          (try dsimp only at hSw)
          go_simp
          all_goals with_reducible rfl
        (try simp only [Act.put, List.setIfInBounds_toArray, List.set_cons_zero, List.set_cons_succ])
        refine wpAnyF_take (i := 2) (oi := _) (v := ?_) rfl (by kernel_rfl) (by kernel_rfl) (by kernel_rfl) (by kernel_rfl) (fun _ _ _ h => h) (Or.inl ⟨by rfl, ?_⟩) (by assumption) ?_
        rotate_left
        · intro w hSw
          (try dsimp only at hSw)
          go_simp
          all_goals with_reducible rfl
        (try simp only [Act.put, List.setIfInBounds_toArray, List.set_cons_zero, List.set_cons_succ])
        refine wpAnyF_take (i := 3) (oi := _) (v := ?_) rfl (by kernel_rfl) (by kernel_rfl) (by kernel_rfl) (by kernel_rfl) (fun _ _ _ h => h) (Or.inl ⟨by rfl, ?_⟩) (by assumption) ?_
        rotate_left
        · intro w hSw
          (try dsimp only at hSw)
          go_simp
          all_goals with_reducible rfl
        (try simp only [Act.put, List.setIfInBounds_toArray, List.set_cons_zero, List.set_cons_succ])
        refine wpAnyF_take (i := 4) (oi := _) (v := ?_) rfl (by kernel_rfl) (by kernel_rfl) (by kernel_rfl) (by kernel_rfl) (fun _ _ _ h => h) (Or.inl ⟨by rfl, ?_⟩) (by assumption) ?_
        rotate_left
        · intro w hSw
          (try dsimp only at hSw)
          go_simp
          all_goals with_reducible rfl
        (try simp only [Act.put, List.setIfInBounds_toArray, List.set_cons_zero, List.set_cons_succ])
        refine wpAnyF_take (i := 5) (oi := _) (v := ?_) rfl (by kernel_rfl) (by kernel_rfl) (by kernel_rfl) (by kernel_rfl) (fun _ _ _ h => h) (Or.inl ⟨by rfl, ?_⟩) (by assumption) ?_
        rotate_left
        · intro w hSw
          (try dsimp only at hSw)
          go_simp
          all_goals with_reducible rfl
        (try simp only [Act.put, List.setIfInBounds_toArray, List.set_cons_zero, List.set_cons_succ])
        refine wpAnyF_take (i := 8) (oi := _) (v := ?_) rfl (by kernel_rfl) (by kernel_rfl) (by kernel_rfl) (by kernel_rfl) (fun _ _ _ h => h) (Or.inl ⟨by rfl, ?_⟩) (by assumption) ?_
        rotate_left
        · intro w hSw
          (try dsimp only at hSw)
          go_simp
          all_goals with_reducible rfl
        (try simp only [Act.put, List.setIfInBounds_toArray, List.set_cons_zero, List.set_cons_succ])
        refine wpAnyF_one (i := 6) (o := _) (by kernel_rfl) rfl (fun K hK => ?_)
        go_simp
        refine HN.out.mono ?_
        rintro e A2 ⟨g3, rfl, hg0, hg, hb⟩
        have hd : Below A.heap.size A A2 := ⟨hb.os, hb.tape, hb.output, hb.size, hb.block⟩
        clear hb
        refine hK.out _ _ (⟨one_atB (persist HH.out.hb hd), one_atB (persist HH.out.hu hd)⟩) (fun hHeld => ?_)
        clear hK K
        (try simp only [Act.put, List.setIfInBounds_toArray, List.set_cons_zero, List.set_cons_succ])
        refine wpAnyF_take (i := 7) (oi := _) (v := ?_) rfl (by kernel_rfl) (by kernel_rfl) (by kernel_rfl) (by kernel_rfl) (fun _ _ _ h => h) (Or.inl ⟨by rfl, ?_⟩) (by assumption) ?_
        rotate_left
        · intro w hSw
          (try dsimp only at hSw)
          go_simp
          all_goals with_reducible rfl
        (try simp only [Act.put, List.setIfInBounds_toArray, List.set_cons_zero, List.set_cons_succ])
        refine wpAnyF_end (by kernel_rfl) ?_
        go_simp
        refine onNormal_mk ?_
        have HG := Lib.hid hg
        have HG0 := Lib.hid (show A.heap.size ≤ g3 from hg0)
        have HD := Lib.hid hd
        have HG2 := Lib.hid (show g2 ≠ g3 ∧ p6 ≠ g3 ∧ g2 < A2.heap.size from by
          have h1 := HV.out
          have h2 := HH.out.size
          have h3 := hd.size
          have h4 : A.heap.size ≤ g3 := hg0
          omega)
        have HK1' := HK1.out
        clear hg hg0 hd c0 c1 hHeld kw ko
        gi_wp2
        gi_loopw [34] (fun t wr => ∃ k : Nat, k ≤ 1 ∧ t = .int .i64 k ∧ Hid (wr.heap[g2]? = some (.cells (cur.setIfInBounds 1 (.int .i64 (k : Int))) 3 (0, 0))) ∧ Hid (wr.heap.size = A2.heap.size ∧ wr.os = A2.os ∧ wr.tape = A2.tape ∧ wr.output = A2.output ∧ ∀ x, x ≠ g2 → wr.heap[x]? = A2.heap[x]?)) (fun t _ => 1 - (intOf t).toNat)
        case atStart =>
          refine ⟨0, by omega, rfl, Lib.hid ?_, Lib.hid ⟨rfl, rfl, rfl, rfl, fun _ _ => rfl⟩⟩
          exact persist HH.out.h2 HD.out
        case round =>
          obtain ⟨k, hk, rfl, HR, HS⟩ := hrel
          have n3 := HG2.out
          by_cases hk1 : k < 1
          · obtain rfl : k = 0 := by omega
            have e2 := HR.out
            have e6 := (HS.out.2.2.2.2 p6 (Ne.symm HV.out.2.2.2.2.1)).trans (persist HH.out.h6 HD.out)
            have e3 := (HS.out.2.2.2.2 g3 (Ne.symm n3.1)).trans HG.out
            have c6 := one_atB e6
            have c3 := one_atB e3
            have c2' : wr.cell? ⟨g2, 1, none⟩ = some (.int .i64 0) := by
              rw [cells_at e2, Array.getElem?_setIfInBounds_self_of_lt (by omega)]
              rfl
            have f2 := free_at e2 1
            have z2 : g2 < wr.heap.size := lt_of_block e2
            have e4 := set_at e2 1 (.int .i64 ((1 : Nat) : Int))
            have hwr : (wr.setCell ⟨g2, 1, none⟩ (.int .i64 1)).heap.size = wr.heap.size := World.size_setCell _ _ _
            have HR2 := Lib.hid (show (wr.setCell ⟨g2, 1, none⟩ (.int .i64 1)).heap[g2]? = some (.cells (cur.setIfInBounds 1 (.int .i64 ((1 : Nat) : Int))) 3 (0, 0)) by
              refine e4.trans ?_
              congr 2
              simp)
            have HS2 := Lib.hid (show (wr.setCell ⟨g2, 1, none⟩ (.int .i64 1)).heap.size = A2.heap.size ∧ (wr.setCell ⟨g2, 1, none⟩ (.int .i64 1)).os = A2.os ∧ (wr.setCell ⟨g2, 1, none⟩ (.int .i64 1)).tape = A2.tape ∧ (wr.setCell ⟨g2, 1, none⟩ (.int .i64 1)).output = A2.output ∧ ∀ x, x ≠ g2 → (wr.setCell ⟨g2, 1, none⟩ (.int .i64 1)).heap[x]? = A2.heap[x]? from
              ⟨hwr.trans HS.out.1, HS.out.2.1, HS.out.2.2.1, HS.out.2.2.2.1, fun x hx => (Below.heap_setCell _ _ _ x hx).trans (HS.out.2.2.2.2 x hx)⟩)
            clear e2 e6 e3 e4 hwr n3 HR HS
            gi_wp2
            exact ⟨⟨1, by omega, rfl, HR2, HS2⟩, by simp [intOf]⟩
          · obtain rfl : k = 1 := by omega
            gi_wp2
            have hh := HH.out
            have hd := HD.out
            have hv := HV.out
            have hpre := HPRE.out
            have hsz2 : V.heap.size + 1 + 2 ≤ A.heap.size := by simpa using hsz
            obtain ⟨s1, s2, s3, s4, s5⟩ := HS.out
            have hs6 := hd.size
            have hs7 := hh.size
            have kb : ∀ x, x < A.heap.size → x ≠ g2 → wr.heap[x]? = A.heap[x]? := fun x h1 h2 => (s5 x h2).trans (hd.block x h1)
            have ht := hh.tab.1
            refine ⟨⟨1, by rw [hpre]; rfl, ⟨(kb _ (by omega) (by omega)).trans hh.h6, HR.out, hh.tab.mono (by omega) (kb 1 ht (by omega)), (kb _ (by omega) (by omega)).trans hh.hb, (kb _ (by omega) (by omega)).trans hh.hu, (kb _ (by omega) (by omega)).trans hh.hbb, by omega,
              ⟨s2.trans (hd.os.trans hh.below.os), s3.trans (hd.tape.trans hh.below.tape), s4.trans (hd.output.trans hh.below.output), by have := hh.below.size; omega, fun x hx => (kb x (by omega) (by omega)).trans (hh.below.block x hx)⟩⟩⟩, kb _ (by omega) (by omega), kb _ (by simp; omega) (by simp; omega), kb _ (by simp; omega) (by simp; omega), by omega⟩
      case done =>
        intro A ⟨z, e, h⟩ hK
        have hb1 : bitsL 1 = [0] := by decide
        rw [hb1] at e
        obtain rfl : z = 1 := by
          have := congrArg List.length e
          simpa using this.symm
        have hsS : (V.alloc (.cells #[.int .i64 1] 3)).drew.heap.size = V.heap.size + 1 := by simp
        rw [hsS] at hK
        have c6 := one_atB h.h6
        have hv := HV.out
        have hr : (A.putObj (V.heap.size + 1) (.deferred none)).heap[g2]? = _ := (World.putObj_heap_other (by omega)).trans h.h2
        have hp : ∀ x, x < w.heap.size → (A.putObj (V.heap.size + 1) (.deferred none)).heap[x]? = w.heap[x]? := fun x hx => (World.putObj_heap_other (by omega)).trans (h.below.block x hx)
        have HE := Lib.hid (show (∃ a c, Ending.returned (.slice (some ⟨g2, 0, none⟩) 2 c2) = .returned (.slice a 2 c) ∧ Sl (A.putObj (V.heap.size + 1) (.deferred none)) a 2 c [1, 1] ∧ Below w.heap.size w (A.putObj (V.heap.size + 1) (.deferred none))) from by
          have hk1 := HK1.out
          have hk4 := HK4.out
          refine ⟨_, _, rfl, ⟨rfl, k2, k3, .inr (.inr ⟨g2, 0, rfl, lt_of_block hr, fun i hi => ?_⟩)⟩, ⟨h.below.os, h.below.tape, h.below.output, by rw [World.putObj_size]; exact h.below.size, hp⟩⟩
          rw [cells_at hr]
          have : i = 0 ∨ i = 1 := by omega
          rcases this with rfl | rfl
          · rw [Array.getElem?_setIfInBounds_ne (by decide)]
            exact hk4
          · rw [Nat.zero_add, Array.getElem?_setIfInBounds_self_of_lt (by omega)]
            rfl)
        have HKK := Lib.hid hK
        clear hr hp h hK hv hb1 e
        have HSS := Lib.hid hsS
        clear hsS
        go_wp2
        rw [HSS.out]
        refine ⟨by simp, .inl ⟨_, _, rfl, run_takeDeferred HKK.out, ⟨.slice (some ⟨g2, 0, none⟩) 2 c2, ?_, HE.out⟩⟩⟩
        simp [results, Tryd.results31, go_sem]
    | _ => exact he.elim
set_option maxHeartbeats 1000000 in
theorem rooks1_go (w : World) (bb : Nat) (hbb : w.heap[bb]? = some (.cells #[.int .i64 1] 3 (0, 0))) (tab : Tab w) : Calls Tryd.prog 18 #[.slice (some ⟨bb, 0, none⟩) 1 1] w fun e w' => ∃ a c, e = .returned (.tuple #[.slice a 2 c, .int .i64 0]) ∧ Sl w' a 2 c [1, 1] ∧ Below w.heap.size w w' := by
  have hsl : Sl w (some ⟨bb, 0, none⟩) 1 1 (ints [1]) := ⟨rfl, Nat.le_refl _, by unfold maxLen; omega, .inr (.inr ⟨bb, 0, rfl, lt_of_block hbb, fun i hi => by
    obtain rfl : i = 0 := by omega
    exact one_atB hbb⟩)⟩
  have HV := Lib.hid (valid_go w _ 1 1 [1] hsl (by omega) (by omega) (fun i => by cases i <;> simp [gn]))
  have HBB := Lib.hid hbb
  have HT := Lib.hid tab
  clear hsl hbb tab
  go_enter Tryd.func18, Tryd.ntmps18
  go_wp2_with fail
  refine HV.out.mono ?_
  rintro e w2 ⟨rfl, hb2⟩
  have HN := Lib.hid (num1_go w2 bb (persist HBB.out hb2) (HT.out.mono hb2.size (hb2.block 1 HT.out.1)))
  have HB2 := Lib.hid hb2
  clear hb2
  go_wp2_with fail
  refine HN.out.mono ?_
  rintro e w3 ⟨a, c, rfl, hs, hb⟩
  have HS := Lib.hid hs
  have HB := Lib.hid (btr HB2.out hb)
  clear hs hb
  go_wp2
  go_ret2
  exact ⟨_, _, rfl, HS.out, HB.out⟩
end Go.Proofs.YtiapngmallfelaaDoor
