
/- mirror: the table's making: the walk. -/
import Derived.Test.YtiapngmallfelaaDoorEp
import Derived.Test.YtiapngmallfelaaDoorEr
namespace Go.Proofs.YtiapngmallfelaaDoor
open Go.RowKit
set_option linter.unusedSimpArgs false
theorem inS_step (k : Nat) (E : List (List Int)) (W : List (List Nat)) (s : Nat) : inS k E W (s + 1) = if posE (thenL (elE (inS k E W s).1 k) (mirL s)) (inS k E W s).1 < (inS k E W s).1.length then ((inS k E W s).1, (inS k E W s).2.1, (inS k E W s).2.2 ++ [posE (thenL (elE (inS k E W s).1 k) (mirL s)) (inS k E W s).1])
    else ((inS k E W s).1 ++ [thenL (elE (inS k E W s).1 k) (mirL s)], (inS k E W s).2.1 ++ [wdW (inS k E W s).2.1 k ++ [s]], (inS k E W s).2.2 ++ [posE (thenL (elE (inS k E W s).1 k) (mirL s)) (inS k E W s).1]) := rfl
theorem one2 {V : World} {tb n gm : Nat} {vw vn : Value} (h : V.heap[tb]? = some (.cells #[.int .u8 65, .int .i64 (n : Int), vw, vn, .map (some gm)] 58 (0, 0))) : V.cell? ⟨tb, 2, none⟩ = some vw := by rw [cells_at h]; rfl
theorem fold_list : ∀ (l : List Value) (i : Nat) (Z : Array Value), Z.size = i + l.length → ((l.zipIdx i).foldl (fun (cs : Array Value) (x : Value × Nat) => cs.setIfInBounds x.2 x.1) Z).toList = Z.toList.take i ++ l
  | [], i, Z, h => by
    simp only [List.length_nil, Nat.add_zero] at h
    rw [List.take_of_length_le (by simp [h])]
    simp
  | v :: l, i, Z, h => by
    have ih := fold_list l (i + 1) (Z.setIfInBounds i v) (by simp at h ⊢; omega)
    simp only [List.zipIdx_cons, List.foldl_cons]
    rw [ih]
    simp only [List.length_cons] at h
    have hi : i < Z.toList.length := by rw [Array.length_toList]; omega
    rw [Array.toList_setIfInBounds, List.take_succ_eq_append_getElem (by simpa using hi)]
    simp [List.take_set_of_le (Nat.le_refl i)]
theorem foldE (E : List Int) (h : E.length = 24) : Array.foldl (fun (cs : Array Value) (x : Value × Nat) => cs.setIfInBounds x.snd x.fst) #[Value.int .i8 0, .int .i8 0, .int .i8 0, .int .i8 0, .int .i8 0, .int .i8 0, .int .i8 0, .int .i8 0, .int .i8 0, .int .i8 0, .int .i8 0, .int .i8 0, .int .i8 0, .int .i8 0, .int .i8 0, .int .i8 0, .int .i8 0, .int .i8 0, .int .i8 0, .int .i8 0, .int .i8 0, .int .i8 0, .int .i8 0, .int .i8 0] (eC E).zipIdx 0 24 = eC E := by
  apply Array.ext'
  have h2 := fold_list (eC E).toList 0 #[Value.int .i8 0, .int .i8 0, .int .i8 0, .int .i8 0, .int .i8 0, .int .i8 0, .int .i8 0, .int .i8 0, .int .i8 0, .int .i8 0, .int .i8 0, .int .i8 0, .int .i8 0, .int .i8 0, .int .i8 0, .int .i8 0, .int .i8 0, .int .i8 0, .int .i8 0, .int .i8 0, .int .i8 0, .int .i8 0, .int .i8 0, .int .i8 0] (by rw [Array.length_toList, eC_size, h]; rfl)
  rw [show (24 : Nat) = (eC E).zipIdx.size by simp [eC_size, h], ← Array.foldl_toList]
  simpa using h2
set_option maxRecDepth 100000 in
set_option maxHeartbeats 40000000 in
theorem all_go (w : World) (n : Nat) (h1 : 1 ≤ n) (h4 : n ≤ 4) : Calls Tryd.prog 24 #[.agg #[.int .u8 65, .int .i64 (n : Int)]] w fun e w' => ∃ tb, e = .returned (.pointer (some ⟨tb, 0, none⟩)) ∧ TblAt w' tb n (tabW n) (tabN n) ∧ Below w.heap.size w w' := by
  obtain ⟨W1, hW1⟩ : ∃ W1, w.alloc (.cells #[.int .u8 65, .int .i64 (n : Int)] 28) = W1 := ⟨_, rfl⟩
  have hbW : Below w.heap.size w W1 := by rw [← hW1]; exact bal (Below.refl _ _) _
  have q0 : W1.heap[w.heap.size]? = some (.cells #[.int .u8 65, .int .i64 (n : Int)] 28 (0, 0)) := by rw [← hW1]; exact new_at w _
  have c0 : W1.cell? ⟨w.heap.size, 0, none⟩ = some (.int .u8 65) := by rw [cells_at q0]; rfl
  have c1 : W1.cell? ⟨w.heap.size, 1, none⟩ = some (.int .i64 (n : Int)) := by rw [cells_at q0]; rfl
  have z0 := lt_of_block q0
  have HS1 := Lib.hid (show W1.heap.size = w.heap.size + 1 by rw [← hW1]; simp)
  have HW1 := Lib.hid hW1
  have HBW := Lib.hid hbW
  have HQ0 := Lib.hid q0
  clear hW1 hbW q0
  go_enter Tryd.func24, Tryd.ntmps24
  go_wp2
  rw [HW1.out]
  clear HW1
  apply wp_to4 (Pr := fun tb gm p6 p7 V => V.heap[tb]? = some (.cells #[.int .u8 65, .int .i64 (n : Int), .slice (some ⟨p7, 0, none⟩) 1 1, .slice none 0 0, .map (some gm)] 58 (0, 0)) ∧ MapE V gm 1 [oneL] ∧ V.heap[p7]? = some (.cells #[.slice (some ⟨p6, 0, none⟩) 0 0] 23 (0, 0)) ∧ W1.heap.size ≤ tb ∧ W1.heap.size ≤ gm ∧ W1.heap.size ≤ p7 ∧ Below W1.heap.size W1 V)
  case h1 =>
    have hB : Below W1.heap.size W1 W1.drew := drewB ⟨1, rfl⟩
    refine wp_region_F (S := fun V => Below W1.heap.size W1 V) 99 (by kernel_rfl) hB (fun hHeld => ?_)
    refine wpAnyF_take (i := 0) (oi := _) (v := ?_) rfl (by kernel_rfl) (by kernel_rfl) (by kernel_rfl) (by kernel_rfl) (fun _ _ _ h => h) (Or.inl ⟨by rfl, ?_⟩) (by assumption) ?_
    rotate_left
    · intro V0 hSw
      (try dsimp only at hSw)
      have q1 := bcell hSw
      go_simp
      all_goals with_reducible rfl
    (try simp only [Act.put, List.getElem_toArray, List.getElem_cons_succ, List.getElem_cons_zero, List.setIfInBounds_toArray, List.set_cons_zero, List.set_cons_succ])
    refine wpAnyF_take (i := 2) (oi := _) (v := ?_) rfl (by kernel_rfl) (by kernel_rfl) (by kernel_rfl) (by kernel_rfl) (fun _ _ _ h => h) (Or.inl ⟨by rfl, ?_⟩) (by assumption) ?_
    rotate_left
    · intro V0 hSw
      (try dsimp only at hSw)
      have q1 := bcell hSw
      go_simp
      all_goals with_reducible rfl
    (try simp only [Act.put, List.getElem_toArray, List.getElem_cons_succ, List.getElem_cons_zero, List.setIfInBounds_toArray, List.set_cons_zero, List.set_cons_succ])
    clear hHeld
    generalize W1.drew = V at hB ⊢
    refine wpAnyF_br (rs := [1, 3, 6]) (by kernel_rfl) (by simp) ?_
    simp only [List.forall_mem_cons, List.not_mem_nil, false_imp_iff, implies_true, and_true]
    refine ⟨?_, ?_, ?_⟩
    · refine wpOp_step (o := _) rfl (fun K hK => ?_)
      go_simp
      have hb : Below V.heap.size V (V.alloc (.map #[] 0)) := bal (Below.refl _ _) _
      have hm := MapE.made V
      have h1b : W1.heap.size ≤ V.heap.size := hB.size
      replace hB := btr hB hb
      clear hb
      refine hK _ (V.alloc (.map #[] 0)) ⟨fun _ => hB, ?_⟩
      clear hK K
      generalize V.alloc (.map #[] 0) = V2 at *
      generalize V.heap.size = p1 at hm h1b ⊢
      obtain ⟨V, rfl⟩ : ∃ X, X = V2 := ⟨_, rfl⟩
      (try simp only [Act.put, List.getElem_toArray, List.getElem_cons_succ, List.getElem_cons_zero, List.setIfInBounds_toArray, List.set_cons_zero, List.set_cons_succ])
      refine wpAnyF_br (rs := [3, 6]) (by kernel_rfl) (by simp) ?_
      simp only [List.forall_mem_cons, List.not_mem_nil, false_imp_iff, implies_true, and_true]
      refine ⟨?_, ?_⟩
      · refine wpOp_step (o := _) rfl (fun K hK => ?_)
        go_simp
        refine (one_go V n).mono ?_
        rintro e V2 ⟨rfl, hb⟩
        replace hm := hm.keep (hb.block p1 (hm.lt.elim fun _ q => q.elim fun _ q => lt_of_block q))
        replace hB := btr hB hb
        clear hb
        refine hK _ (_) ⟨fun _ => hB, ?_⟩
        clear hK K
        obtain ⟨V, rfl⟩ : ∃ X, X = V2 := ⟨_, rfl⟩
        (try simp only [Act.put, List.getElem_toArray, List.getElem_cons_succ, List.getElem_cons_zero, List.setIfInBounds_toArray, List.set_cons_zero, List.set_cons_succ])
        refine wpAnyF_br (rs := [4, 6]) (by kernel_rfl) (by simp) ?_
        simp only [List.forall_mem_cons, List.not_mem_nil, false_imp_iff, implies_true, and_true]
        refine ⟨?_, ?_⟩
        · refine wpOp_step (o := _) rfl (fun K hK => ?_)
          obtain ⟨V2, hrun, hm2, hgr⟩ := hm.put (e := oneL) okOne (by simp [posE]) (by unfold maxLen; omega) (by simp)
          replace hrun : (Instr.mapUpdate 56 (.map (some p1)) (.agg (eC oneL)) (.int .i64 0)).run Tryd.prog V = .ok () V2 := hrun
          have hB2 : Below W1.heap.size W1 V2 := hB.grown hgr hB.size (fun j e => by injection e with e; subst e; exact h1b)
          clear hgr
          rw [if_pos (by rfl)]
          refine wp_insert _ _ _ rfl p1 oneL 0 (by go_simp) (by go_simp) (by go_simp) hrun ?_
          replace hm := hm2
          replace hB := hB2
          refine hK _ (_) ⟨fun _ => hB, ?_⟩
          clear hK K
          clear hm2 hB2 hrun
          obtain ⟨V, rfl⟩ : ∃ X, X = V2 := ⟨_, rfl⟩
          (try simp only [Act.put, List.getElem_toArray, List.getElem_cons_succ, List.getElem_cons_zero, List.setIfInBounds_toArray, List.set_cons_zero, List.set_cons_succ])
          refine wpAnyF_take (i := 5) (oi := _) (v := ?_) rfl (by kernel_rfl) (by kernel_rfl) (by kernel_rfl) (by kernel_rfl) (fun _ _ _ h => h) (Or.inl ⟨by rfl, ?_⟩) (by assumption) ?_
          rotate_left
          · intro V0 hSw
            (try dsimp only at hSw)
            go_simp
            all_goals with_reducible rfl
          (try simp only [Act.put, List.getElem_toArray, List.getElem_cons_succ, List.getElem_cons_zero, List.setIfInBounds_toArray, List.set_cons_zero, List.set_cons_succ])
          refine wpAnyF_br (rs := [6]) (by kernel_rfl) (by simp) ?_
          simp only [List.forall_mem_cons, List.not_mem_nil, false_imp_iff, implies_true, and_true]
          · refine wpOp_step (o := _) rfl (fun K hK => ?_)
            go_simp
            have hb : Below V.heap.size V (V.alloc (.cells #[] 3)) := bal (Below.refl _ _) _
            have h6 : True := trivial
            have h6b : W1.heap.size ≤ V.heap.size := hB.size
            replace hm := hm.keep (hb.block p1 (hm.lt.elim fun _ q => q.elim fun _ q => lt_of_block q))
            replace hB := btr hB hb
            clear hb
            refine hK _ (V.alloc (.cells #[] 3)) ⟨fun _ => hB, ?_⟩
            clear hK K
            generalize V.alloc (.cells #[] 3) = V2 at *
            generalize V.heap.size = p6 at h6 h6b ⊢
            obtain ⟨V, rfl⟩ : ∃ X, X = V2 := ⟨_, rfl⟩
            (try simp only [Act.put, List.getElem_toArray, List.getElem_cons_succ, List.getElem_cons_zero, List.setIfInBounds_toArray, List.set_cons_zero, List.set_cons_succ])
            refine wpAnyF_br (rs := [7]) (by kernel_rfl) (by simp) ?_
            simp only [List.forall_mem_cons, List.not_mem_nil, false_imp_iff, implies_true, and_true]
            · refine wpOp_step (o := _) rfl (fun K hK => ?_)
              go_simp
              have hb : Below V.heap.size V (V.alloc (.cells #[.slice (some ⟨p6, 0, none⟩) 0 0] 23)) := bal (Below.refl _ _) _
              have h7 := new_at V (.cells #[.slice (some ⟨p6, 0, none⟩) 0 0] 23)
              have h7b : W1.heap.size ≤ V.heap.size := hB.size
              replace hm := hm.keep (hb.block p1 (hm.lt.elim fun _ q => q.elim fun _ q => lt_of_block q))
              replace hB := btr hB hb
              clear hb
              refine hK _ (V.alloc (.cells #[.slice (some ⟨p6, 0, none⟩) 0 0] 23)) ⟨fun _ => hB, ?_⟩
              clear hK K
              generalize V.alloc (.cells #[.slice (some ⟨p6, 0, none⟩) 0 0] 23) = V2 at *
              generalize V.heap.size = p7 at h7 h7b ⊢
              obtain ⟨V, rfl⟩ : ∃ X, X = V2 := ⟨_, rfl⟩
              (try simp only [Act.put, List.getElem_toArray, List.getElem_cons_succ, List.getElem_cons_zero, List.setIfInBounds_toArray, List.set_cons_zero, List.set_cons_succ])
              refine wpAnyF_br (rs := [8]) (by kernel_rfl) (by simp) ?_
              simp only [List.forall_mem_cons, List.not_mem_nil, false_imp_iff, implies_true, and_true]
              · refine wpOp_step (o := _) rfl (fun K hK => ?_)
                go_simp
                refine hK _ (_) ⟨fun _ => hB, ?_⟩
                clear hK K
                (try simp only [Act.put, List.getElem_toArray, List.getElem_cons_succ, List.getElem_cons_zero, List.setIfInBounds_toArray, List.set_cons_zero, List.set_cons_succ])
                refine wpAnyF_br (rs := [9]) (by kernel_rfl) (by simp) ?_
                simp only [List.forall_mem_cons, List.not_mem_nil, false_imp_iff, implies_true, and_true]
                · refine wpOp_step (o := _) rfl (fun K hK => ?_)
                  go_simp
                  have hb : Below V.heap.size V (V.alloc (.cells #[.int .u8 65, .int .i64 (n : Int), .slice (some ⟨p7, 0, none⟩) 1 1, .slice none 0 0, .map (some p1)] 58)) := bal (Below.refl _ _) _
                  have h9 := new_at V (.cells #[.int .u8 65, .int .i64 (n : Int), .slice (some ⟨p7, 0, none⟩) 1 1, .slice none 0 0, .map (some p1)] 58)
                  have h9b : W1.heap.size ≤ V.heap.size := hB.size
                  replace hm := hm.keep (hb.block p1 (hm.lt.elim fun _ q => q.elim fun _ q => lt_of_block q))
                  replace h7 := persist h7 hb
                  replace hB := btr hB hb
                  clear hb
                  refine hK _ (V.alloc (.cells #[.int .u8 65, .int .i64 (n : Int), .slice (some ⟨p7, 0, none⟩) 1 1, .slice none 0 0, .map (some p1)] 58)) ⟨fun _ => hB, ?_⟩
                  clear hK K
                  generalize V.alloc (.cells #[.int .u8 65, .int .i64 (n : Int), .slice (some ⟨p7, 0, none⟩) 1 1, .slice none 0 0, .map (some p1)] 58) = V2 at *
                  generalize V.heap.size = p9 at h9 h9b ⊢
                  obtain ⟨V, rfl⟩ : ∃ X, X = V2 := ⟨_, rfl⟩
                  (try simp only [Act.put, List.getElem_toArray, List.getElem_cons_succ, List.getElem_cons_zero, List.setIfInBounds_toArray, List.set_cons_zero, List.set_cons_succ])
                  refine wpAnyF_br (rs := [10]) (by kernel_rfl) (by simp) ?_
                  simp only [List.forall_mem_cons, List.not_mem_nil, false_imp_iff, implies_true, and_true]
                  · refine wpOp_step (o := _) rfl (fun K hK => ?_)
                    go_simp
                    refine hK _ (_) ⟨fun _ => hB, ?_⟩
                    clear hK K
                    (try simp only [Act.put, List.getElem_toArray, List.getElem_cons_succ, List.getElem_cons_zero, List.setIfInBounds_toArray, List.set_cons_zero, List.set_cons_succ])
                    refine wpAnyF_end (by kernel_rfl) (onNormal_mk ?_)
                    exact ⟨p9, p1, p6, p7, rfl, h9, hm, h7, h9b, h1b, h7b, hB⟩
        · refine wpOp_step (o := _) rfl (fun K hK => ?_)
          go_simp
          have hb : Below V.heap.size V (V.alloc (.cells #[] 3)) := bal (Below.refl _ _) _
          have h6 : True := trivial
          have h6b : W1.heap.size ≤ V.heap.size := hB.size
          replace hm := hm.keep (hb.block p1 (hm.lt.elim fun _ q => q.elim fun _ q => lt_of_block q))
          replace hB := btr hB hb
          clear hb
          refine hK _ (V.alloc (.cells #[] 3)) ⟨fun _ => hB, ?_⟩
          clear hK K
          generalize V.alloc (.cells #[] 3) = V2 at *
          generalize V.heap.size = p6 at h6 h6b ⊢
          obtain ⟨V, rfl⟩ : ∃ X, X = V2 := ⟨_, rfl⟩
          (try simp only [Act.put, List.getElem_toArray, List.getElem_cons_succ, List.getElem_cons_zero, List.setIfInBounds_toArray, List.set_cons_zero, List.set_cons_succ])
          refine wpAnyF_br (rs := [4, 7]) (by kernel_rfl) (by simp) ?_
          simp only [List.forall_mem_cons, List.not_mem_nil, false_imp_iff, implies_true, and_true]
          refine ⟨?_, ?_⟩
          · refine wpOp_step (o := _) rfl (fun K hK => ?_)
            obtain ⟨V2, hrun, hm2, hgr⟩ := hm.put (e := oneL) okOne (by simp [posE]) (by unfold maxLen; omega) (by simp)
            replace hrun : (Instr.mapUpdate 56 (.map (some p1)) (.agg (eC oneL)) (.int .i64 0)).run Tryd.prog V = .ok () V2 := hrun
            have hB2 : Below W1.heap.size W1 V2 := hB.grown hgr hB.size (fun j e => by injection e with e; subst e; exact h1b)
            clear hgr
            rw [if_pos (by rfl)]
            refine wp_insert _ _ _ rfl p1 oneL 0 (by go_simp) (by go_simp) (by go_simp) hrun ?_
            replace hm := hm2
            replace hB := hB2
            refine hK _ (_) ⟨fun _ => hB, ?_⟩
            clear hK K
            clear hm2 hB2 hrun
            obtain ⟨V, rfl⟩ : ∃ X, X = V2 := ⟨_, rfl⟩
            (try simp only [Act.put, List.getElem_toArray, List.getElem_cons_succ, List.getElem_cons_zero, List.setIfInBounds_toArray, List.set_cons_zero, List.set_cons_succ])
            refine wpAnyF_take (i := 5) (oi := _) (v := ?_) rfl (by kernel_rfl) (by kernel_rfl) (by kernel_rfl) (by kernel_rfl) (fun _ _ _ h => h) (Or.inl ⟨by rfl, ?_⟩) (by assumption) ?_
            rotate_left
            · intro V0 hSw
              (try dsimp only at hSw)
              go_simp
              all_goals with_reducible rfl
            (try simp only [Act.put, List.getElem_toArray, List.getElem_cons_succ, List.getElem_cons_zero, List.setIfInBounds_toArray, List.set_cons_zero, List.set_cons_succ])
            refine wpAnyF_br (rs := [7]) (by kernel_rfl) (by simp) ?_
            simp only [List.forall_mem_cons, List.not_mem_nil, false_imp_iff, implies_true, and_true]
            · refine wpOp_step (o := _) rfl (fun K hK => ?_)
              go_simp
              have hb : Below V.heap.size V (V.alloc (.cells #[.slice (some ⟨p6, 0, none⟩) 0 0] 23)) := bal (Below.refl _ _) _
              have h7 := new_at V (.cells #[.slice (some ⟨p6, 0, none⟩) 0 0] 23)
              have h7b : W1.heap.size ≤ V.heap.size := hB.size
              replace hm := hm.keep (hb.block p1 (hm.lt.elim fun _ q => q.elim fun _ q => lt_of_block q))
              replace hB := btr hB hb
              clear hb
              refine hK _ (V.alloc (.cells #[.slice (some ⟨p6, 0, none⟩) 0 0] 23)) ⟨fun _ => hB, ?_⟩
              clear hK K
              generalize V.alloc (.cells #[.slice (some ⟨p6, 0, none⟩) 0 0] 23) = V2 at *
              generalize V.heap.size = p7 at h7 h7b ⊢
              obtain ⟨V, rfl⟩ : ∃ X, X = V2 := ⟨_, rfl⟩
              (try simp only [Act.put, List.getElem_toArray, List.getElem_cons_succ, List.getElem_cons_zero, List.setIfInBounds_toArray, List.set_cons_zero, List.set_cons_succ])
              refine wpAnyF_br (rs := [8]) (by kernel_rfl) (by simp) ?_
              simp only [List.forall_mem_cons, List.not_mem_nil, false_imp_iff, implies_true, and_true]
              · refine wpOp_step (o := _) rfl (fun K hK => ?_)
                go_simp
                refine hK _ (_) ⟨fun _ => hB, ?_⟩
                clear hK K
                (try simp only [Act.put, List.getElem_toArray, List.getElem_cons_succ, List.getElem_cons_zero, List.setIfInBounds_toArray, List.set_cons_zero, List.set_cons_succ])
                refine wpAnyF_br (rs := [9]) (by kernel_rfl) (by simp) ?_
                simp only [List.forall_mem_cons, List.not_mem_nil, false_imp_iff, implies_true, and_true]
                · refine wpOp_step (o := _) rfl (fun K hK => ?_)
                  go_simp
                  have hb : Below V.heap.size V (V.alloc (.cells #[.int .u8 65, .int .i64 (n : Int), .slice (some ⟨p7, 0, none⟩) 1 1, .slice none 0 0, .map (some p1)] 58)) := bal (Below.refl _ _) _
                  have h9 := new_at V (.cells #[.int .u8 65, .int .i64 (n : Int), .slice (some ⟨p7, 0, none⟩) 1 1, .slice none 0 0, .map (some p1)] 58)
                  have h9b : W1.heap.size ≤ V.heap.size := hB.size
                  replace hm := hm.keep (hb.block p1 (hm.lt.elim fun _ q => q.elim fun _ q => lt_of_block q))
                  replace h7 := persist h7 hb
                  replace hB := btr hB hb
                  clear hb
                  refine hK _ (V.alloc (.cells #[.int .u8 65, .int .i64 (n : Int), .slice (some ⟨p7, 0, none⟩) 1 1, .slice none 0 0, .map (some p1)] 58)) ⟨fun _ => hB, ?_⟩
                  clear hK K
                  generalize V.alloc (.cells #[.int .u8 65, .int .i64 (n : Int), .slice (some ⟨p7, 0, none⟩) 1 1, .slice none 0 0, .map (some p1)] 58) = V2 at *
                  generalize V.heap.size = p9 at h9 h9b ⊢
                  obtain ⟨V, rfl⟩ : ∃ X, X = V2 := ⟨_, rfl⟩
                  (try simp only [Act.put, List.getElem_toArray, List.getElem_cons_succ, List.getElem_cons_zero, List.setIfInBounds_toArray, List.set_cons_zero, List.set_cons_succ])
                  refine wpAnyF_br (rs := [10]) (by kernel_rfl) (by simp) ?_
                  simp only [List.forall_mem_cons, List.not_mem_nil, false_imp_iff, implies_true, and_true]
                  · refine wpOp_step (o := _) rfl (fun K hK => ?_)
                    go_simp
                    refine hK _ (_) ⟨fun _ => hB, ?_⟩
                    clear hK K
                    (try simp only [Act.put, List.getElem_toArray, List.getElem_cons_succ, List.getElem_cons_zero, List.setIfInBounds_toArray, List.set_cons_zero, List.set_cons_succ])
                    refine wpAnyF_end (by kernel_rfl) (onNormal_mk ?_)
                    exact ⟨p9, p1, p6, p7, rfl, h9, hm, h7, h9b, h1b, h7b, hB⟩
          · refine wpOp_step (o := _) rfl (fun K hK => ?_)
            go_simp
            have hb : Below V.heap.size V (V.alloc (.cells #[.slice (some ⟨p6, 0, none⟩) 0 0] 23)) := bal (Below.refl _ _) _
            have h7 := new_at V (.cells #[.slice (some ⟨p6, 0, none⟩) 0 0] 23)
            have h7b : W1.heap.size ≤ V.heap.size := hB.size
            replace hm := hm.keep (hb.block p1 (hm.lt.elim fun _ q => q.elim fun _ q => lt_of_block q))
            replace hB := btr hB hb
            clear hb
            refine hK _ (V.alloc (.cells #[.slice (some ⟨p6, 0, none⟩) 0 0] 23)) ⟨fun _ => hB, ?_⟩
            clear hK K
            generalize V.alloc (.cells #[.slice (some ⟨p6, 0, none⟩) 0 0] 23) = V2 at *
            generalize V.heap.size = p7 at h7 h7b ⊢
            obtain ⟨V, rfl⟩ : ∃ X, X = V2 := ⟨_, rfl⟩
            (try simp only [Act.put, List.getElem_toArray, List.getElem_cons_succ, List.getElem_cons_zero, List.setIfInBounds_toArray, List.set_cons_zero, List.set_cons_succ])
            refine wpAnyF_br (rs := [4]) (by kernel_rfl) (by simp) ?_
            simp only [List.forall_mem_cons, List.not_mem_nil, false_imp_iff, implies_true, and_true]
            · refine wpOp_step (o := _) rfl (fun K hK => ?_)
              obtain ⟨V2, hrun, hm2, hgr⟩ := hm.put (e := oneL) okOne (by simp [posE]) (by unfold maxLen; omega) (by simp)
              replace hrun : (Instr.mapUpdate 56 (.map (some p1)) (.agg (eC oneL)) (.int .i64 0)).run Tryd.prog V = .ok () V2 := hrun
              have hB2 : Below W1.heap.size W1 V2 := hB.grown hgr hB.size (fun j e => by injection e with e; subst e; exact h1b)
              have h7 : V2.heap[p7]? = _ := (hgr.block p7 (lt_of_block h7) (fun e => by injection e with e; subst e; obtain ⟨es, clock, q⟩ := hm.lt; rw [q] at h7; cases h7)).trans h7
              clear hgr
              rw [if_pos (by rfl)]
              refine wp_insert _ _ _ rfl p1 oneL 0 (by go_simp) (by go_simp) (by go_simp) hrun ?_
              replace hm := hm2
              replace hB := hB2
              refine hK _ (_) ⟨fun _ => hB, ?_⟩
              clear hK K
              clear hm2 hB2 hrun
              obtain ⟨V, rfl⟩ : ∃ X, X = V2 := ⟨_, rfl⟩
              (try simp only [Act.put, List.getElem_toArray, List.getElem_cons_succ, List.getElem_cons_zero, List.setIfInBounds_toArray, List.set_cons_zero, List.set_cons_succ])
              refine wpAnyF_take (i := 5) (oi := _) (v := ?_) rfl (by kernel_rfl) (by kernel_rfl) (by kernel_rfl) (by kernel_rfl) (fun _ _ _ h => h) (Or.inl ⟨by rfl, ?_⟩) (by assumption) ?_
              rotate_left
              · intro V0 hSw
                (try dsimp only at hSw)
                go_simp
                all_goals with_reducible rfl
              (try simp only [Act.put, List.getElem_toArray, List.getElem_cons_succ, List.getElem_cons_zero, List.setIfInBounds_toArray, List.set_cons_zero, List.set_cons_succ])
              refine wpAnyF_br (rs := [8]) (by kernel_rfl) (by simp) ?_
              simp only [List.forall_mem_cons, List.not_mem_nil, false_imp_iff, implies_true, and_true]
              · refine wpOp_step (o := _) rfl (fun K hK => ?_)
                go_simp
                refine hK _ (_) ⟨fun _ => hB, ?_⟩
                clear hK K
                (try simp only [Act.put, List.getElem_toArray, List.getElem_cons_succ, List.getElem_cons_zero, List.setIfInBounds_toArray, List.set_cons_zero, List.set_cons_succ])
                refine wpAnyF_br (rs := [9]) (by kernel_rfl) (by simp) ?_
                simp only [List.forall_mem_cons, List.not_mem_nil, false_imp_iff, implies_true, and_true]
                · refine wpOp_step (o := _) rfl (fun K hK => ?_)
                  go_simp
                  have hb : Below V.heap.size V (V.alloc (.cells #[.int .u8 65, .int .i64 (n : Int), .slice (some ⟨p7, 0, none⟩) 1 1, .slice none 0 0, .map (some p1)] 58)) := bal (Below.refl _ _) _
                  have h9 := new_at V (.cells #[.int .u8 65, .int .i64 (n : Int), .slice (some ⟨p7, 0, none⟩) 1 1, .slice none 0 0, .map (some p1)] 58)
                  have h9b : W1.heap.size ≤ V.heap.size := hB.size
                  replace hm := hm.keep (hb.block p1 (hm.lt.elim fun _ q => q.elim fun _ q => lt_of_block q))
                  replace h7 := persist h7 hb
                  replace hB := btr hB hb
                  clear hb
                  refine hK _ (V.alloc (.cells #[.int .u8 65, .int .i64 (n : Int), .slice (some ⟨p7, 0, none⟩) 1 1, .slice none 0 0, .map (some p1)] 58)) ⟨fun _ => hB, ?_⟩
                  clear hK K
                  generalize V.alloc (.cells #[.int .u8 65, .int .i64 (n : Int), .slice (some ⟨p7, 0, none⟩) 1 1, .slice none 0 0, .map (some p1)] 58) = V2 at *
                  generalize V.heap.size = p9 at h9 h9b ⊢
                  obtain ⟨V, rfl⟩ : ∃ X, X = V2 := ⟨_, rfl⟩
                  (try simp only [Act.put, List.getElem_toArray, List.getElem_cons_succ, List.getElem_cons_zero, List.setIfInBounds_toArray, List.set_cons_zero, List.set_cons_succ])
                  refine wpAnyF_br (rs := [10]) (by kernel_rfl) (by simp) ?_
                  simp only [List.forall_mem_cons, List.not_mem_nil, false_imp_iff, implies_true, and_true]
                  · refine wpOp_step (o := _) rfl (fun K hK => ?_)
                    go_simp
                    refine hK _ (_) ⟨fun _ => hB, ?_⟩
                    clear hK K
                    (try simp only [Act.put, List.getElem_toArray, List.getElem_cons_succ, List.getElem_cons_zero, List.setIfInBounds_toArray, List.set_cons_zero, List.set_cons_succ])
                    refine wpAnyF_end (by kernel_rfl) (onNormal_mk ?_)
                    exact ⟨p9, p1, p6, p7, rfl, h9, hm, h7, h9b, h1b, h7b, hB⟩
      · refine wpOp_step (o := _) rfl (fun K hK => ?_)
        go_simp
        have hb : Below V.heap.size V (V.alloc (.cells #[] 3)) := bal (Below.refl _ _) _
        have h6 : True := trivial
        have h6b : W1.heap.size ≤ V.heap.size := hB.size
        replace hm := hm.keep (hb.block p1 (hm.lt.elim fun _ q => q.elim fun _ q => lt_of_block q))
        replace hB := btr hB hb
        clear hb
        refine hK _ (V.alloc (.cells #[] 3)) ⟨fun _ => hB, ?_⟩
        clear hK K
        generalize V.alloc (.cells #[] 3) = V2 at *
        generalize V.heap.size = p6 at h6 h6b ⊢
        obtain ⟨V, rfl⟩ : ∃ X, X = V2 := ⟨_, rfl⟩
        (try simp only [Act.put, List.getElem_toArray, List.getElem_cons_succ, List.getElem_cons_zero, List.setIfInBounds_toArray, List.set_cons_zero, List.set_cons_succ])
        refine wpAnyF_br (rs := [3, 7]) (by kernel_rfl) (by simp) ?_
        simp only [List.forall_mem_cons, List.not_mem_nil, false_imp_iff, implies_true, and_true]
        refine ⟨?_, ?_⟩
        · refine wpOp_step (o := _) rfl (fun K hK => ?_)
          go_simp
          refine (one_go V n).mono ?_
          rintro e V2 ⟨rfl, hb⟩
          replace hm := hm.keep (hb.block p1 (hm.lt.elim fun _ q => q.elim fun _ q => lt_of_block q))
          replace hB := btr hB hb
          clear hb
          refine hK _ (_) ⟨fun _ => hB, ?_⟩
          clear hK K
          obtain ⟨V, rfl⟩ : ∃ X, X = V2 := ⟨_, rfl⟩
          (try simp only [Act.put, List.getElem_toArray, List.getElem_cons_succ, List.getElem_cons_zero, List.setIfInBounds_toArray, List.set_cons_zero, List.set_cons_succ])
          refine wpAnyF_br (rs := [4, 7]) (by kernel_rfl) (by simp) ?_
          simp only [List.forall_mem_cons, List.not_mem_nil, false_imp_iff, implies_true, and_true]
          refine ⟨?_, ?_⟩
          · refine wpOp_step (o := _) rfl (fun K hK => ?_)
            obtain ⟨V2, hrun, hm2, hgr⟩ := hm.put (e := oneL) okOne (by simp [posE]) (by unfold maxLen; omega) (by simp)
            replace hrun : (Instr.mapUpdate 56 (.map (some p1)) (.agg (eC oneL)) (.int .i64 0)).run Tryd.prog V = .ok () V2 := hrun
            have hB2 : Below W1.heap.size W1 V2 := hB.grown hgr hB.size (fun j e => by injection e with e; subst e; exact h1b)
            clear hgr
            rw [if_pos (by rfl)]
            refine wp_insert _ _ _ rfl p1 oneL 0 (by go_simp) (by go_simp) (by go_simp) hrun ?_
            replace hm := hm2
            replace hB := hB2
            refine hK _ (_) ⟨fun _ => hB, ?_⟩
            clear hK K
            clear hm2 hB2 hrun
            obtain ⟨V, rfl⟩ : ∃ X, X = V2 := ⟨_, rfl⟩
            (try simp only [Act.put, List.getElem_toArray, List.getElem_cons_succ, List.getElem_cons_zero, List.setIfInBounds_toArray, List.set_cons_zero, List.set_cons_succ])
            refine wpAnyF_take (i := 5) (oi := _) (v := ?_) rfl (by kernel_rfl) (by kernel_rfl) (by kernel_rfl) (by kernel_rfl) (fun _ _ _ h => h) (Or.inl ⟨by rfl, ?_⟩) (by assumption) ?_
            rotate_left
            · intro V0 hSw
              (try dsimp only at hSw)
              go_simp
              all_goals with_reducible rfl
            (try simp only [Act.put, List.getElem_toArray, List.getElem_cons_succ, List.getElem_cons_zero, List.setIfInBounds_toArray, List.set_cons_zero, List.set_cons_succ])
            refine wpAnyF_br (rs := [7]) (by kernel_rfl) (by simp) ?_
            simp only [List.forall_mem_cons, List.not_mem_nil, false_imp_iff, implies_true, and_true]
            · refine wpOp_step (o := _) rfl (fun K hK => ?_)
              go_simp
              have hb : Below V.heap.size V (V.alloc (.cells #[.slice (some ⟨p6, 0, none⟩) 0 0] 23)) := bal (Below.refl _ _) _
              have h7 := new_at V (.cells #[.slice (some ⟨p6, 0, none⟩) 0 0] 23)
              have h7b : W1.heap.size ≤ V.heap.size := hB.size
              replace hm := hm.keep (hb.block p1 (hm.lt.elim fun _ q => q.elim fun _ q => lt_of_block q))
              replace hB := btr hB hb
              clear hb
              refine hK _ (V.alloc (.cells #[.slice (some ⟨p6, 0, none⟩) 0 0] 23)) ⟨fun _ => hB, ?_⟩
              clear hK K
              generalize V.alloc (.cells #[.slice (some ⟨p6, 0, none⟩) 0 0] 23) = V2 at *
              generalize V.heap.size = p7 at h7 h7b ⊢
              obtain ⟨V, rfl⟩ : ∃ X, X = V2 := ⟨_, rfl⟩
              (try simp only [Act.put, List.getElem_toArray, List.getElem_cons_succ, List.getElem_cons_zero, List.setIfInBounds_toArray, List.set_cons_zero, List.set_cons_succ])
              refine wpAnyF_br (rs := [8]) (by kernel_rfl) (by simp) ?_
              simp only [List.forall_mem_cons, List.not_mem_nil, false_imp_iff, implies_true, and_true]
              · refine wpOp_step (o := _) rfl (fun K hK => ?_)
                go_simp
                refine hK _ (_) ⟨fun _ => hB, ?_⟩
                clear hK K
                (try simp only [Act.put, List.getElem_toArray, List.getElem_cons_succ, List.getElem_cons_zero, List.setIfInBounds_toArray, List.set_cons_zero, List.set_cons_succ])
                refine wpAnyF_br (rs := [9]) (by kernel_rfl) (by simp) ?_
                simp only [List.forall_mem_cons, List.not_mem_nil, false_imp_iff, implies_true, and_true]
                · refine wpOp_step (o := _) rfl (fun K hK => ?_)
                  go_simp
                  have hb : Below V.heap.size V (V.alloc (.cells #[.int .u8 65, .int .i64 (n : Int), .slice (some ⟨p7, 0, none⟩) 1 1, .slice none 0 0, .map (some p1)] 58)) := bal (Below.refl _ _) _
                  have h9 := new_at V (.cells #[.int .u8 65, .int .i64 (n : Int), .slice (some ⟨p7, 0, none⟩) 1 1, .slice none 0 0, .map (some p1)] 58)
                  have h9b : W1.heap.size ≤ V.heap.size := hB.size
                  replace hm := hm.keep (hb.block p1 (hm.lt.elim fun _ q => q.elim fun _ q => lt_of_block q))
                  replace h7 := persist h7 hb
                  replace hB := btr hB hb
                  clear hb
                  refine hK _ (V.alloc (.cells #[.int .u8 65, .int .i64 (n : Int), .slice (some ⟨p7, 0, none⟩) 1 1, .slice none 0 0, .map (some p1)] 58)) ⟨fun _ => hB, ?_⟩
                  clear hK K
                  generalize V.alloc (.cells #[.int .u8 65, .int .i64 (n : Int), .slice (some ⟨p7, 0, none⟩) 1 1, .slice none 0 0, .map (some p1)] 58) = V2 at *
                  generalize V.heap.size = p9 at h9 h9b ⊢
                  obtain ⟨V, rfl⟩ : ∃ X, X = V2 := ⟨_, rfl⟩
                  (try simp only [Act.put, List.getElem_toArray, List.getElem_cons_succ, List.getElem_cons_zero, List.setIfInBounds_toArray, List.set_cons_zero, List.set_cons_succ])
                  refine wpAnyF_br (rs := [10]) (by kernel_rfl) (by simp) ?_
                  simp only [List.forall_mem_cons, List.not_mem_nil, false_imp_iff, implies_true, and_true]
                  · refine wpOp_step (o := _) rfl (fun K hK => ?_)
                    go_simp
                    refine hK _ (_) ⟨fun _ => hB, ?_⟩
                    clear hK K
                    (try simp only [Act.put, List.getElem_toArray, List.getElem_cons_succ, List.getElem_cons_zero, List.setIfInBounds_toArray, List.set_cons_zero, List.set_cons_succ])
                    refine wpAnyF_end (by kernel_rfl) (onNormal_mk ?_)
                    exact ⟨p9, p1, p6, p7, rfl, h9, hm, h7, h9b, h1b, h7b, hB⟩
          · refine wpOp_step (o := _) rfl (fun K hK => ?_)
            go_simp
            have hb : Below V.heap.size V (V.alloc (.cells #[.slice (some ⟨p6, 0, none⟩) 0 0] 23)) := bal (Below.refl _ _) _
            have h7 := new_at V (.cells #[.slice (some ⟨p6, 0, none⟩) 0 0] 23)
            have h7b : W1.heap.size ≤ V.heap.size := hB.size
            replace hm := hm.keep (hb.block p1 (hm.lt.elim fun _ q => q.elim fun _ q => lt_of_block q))
            replace hB := btr hB hb
            clear hb
            refine hK _ (V.alloc (.cells #[.slice (some ⟨p6, 0, none⟩) 0 0] 23)) ⟨fun _ => hB, ?_⟩
            clear hK K
            generalize V.alloc (.cells #[.slice (some ⟨p6, 0, none⟩) 0 0] 23) = V2 at *
            generalize V.heap.size = p7 at h7 h7b ⊢
            obtain ⟨V, rfl⟩ : ∃ X, X = V2 := ⟨_, rfl⟩
            (try simp only [Act.put, List.getElem_toArray, List.getElem_cons_succ, List.getElem_cons_zero, List.setIfInBounds_toArray, List.set_cons_zero, List.set_cons_succ])
            refine wpAnyF_br (rs := [4]) (by kernel_rfl) (by simp) ?_
            simp only [List.forall_mem_cons, List.not_mem_nil, false_imp_iff, implies_true, and_true]
            · refine wpOp_step (o := _) rfl (fun K hK => ?_)
              obtain ⟨V2, hrun, hm2, hgr⟩ := hm.put (e := oneL) okOne (by simp [posE]) (by unfold maxLen; omega) (by simp)
              replace hrun : (Instr.mapUpdate 56 (.map (some p1)) (.agg (eC oneL)) (.int .i64 0)).run Tryd.prog V = .ok () V2 := hrun
              have hB2 : Below W1.heap.size W1 V2 := hB.grown hgr hB.size (fun j e => by injection e with e; subst e; exact h1b)
              have h7 : V2.heap[p7]? = _ := (hgr.block p7 (lt_of_block h7) (fun e => by injection e with e; subst e; obtain ⟨es, clock, q⟩ := hm.lt; rw [q] at h7; cases h7)).trans h7
              clear hgr
              rw [if_pos (by rfl)]
              refine wp_insert _ _ _ rfl p1 oneL 0 (by go_simp) (by go_simp) (by go_simp) hrun ?_
              replace hm := hm2
              replace hB := hB2
              refine hK _ (_) ⟨fun _ => hB, ?_⟩
              clear hK K
              clear hm2 hB2 hrun
              obtain ⟨V, rfl⟩ : ∃ X, X = V2 := ⟨_, rfl⟩
              (try simp only [Act.put, List.getElem_toArray, List.getElem_cons_succ, List.getElem_cons_zero, List.setIfInBounds_toArray, List.set_cons_zero, List.set_cons_succ])
              refine wpAnyF_take (i := 5) (oi := _) (v := ?_) rfl (by kernel_rfl) (by kernel_rfl) (by kernel_rfl) (by kernel_rfl) (fun _ _ _ h => h) (Or.inl ⟨by rfl, ?_⟩) (by assumption) ?_
              rotate_left
              · intro V0 hSw
                (try dsimp only at hSw)
                go_simp
                all_goals with_reducible rfl
              (try simp only [Act.put, List.getElem_toArray, List.getElem_cons_succ, List.getElem_cons_zero, List.setIfInBounds_toArray, List.set_cons_zero, List.set_cons_succ])
              refine wpAnyF_br (rs := [8]) (by kernel_rfl) (by simp) ?_
              simp only [List.forall_mem_cons, List.not_mem_nil, false_imp_iff, implies_true, and_true]
              · refine wpOp_step (o := _) rfl (fun K hK => ?_)
                go_simp
                refine hK _ (_) ⟨fun _ => hB, ?_⟩
                clear hK K
                (try simp only [Act.put, List.getElem_toArray, List.getElem_cons_succ, List.getElem_cons_zero, List.setIfInBounds_toArray, List.set_cons_zero, List.set_cons_succ])
                refine wpAnyF_br (rs := [9]) (by kernel_rfl) (by simp) ?_
                simp only [List.forall_mem_cons, List.not_mem_nil, false_imp_iff, implies_true, and_true]
                · refine wpOp_step (o := _) rfl (fun K hK => ?_)
                  go_simp
                  have hb : Below V.heap.size V (V.alloc (.cells #[.int .u8 65, .int .i64 (n : Int), .slice (some ⟨p7, 0, none⟩) 1 1, .slice none 0 0, .map (some p1)] 58)) := bal (Below.refl _ _) _
                  have h9 := new_at V (.cells #[.int .u8 65, .int .i64 (n : Int), .slice (some ⟨p7, 0, none⟩) 1 1, .slice none 0 0, .map (some p1)] 58)
                  have h9b : W1.heap.size ≤ V.heap.size := hB.size
                  replace hm := hm.keep (hb.block p1 (hm.lt.elim fun _ q => q.elim fun _ q => lt_of_block q))
                  replace h7 := persist h7 hb
                  replace hB := btr hB hb
                  clear hb
                  refine hK _ (V.alloc (.cells #[.int .u8 65, .int .i64 (n : Int), .slice (some ⟨p7, 0, none⟩) 1 1, .slice none 0 0, .map (some p1)] 58)) ⟨fun _ => hB, ?_⟩
                  clear hK K
                  generalize V.alloc (.cells #[.int .u8 65, .int .i64 (n : Int), .slice (some ⟨p7, 0, none⟩) 1 1, .slice none 0 0, .map (some p1)] 58) = V2 at *
                  generalize V.heap.size = p9 at h9 h9b ⊢
                  obtain ⟨V, rfl⟩ : ∃ X, X = V2 := ⟨_, rfl⟩
                  (try simp only [Act.put, List.getElem_toArray, List.getElem_cons_succ, List.getElem_cons_zero, List.setIfInBounds_toArray, List.set_cons_zero, List.set_cons_succ])
                  refine wpAnyF_br (rs := [10]) (by kernel_rfl) (by simp) ?_
                  simp only [List.forall_mem_cons, List.not_mem_nil, false_imp_iff, implies_true, and_true]
                  · refine wpOp_step (o := _) rfl (fun K hK => ?_)
                    go_simp
                    refine hK _ (_) ⟨fun _ => hB, ?_⟩
                    clear hK K
                    (try simp only [Act.put, List.getElem_toArray, List.getElem_cons_succ, List.getElem_cons_zero, List.setIfInBounds_toArray, List.set_cons_zero, List.set_cons_succ])
                    refine wpAnyF_end (by kernel_rfl) (onNormal_mk ?_)
                    exact ⟨p9, p1, p6, p7, rfl, h9, hm, h7, h9b, h1b, h7b, hB⟩
        · refine wpOp_step (o := _) rfl (fun K hK => ?_)
          go_simp
          have hb : Below V.heap.size V (V.alloc (.cells #[.slice (some ⟨p6, 0, none⟩) 0 0] 23)) := bal (Below.refl _ _) _
          have h7 := new_at V (.cells #[.slice (some ⟨p6, 0, none⟩) 0 0] 23)
          have h7b : W1.heap.size ≤ V.heap.size := hB.size
          replace hm := hm.keep (hb.block p1 (hm.lt.elim fun _ q => q.elim fun _ q => lt_of_block q))
          replace hB := btr hB hb
          clear hb
          refine hK _ (V.alloc (.cells #[.slice (some ⟨p6, 0, none⟩) 0 0] 23)) ⟨fun _ => hB, ?_⟩
          clear hK K
          generalize V.alloc (.cells #[.slice (some ⟨p6, 0, none⟩) 0 0] 23) = V2 at *
          generalize V.heap.size = p7 at h7 h7b ⊢
          obtain ⟨V, rfl⟩ : ∃ X, X = V2 := ⟨_, rfl⟩
          (try simp only [Act.put, List.getElem_toArray, List.getElem_cons_succ, List.getElem_cons_zero, List.setIfInBounds_toArray, List.set_cons_zero, List.set_cons_succ])
          refine wpAnyF_br (rs := [3]) (by kernel_rfl) (by simp) ?_
          simp only [List.forall_mem_cons, List.not_mem_nil, false_imp_iff, implies_true, and_true]
          · refine wpOp_step (o := _) rfl (fun K hK => ?_)
            go_simp
            refine (one_go V n).mono ?_
            rintro e V2 ⟨rfl, hb⟩
            replace hm := hm.keep (hb.block p1 (hm.lt.elim fun _ q => q.elim fun _ q => lt_of_block q))
            replace h7 := persist h7 hb
            replace hB := btr hB hb
            clear hb
            refine hK _ (_) ⟨fun _ => hB, ?_⟩
            clear hK K
            obtain ⟨V, rfl⟩ : ∃ X, X = V2 := ⟨_, rfl⟩
            (try simp only [Act.put, List.getElem_toArray, List.getElem_cons_succ, List.getElem_cons_zero, List.setIfInBounds_toArray, List.set_cons_zero, List.set_cons_succ])
            refine wpAnyF_br (rs := [4]) (by kernel_rfl) (by simp) ?_
            simp only [List.forall_mem_cons, List.not_mem_nil, false_imp_iff, implies_true, and_true]
            · refine wpOp_step (o := _) rfl (fun K hK => ?_)
              obtain ⟨V2, hrun, hm2, hgr⟩ := hm.put (e := oneL) okOne (by simp [posE]) (by unfold maxLen; omega) (by simp)
              replace hrun : (Instr.mapUpdate 56 (.map (some p1)) (.agg (eC oneL)) (.int .i64 0)).run Tryd.prog V = .ok () V2 := hrun
              have hB2 : Below W1.heap.size W1 V2 := hB.grown hgr hB.size (fun j e => by injection e with e; subst e; exact h1b)
              have h7 : V2.heap[p7]? = _ := (hgr.block p7 (lt_of_block h7) (fun e => by injection e with e; subst e; obtain ⟨es, clock, q⟩ := hm.lt; rw [q] at h7; cases h7)).trans h7
              clear hgr
              rw [if_pos (by rfl)]
              refine wp_insert _ _ _ rfl p1 oneL 0 (by go_simp) (by go_simp) (by go_simp) hrun ?_
              replace hm := hm2
              replace hB := hB2
              refine hK _ (_) ⟨fun _ => hB, ?_⟩
              clear hK K
              clear hm2 hB2 hrun
              obtain ⟨V, rfl⟩ : ∃ X, X = V2 := ⟨_, rfl⟩
              (try simp only [Act.put, List.getElem_toArray, List.getElem_cons_succ, List.getElem_cons_zero, List.setIfInBounds_toArray, List.set_cons_zero, List.set_cons_succ])
              refine wpAnyF_take (i := 5) (oi := _) (v := ?_) rfl (by kernel_rfl) (by kernel_rfl) (by kernel_rfl) (by kernel_rfl) (fun _ _ _ h => h) (Or.inl ⟨by rfl, ?_⟩) (by assumption) ?_
              rotate_left
              · intro V0 hSw
                (try dsimp only at hSw)
                go_simp
                all_goals with_reducible rfl
              (try simp only [Act.put, List.getElem_toArray, List.getElem_cons_succ, List.getElem_cons_zero, List.setIfInBounds_toArray, List.set_cons_zero, List.set_cons_succ])
              refine wpAnyF_br (rs := [8]) (by kernel_rfl) (by simp) ?_
              simp only [List.forall_mem_cons, List.not_mem_nil, false_imp_iff, implies_true, and_true]
              · refine wpOp_step (o := _) rfl (fun K hK => ?_)
                go_simp
                refine hK _ (_) ⟨fun _ => hB, ?_⟩
                clear hK K
                (try simp only [Act.put, List.getElem_toArray, List.getElem_cons_succ, List.getElem_cons_zero, List.setIfInBounds_toArray, List.set_cons_zero, List.set_cons_succ])
                refine wpAnyF_br (rs := [9]) (by kernel_rfl) (by simp) ?_
                simp only [List.forall_mem_cons, List.not_mem_nil, false_imp_iff, implies_true, and_true]
                · refine wpOp_step (o := _) rfl (fun K hK => ?_)
                  go_simp
                  have hb : Below V.heap.size V (V.alloc (.cells #[.int .u8 65, .int .i64 (n : Int), .slice (some ⟨p7, 0, none⟩) 1 1, .slice none 0 0, .map (some p1)] 58)) := bal (Below.refl _ _) _
                  have h9 := new_at V (.cells #[.int .u8 65, .int .i64 (n : Int), .slice (some ⟨p7, 0, none⟩) 1 1, .slice none 0 0, .map (some p1)] 58)
                  have h9b : W1.heap.size ≤ V.heap.size := hB.size
                  replace hm := hm.keep (hb.block p1 (hm.lt.elim fun _ q => q.elim fun _ q => lt_of_block q))
                  replace h7 := persist h7 hb
                  replace hB := btr hB hb
                  clear hb
                  refine hK _ (V.alloc (.cells #[.int .u8 65, .int .i64 (n : Int), .slice (some ⟨p7, 0, none⟩) 1 1, .slice none 0 0, .map (some p1)] 58)) ⟨fun _ => hB, ?_⟩
                  clear hK K
                  generalize V.alloc (.cells #[.int .u8 65, .int .i64 (n : Int), .slice (some ⟨p7, 0, none⟩) 1 1, .slice none 0 0, .map (some p1)] 58) = V2 at *
                  generalize V.heap.size = p9 at h9 h9b ⊢
                  obtain ⟨V, rfl⟩ : ∃ X, X = V2 := ⟨_, rfl⟩
                  (try simp only [Act.put, List.getElem_toArray, List.getElem_cons_succ, List.getElem_cons_zero, List.setIfInBounds_toArray, List.set_cons_zero, List.set_cons_succ])
                  refine wpAnyF_br (rs := [10]) (by kernel_rfl) (by simp) ?_
                  simp only [List.forall_mem_cons, List.not_mem_nil, false_imp_iff, implies_true, and_true]
                  · refine wpOp_step (o := _) rfl (fun K hK => ?_)
                    go_simp
                    refine hK _ (_) ⟨fun _ => hB, ?_⟩
                    clear hK K
                    (try simp only [Act.put, List.getElem_toArray, List.getElem_cons_succ, List.getElem_cons_zero, List.setIfInBounds_toArray, List.set_cons_zero, List.set_cons_succ])
                    refine wpAnyF_end (by kernel_rfl) (onNormal_mk ?_)
                    exact ⟨p9, p1, p6, p7, rfl, h9, hm, h7, h9b, h1b, h7b, hB⟩
    · refine wpOp_step (o := _) rfl (fun K hK => ?_)
      go_simp
      refine (one_go V n).mono ?_
      rintro e V2 ⟨rfl, hb⟩
      replace hB := btr hB hb
      clear hb
      refine hK _ (_) ⟨fun _ => hB, ?_⟩
      clear hK K
      obtain ⟨V, rfl⟩ : ∃ X, X = V2 := ⟨_, rfl⟩
      (try simp only [Act.put, List.getElem_toArray, List.getElem_cons_succ, List.getElem_cons_zero, List.setIfInBounds_toArray, List.set_cons_zero, List.set_cons_succ])
      refine wpAnyF_br (rs := [1, 6]) (by kernel_rfl) (by simp) ?_
      simp only [List.forall_mem_cons, List.not_mem_nil, false_imp_iff, implies_true, and_true]
      refine ⟨?_, ?_⟩
      · refine wpOp_step (o := _) rfl (fun K hK => ?_)
        go_simp
        have hb : Below V.heap.size V (V.alloc (.map #[] 0)) := bal (Below.refl _ _) _
        have hm := MapE.made V
        have h1b : W1.heap.size ≤ V.heap.size := hB.size
        replace hB := btr hB hb
        clear hb
        refine hK _ (V.alloc (.map #[] 0)) ⟨fun _ => hB, ?_⟩
        clear hK K
        generalize V.alloc (.map #[] 0) = V2 at *
        generalize V.heap.size = p1 at hm h1b ⊢
        obtain ⟨V, rfl⟩ : ∃ X, X = V2 := ⟨_, rfl⟩
        (try simp only [Act.put, List.getElem_toArray, List.getElem_cons_succ, List.getElem_cons_zero, List.setIfInBounds_toArray, List.set_cons_zero, List.set_cons_succ])
        refine wpAnyF_br (rs := [4, 6]) (by kernel_rfl) (by simp) ?_
        simp only [List.forall_mem_cons, List.not_mem_nil, false_imp_iff, implies_true, and_true]
        refine ⟨?_, ?_⟩
        · refine wpOp_step (o := _) rfl (fun K hK => ?_)
          obtain ⟨V2, hrun, hm2, hgr⟩ := hm.put (e := oneL) okOne (by simp [posE]) (by unfold maxLen; omega) (by simp)
          replace hrun : (Instr.mapUpdate 56 (.map (some p1)) (.agg (eC oneL)) (.int .i64 0)).run Tryd.prog V = .ok () V2 := hrun
          have hB2 : Below W1.heap.size W1 V2 := hB.grown hgr hB.size (fun j e => by injection e with e; subst e; exact h1b)
          clear hgr
          rw [if_pos (by rfl)]
          refine wp_insert _ _ _ rfl p1 oneL 0 (by go_simp) (by go_simp) (by go_simp) hrun ?_
          replace hm := hm2
          replace hB := hB2
          refine hK _ (_) ⟨fun _ => hB, ?_⟩
          clear hK K
          clear hm2 hB2 hrun
          obtain ⟨V, rfl⟩ : ∃ X, X = V2 := ⟨_, rfl⟩
          (try simp only [Act.put, List.getElem_toArray, List.getElem_cons_succ, List.getElem_cons_zero, List.setIfInBounds_toArray, List.set_cons_zero, List.set_cons_succ])
          refine wpAnyF_take (i := 5) (oi := _) (v := ?_) rfl (by kernel_rfl) (by kernel_rfl) (by kernel_rfl) (by kernel_rfl) (fun _ _ _ h => h) (Or.inl ⟨by rfl, ?_⟩) (by assumption) ?_
          rotate_left
          · intro V0 hSw
            (try dsimp only at hSw)
            go_simp
            all_goals with_reducible rfl
          (try simp only [Act.put, List.getElem_toArray, List.getElem_cons_succ, List.getElem_cons_zero, List.setIfInBounds_toArray, List.set_cons_zero, List.set_cons_succ])
          refine wpAnyF_br (rs := [6]) (by kernel_rfl) (by simp) ?_
          simp only [List.forall_mem_cons, List.not_mem_nil, false_imp_iff, implies_true, and_true]
          · refine wpOp_step (o := _) rfl (fun K hK => ?_)
            go_simp
            have hb : Below V.heap.size V (V.alloc (.cells #[] 3)) := bal (Below.refl _ _) _
            have h6 : True := trivial
            have h6b : W1.heap.size ≤ V.heap.size := hB.size
            replace hm := hm.keep (hb.block p1 (hm.lt.elim fun _ q => q.elim fun _ q => lt_of_block q))
            replace hB := btr hB hb
            clear hb
            refine hK _ (V.alloc (.cells #[] 3)) ⟨fun _ => hB, ?_⟩
            clear hK K
            generalize V.alloc (.cells #[] 3) = V2 at *
            generalize V.heap.size = p6 at h6 h6b ⊢
            obtain ⟨V, rfl⟩ : ∃ X, X = V2 := ⟨_, rfl⟩
            (try simp only [Act.put, List.getElem_toArray, List.getElem_cons_succ, List.getElem_cons_zero, List.setIfInBounds_toArray, List.set_cons_zero, List.set_cons_succ])
            refine wpAnyF_br (rs := [7]) (by kernel_rfl) (by simp) ?_
            simp only [List.forall_mem_cons, List.not_mem_nil, false_imp_iff, implies_true, and_true]
            · refine wpOp_step (o := _) rfl (fun K hK => ?_)
              go_simp
              have hb : Below V.heap.size V (V.alloc (.cells #[.slice (some ⟨p6, 0, none⟩) 0 0] 23)) := bal (Below.refl _ _) _
              have h7 := new_at V (.cells #[.slice (some ⟨p6, 0, none⟩) 0 0] 23)
              have h7b : W1.heap.size ≤ V.heap.size := hB.size
              replace hm := hm.keep (hb.block p1 (hm.lt.elim fun _ q => q.elim fun _ q => lt_of_block q))
              replace hB := btr hB hb
              clear hb
              refine hK _ (V.alloc (.cells #[.slice (some ⟨p6, 0, none⟩) 0 0] 23)) ⟨fun _ => hB, ?_⟩
              clear hK K
              generalize V.alloc (.cells #[.slice (some ⟨p6, 0, none⟩) 0 0] 23) = V2 at *
              generalize V.heap.size = p7 at h7 h7b ⊢
              obtain ⟨V, rfl⟩ : ∃ X, X = V2 := ⟨_, rfl⟩
              (try simp only [Act.put, List.getElem_toArray, List.getElem_cons_succ, List.getElem_cons_zero, List.setIfInBounds_toArray, List.set_cons_zero, List.set_cons_succ])
              refine wpAnyF_br (rs := [8]) (by kernel_rfl) (by simp) ?_
              simp only [List.forall_mem_cons, List.not_mem_nil, false_imp_iff, implies_true, and_true]
              · refine wpOp_step (o := _) rfl (fun K hK => ?_)
                go_simp
                refine hK _ (_) ⟨fun _ => hB, ?_⟩
                clear hK K
                (try simp only [Act.put, List.getElem_toArray, List.getElem_cons_succ, List.getElem_cons_zero, List.setIfInBounds_toArray, List.set_cons_zero, List.set_cons_succ])
                refine wpAnyF_br (rs := [9]) (by kernel_rfl) (by simp) ?_
                simp only [List.forall_mem_cons, List.not_mem_nil, false_imp_iff, implies_true, and_true]
                · refine wpOp_step (o := _) rfl (fun K hK => ?_)
                  go_simp
                  have hb : Below V.heap.size V (V.alloc (.cells #[.int .u8 65, .int .i64 (n : Int), .slice (some ⟨p7, 0, none⟩) 1 1, .slice none 0 0, .map (some p1)] 58)) := bal (Below.refl _ _) _
                  have h9 := new_at V (.cells #[.int .u8 65, .int .i64 (n : Int), .slice (some ⟨p7, 0, none⟩) 1 1, .slice none 0 0, .map (some p1)] 58)
                  have h9b : W1.heap.size ≤ V.heap.size := hB.size
                  replace hm := hm.keep (hb.block p1 (hm.lt.elim fun _ q => q.elim fun _ q => lt_of_block q))
                  replace h7 := persist h7 hb
                  replace hB := btr hB hb
                  clear hb
                  refine hK _ (V.alloc (.cells #[.int .u8 65, .int .i64 (n : Int), .slice (some ⟨p7, 0, none⟩) 1 1, .slice none 0 0, .map (some p1)] 58)) ⟨fun _ => hB, ?_⟩
                  clear hK K
                  generalize V.alloc (.cells #[.int .u8 65, .int .i64 (n : Int), .slice (some ⟨p7, 0, none⟩) 1 1, .slice none 0 0, .map (some p1)] 58) = V2 at *
                  generalize V.heap.size = p9 at h9 h9b ⊢
                  obtain ⟨V, rfl⟩ : ∃ X, X = V2 := ⟨_, rfl⟩
                  (try simp only [Act.put, List.getElem_toArray, List.getElem_cons_succ, List.getElem_cons_zero, List.setIfInBounds_toArray, List.set_cons_zero, List.set_cons_succ])
                  refine wpAnyF_br (rs := [10]) (by kernel_rfl) (by simp) ?_
                  simp only [List.forall_mem_cons, List.not_mem_nil, false_imp_iff, implies_true, and_true]
                  · refine wpOp_step (o := _) rfl (fun K hK => ?_)
                    go_simp
                    refine hK _ (_) ⟨fun _ => hB, ?_⟩
                    clear hK K
                    (try simp only [Act.put, List.getElem_toArray, List.getElem_cons_succ, List.getElem_cons_zero, List.setIfInBounds_toArray, List.set_cons_zero, List.set_cons_succ])
                    refine wpAnyF_end (by kernel_rfl) (onNormal_mk ?_)
                    exact ⟨p9, p1, p6, p7, rfl, h9, hm, h7, h9b, h1b, h7b, hB⟩
        · refine wpOp_step (o := _) rfl (fun K hK => ?_)
          go_simp
          have hb : Below V.heap.size V (V.alloc (.cells #[] 3)) := bal (Below.refl _ _) _
          have h6 : True := trivial
          have h6b : W1.heap.size ≤ V.heap.size := hB.size
          replace hm := hm.keep (hb.block p1 (hm.lt.elim fun _ q => q.elim fun _ q => lt_of_block q))
          replace hB := btr hB hb
          clear hb
          refine hK _ (V.alloc (.cells #[] 3)) ⟨fun _ => hB, ?_⟩
          clear hK K
          generalize V.alloc (.cells #[] 3) = V2 at *
          generalize V.heap.size = p6 at h6 h6b ⊢
          obtain ⟨V, rfl⟩ : ∃ X, X = V2 := ⟨_, rfl⟩
          (try simp only [Act.put, List.getElem_toArray, List.getElem_cons_succ, List.getElem_cons_zero, List.setIfInBounds_toArray, List.set_cons_zero, List.set_cons_succ])
          refine wpAnyF_br (rs := [4, 7]) (by kernel_rfl) (by simp) ?_
          simp only [List.forall_mem_cons, List.not_mem_nil, false_imp_iff, implies_true, and_true]
          refine ⟨?_, ?_⟩
          · refine wpOp_step (o := _) rfl (fun K hK => ?_)
            obtain ⟨V2, hrun, hm2, hgr⟩ := hm.put (e := oneL) okOne (by simp [posE]) (by unfold maxLen; omega) (by simp)
            replace hrun : (Instr.mapUpdate 56 (.map (some p1)) (.agg (eC oneL)) (.int .i64 0)).run Tryd.prog V = .ok () V2 := hrun
            have hB2 : Below W1.heap.size W1 V2 := hB.grown hgr hB.size (fun j e => by injection e with e; subst e; exact h1b)
            clear hgr
            rw [if_pos (by rfl)]
            refine wp_insert _ _ _ rfl p1 oneL 0 (by go_simp) (by go_simp) (by go_simp) hrun ?_
            replace hm := hm2
            replace hB := hB2
            refine hK _ (_) ⟨fun _ => hB, ?_⟩
            clear hK K
            clear hm2 hB2 hrun
            obtain ⟨V, rfl⟩ : ∃ X, X = V2 := ⟨_, rfl⟩
            (try simp only [Act.put, List.getElem_toArray, List.getElem_cons_succ, List.getElem_cons_zero, List.setIfInBounds_toArray, List.set_cons_zero, List.set_cons_succ])
            refine wpAnyF_take (i := 5) (oi := _) (v := ?_) rfl (by kernel_rfl) (by kernel_rfl) (by kernel_rfl) (by kernel_rfl) (fun _ _ _ h => h) (Or.inl ⟨by rfl, ?_⟩) (by assumption) ?_
            rotate_left
            · intro V0 hSw
              (try dsimp only at hSw)
              go_simp
              all_goals with_reducible rfl
            (try simp only [Act.put, List.getElem_toArray, List.getElem_cons_succ, List.getElem_cons_zero, List.setIfInBounds_toArray, List.set_cons_zero, List.set_cons_succ])
            refine wpAnyF_br (rs := [7]) (by kernel_rfl) (by simp) ?_
            simp only [List.forall_mem_cons, List.not_mem_nil, false_imp_iff, implies_true, and_true]
            · refine wpOp_step (o := _) rfl (fun K hK => ?_)
              go_simp
              have hb : Below V.heap.size V (V.alloc (.cells #[.slice (some ⟨p6, 0, none⟩) 0 0] 23)) := bal (Below.refl _ _) _
              have h7 := new_at V (.cells #[.slice (some ⟨p6, 0, none⟩) 0 0] 23)
              have h7b : W1.heap.size ≤ V.heap.size := hB.size
              replace hm := hm.keep (hb.block p1 (hm.lt.elim fun _ q => q.elim fun _ q => lt_of_block q))
              replace hB := btr hB hb
              clear hb
              refine hK _ (V.alloc (.cells #[.slice (some ⟨p6, 0, none⟩) 0 0] 23)) ⟨fun _ => hB, ?_⟩
              clear hK K
              generalize V.alloc (.cells #[.slice (some ⟨p6, 0, none⟩) 0 0] 23) = V2 at *
              generalize V.heap.size = p7 at h7 h7b ⊢
              obtain ⟨V, rfl⟩ : ∃ X, X = V2 := ⟨_, rfl⟩
              (try simp only [Act.put, List.getElem_toArray, List.getElem_cons_succ, List.getElem_cons_zero, List.setIfInBounds_toArray, List.set_cons_zero, List.set_cons_succ])
              refine wpAnyF_br (rs := [8]) (by kernel_rfl) (by simp) ?_
              simp only [List.forall_mem_cons, List.not_mem_nil, false_imp_iff, implies_true, and_true]
              · refine wpOp_step (o := _) rfl (fun K hK => ?_)
                go_simp
                refine hK _ (_) ⟨fun _ => hB, ?_⟩
                clear hK K
                (try simp only [Act.put, List.getElem_toArray, List.getElem_cons_succ, List.getElem_cons_zero, List.setIfInBounds_toArray, List.set_cons_zero, List.set_cons_succ])
                refine wpAnyF_br (rs := [9]) (by kernel_rfl) (by simp) ?_
                simp only [List.forall_mem_cons, List.not_mem_nil, false_imp_iff, implies_true, and_true]
                · refine wpOp_step (o := _) rfl (fun K hK => ?_)
                  go_simp
                  have hb : Below V.heap.size V (V.alloc (.cells #[.int .u8 65, .int .i64 (n : Int), .slice (some ⟨p7, 0, none⟩) 1 1, .slice none 0 0, .map (some p1)] 58)) := bal (Below.refl _ _) _
                  have h9 := new_at V (.cells #[.int .u8 65, .int .i64 (n : Int), .slice (some ⟨p7, 0, none⟩) 1 1, .slice none 0 0, .map (some p1)] 58)
                  have h9b : W1.heap.size ≤ V.heap.size := hB.size
                  replace hm := hm.keep (hb.block p1 (hm.lt.elim fun _ q => q.elim fun _ q => lt_of_block q))
                  replace h7 := persist h7 hb
                  replace hB := btr hB hb
                  clear hb
                  refine hK _ (V.alloc (.cells #[.int .u8 65, .int .i64 (n : Int), .slice (some ⟨p7, 0, none⟩) 1 1, .slice none 0 0, .map (some p1)] 58)) ⟨fun _ => hB, ?_⟩
                  clear hK K
                  generalize V.alloc (.cells #[.int .u8 65, .int .i64 (n : Int), .slice (some ⟨p7, 0, none⟩) 1 1, .slice none 0 0, .map (some p1)] 58) = V2 at *
                  generalize V.heap.size = p9 at h9 h9b ⊢
                  obtain ⟨V, rfl⟩ : ∃ X, X = V2 := ⟨_, rfl⟩
                  (try simp only [Act.put, List.getElem_toArray, List.getElem_cons_succ, List.getElem_cons_zero, List.setIfInBounds_toArray, List.set_cons_zero, List.set_cons_succ])
                  refine wpAnyF_br (rs := [10]) (by kernel_rfl) (by simp) ?_
                  simp only [List.forall_mem_cons, List.not_mem_nil, false_imp_iff, implies_true, and_true]
                  · refine wpOp_step (o := _) rfl (fun K hK => ?_)
                    go_simp
                    refine hK _ (_) ⟨fun _ => hB, ?_⟩
                    clear hK K
                    (try simp only [Act.put, List.getElem_toArray, List.getElem_cons_succ, List.getElem_cons_zero, List.setIfInBounds_toArray, List.set_cons_zero, List.set_cons_succ])
                    refine wpAnyF_end (by kernel_rfl) (onNormal_mk ?_)
                    exact ⟨p9, p1, p6, p7, rfl, h9, hm, h7, h9b, h1b, h7b, hB⟩
          · refine wpOp_step (o := _) rfl (fun K hK => ?_)
            go_simp
            have hb : Below V.heap.size V (V.alloc (.cells #[.slice (some ⟨p6, 0, none⟩) 0 0] 23)) := bal (Below.refl _ _) _
            have h7 := new_at V (.cells #[.slice (some ⟨p6, 0, none⟩) 0 0] 23)
            have h7b : W1.heap.size ≤ V.heap.size := hB.size
            replace hm := hm.keep (hb.block p1 (hm.lt.elim fun _ q => q.elim fun _ q => lt_of_block q))
            replace hB := btr hB hb
            clear hb
            refine hK _ (V.alloc (.cells #[.slice (some ⟨p6, 0, none⟩) 0 0] 23)) ⟨fun _ => hB, ?_⟩
            clear hK K
            generalize V.alloc (.cells #[.slice (some ⟨p6, 0, none⟩) 0 0] 23) = V2 at *
            generalize V.heap.size = p7 at h7 h7b ⊢
            obtain ⟨V, rfl⟩ : ∃ X, X = V2 := ⟨_, rfl⟩
            (try simp only [Act.put, List.getElem_toArray, List.getElem_cons_succ, List.getElem_cons_zero, List.setIfInBounds_toArray, List.set_cons_zero, List.set_cons_succ])
            refine wpAnyF_br (rs := [4]) (by kernel_rfl) (by simp) ?_
            simp only [List.forall_mem_cons, List.not_mem_nil, false_imp_iff, implies_true, and_true]
            · refine wpOp_step (o := _) rfl (fun K hK => ?_)
              obtain ⟨V2, hrun, hm2, hgr⟩ := hm.put (e := oneL) okOne (by simp [posE]) (by unfold maxLen; omega) (by simp)
              replace hrun : (Instr.mapUpdate 56 (.map (some p1)) (.agg (eC oneL)) (.int .i64 0)).run Tryd.prog V = .ok () V2 := hrun
              have hB2 : Below W1.heap.size W1 V2 := hB.grown hgr hB.size (fun j e => by injection e with e; subst e; exact h1b)
              have h7 : V2.heap[p7]? = _ := (hgr.block p7 (lt_of_block h7) (fun e => by injection e with e; subst e; obtain ⟨es, clock, q⟩ := hm.lt; rw [q] at h7; cases h7)).trans h7
              clear hgr
              rw [if_pos (by rfl)]
              refine wp_insert _ _ _ rfl p1 oneL 0 (by go_simp) (by go_simp) (by go_simp) hrun ?_
              replace hm := hm2
              replace hB := hB2
              refine hK _ (_) ⟨fun _ => hB, ?_⟩
              clear hK K
              clear hm2 hB2 hrun
              obtain ⟨V, rfl⟩ : ∃ X, X = V2 := ⟨_, rfl⟩
              (try simp only [Act.put, List.getElem_toArray, List.getElem_cons_succ, List.getElem_cons_zero, List.setIfInBounds_toArray, List.set_cons_zero, List.set_cons_succ])
              refine wpAnyF_take (i := 5) (oi := _) (v := ?_) rfl (by kernel_rfl) (by kernel_rfl) (by kernel_rfl) (by kernel_rfl) (fun _ _ _ h => h) (Or.inl ⟨by rfl, ?_⟩) (by assumption) ?_
              rotate_left
              · intro V0 hSw
                (try dsimp only at hSw)
                go_simp
                all_goals with_reducible rfl
              (try simp only [Act.put, List.getElem_toArray, List.getElem_cons_succ, List.getElem_cons_zero, List.setIfInBounds_toArray, List.set_cons_zero, List.set_cons_succ])
              refine wpAnyF_br (rs := [8]) (by kernel_rfl) (by simp) ?_
              simp only [List.forall_mem_cons, List.not_mem_nil, false_imp_iff, implies_true, and_true]
              · refine wpOp_step (o := _) rfl (fun K hK => ?_)
                go_simp
                refine hK _ (_) ⟨fun _ => hB, ?_⟩
                clear hK K
                (try simp only [Act.put, List.getElem_toArray, List.getElem_cons_succ, List.getElem_cons_zero, List.setIfInBounds_toArray, List.set_cons_zero, List.set_cons_succ])
                refine wpAnyF_br (rs := [9]) (by kernel_rfl) (by simp) ?_
                simp only [List.forall_mem_cons, List.not_mem_nil, false_imp_iff, implies_true, and_true]
                · refine wpOp_step (o := _) rfl (fun K hK => ?_)
                  go_simp
                  have hb : Below V.heap.size V (V.alloc (.cells #[.int .u8 65, .int .i64 (n : Int), .slice (some ⟨p7, 0, none⟩) 1 1, .slice none 0 0, .map (some p1)] 58)) := bal (Below.refl _ _) _
                  have h9 := new_at V (.cells #[.int .u8 65, .int .i64 (n : Int), .slice (some ⟨p7, 0, none⟩) 1 1, .slice none 0 0, .map (some p1)] 58)
                  have h9b : W1.heap.size ≤ V.heap.size := hB.size
                  replace hm := hm.keep (hb.block p1 (hm.lt.elim fun _ q => q.elim fun _ q => lt_of_block q))
                  replace h7 := persist h7 hb
                  replace hB := btr hB hb
                  clear hb
                  refine hK _ (V.alloc (.cells #[.int .u8 65, .int .i64 (n : Int), .slice (some ⟨p7, 0, none⟩) 1 1, .slice none 0 0, .map (some p1)] 58)) ⟨fun _ => hB, ?_⟩
                  clear hK K
                  generalize V.alloc (.cells #[.int .u8 65, .int .i64 (n : Int), .slice (some ⟨p7, 0, none⟩) 1 1, .slice none 0 0, .map (some p1)] 58) = V2 at *
                  generalize V.heap.size = p9 at h9 h9b ⊢
                  obtain ⟨V, rfl⟩ : ∃ X, X = V2 := ⟨_, rfl⟩
                  (try simp only [Act.put, List.getElem_toArray, List.getElem_cons_succ, List.getElem_cons_zero, List.setIfInBounds_toArray, List.set_cons_zero, List.set_cons_succ])
                  refine wpAnyF_br (rs := [10]) (by kernel_rfl) (by simp) ?_
                  simp only [List.forall_mem_cons, List.not_mem_nil, false_imp_iff, implies_true, and_true]
                  · refine wpOp_step (o := _) rfl (fun K hK => ?_)
                    go_simp
                    refine hK _ (_) ⟨fun _ => hB, ?_⟩
                    clear hK K
                    (try simp only [Act.put, List.getElem_toArray, List.getElem_cons_succ, List.getElem_cons_zero, List.setIfInBounds_toArray, List.set_cons_zero, List.set_cons_succ])
                    refine wpAnyF_end (by kernel_rfl) (onNormal_mk ?_)
                    exact ⟨p9, p1, p6, p7, rfl, h9, hm, h7, h9b, h1b, h7b, hB⟩
      · refine wpOp_step (o := _) rfl (fun K hK => ?_)
        go_simp
        have hb : Below V.heap.size V (V.alloc (.cells #[] 3)) := bal (Below.refl _ _) _
        have h6 : True := trivial
        have h6b : W1.heap.size ≤ V.heap.size := hB.size
        replace hB := btr hB hb
        clear hb
        refine hK _ (V.alloc (.cells #[] 3)) ⟨fun _ => hB, ?_⟩
        clear hK K
        generalize V.alloc (.cells #[] 3) = V2 at *
        generalize V.heap.size = p6 at h6 h6b ⊢
        obtain ⟨V, rfl⟩ : ∃ X, X = V2 := ⟨_, rfl⟩
        (try simp only [Act.put, List.getElem_toArray, List.getElem_cons_succ, List.getElem_cons_zero, List.setIfInBounds_toArray, List.set_cons_zero, List.set_cons_succ])
        refine wpAnyF_br (rs := [1, 7]) (by kernel_rfl) (by simp) ?_
        simp only [List.forall_mem_cons, List.not_mem_nil, false_imp_iff, implies_true, and_true]
        refine ⟨?_, ?_⟩
        · refine wpOp_step (o := _) rfl (fun K hK => ?_)
          go_simp
          have hb : Below V.heap.size V (V.alloc (.map #[] 0)) := bal (Below.refl _ _) _
          have hm := MapE.made V
          have h1b : W1.heap.size ≤ V.heap.size := hB.size
          replace hB := btr hB hb
          clear hb
          refine hK _ (V.alloc (.map #[] 0)) ⟨fun _ => hB, ?_⟩
          clear hK K
          generalize V.alloc (.map #[] 0) = V2 at *
          generalize V.heap.size = p1 at hm h1b ⊢
          obtain ⟨V, rfl⟩ : ∃ X, X = V2 := ⟨_, rfl⟩
          (try simp only [Act.put, List.getElem_toArray, List.getElem_cons_succ, List.getElem_cons_zero, List.setIfInBounds_toArray, List.set_cons_zero, List.set_cons_succ])
          refine wpAnyF_br (rs := [4, 7]) (by kernel_rfl) (by simp) ?_
          simp only [List.forall_mem_cons, List.not_mem_nil, false_imp_iff, implies_true, and_true]
          refine ⟨?_, ?_⟩
          · refine wpOp_step (o := _) rfl (fun K hK => ?_)
            obtain ⟨V2, hrun, hm2, hgr⟩ := hm.put (e := oneL) okOne (by simp [posE]) (by unfold maxLen; omega) (by simp)
            replace hrun : (Instr.mapUpdate 56 (.map (some p1)) (.agg (eC oneL)) (.int .i64 0)).run Tryd.prog V = .ok () V2 := hrun
            have hB2 : Below W1.heap.size W1 V2 := hB.grown hgr hB.size (fun j e => by injection e with e; subst e; exact h1b)
            clear hgr
            rw [if_pos (by rfl)]
            refine wp_insert _ _ _ rfl p1 oneL 0 (by go_simp) (by go_simp) (by go_simp) hrun ?_
            replace hm := hm2
            replace hB := hB2
            refine hK _ (_) ⟨fun _ => hB, ?_⟩
            clear hK K
            clear hm2 hB2 hrun
            obtain ⟨V, rfl⟩ : ∃ X, X = V2 := ⟨_, rfl⟩
            (try simp only [Act.put, List.getElem_toArray, List.getElem_cons_succ, List.getElem_cons_zero, List.setIfInBounds_toArray, List.set_cons_zero, List.set_cons_succ])
            refine wpAnyF_take (i := 5) (oi := _) (v := ?_) rfl (by kernel_rfl) (by kernel_rfl) (by kernel_rfl) (by kernel_rfl) (fun _ _ _ h => h) (Or.inl ⟨by rfl, ?_⟩) (by assumption) ?_
            rotate_left
            · intro V0 hSw
              (try dsimp only at hSw)
              go_simp
              all_goals with_reducible rfl
            (try simp only [Act.put, List.getElem_toArray, List.getElem_cons_succ, List.getElem_cons_zero, List.setIfInBounds_toArray, List.set_cons_zero, List.set_cons_succ])
            refine wpAnyF_br (rs := [7]) (by kernel_rfl) (by simp) ?_
            simp only [List.forall_mem_cons, List.not_mem_nil, false_imp_iff, implies_true, and_true]
            · refine wpOp_step (o := _) rfl (fun K hK => ?_)
              go_simp
              have hb : Below V.heap.size V (V.alloc (.cells #[.slice (some ⟨p6, 0, none⟩) 0 0] 23)) := bal (Below.refl _ _) _
              have h7 := new_at V (.cells #[.slice (some ⟨p6, 0, none⟩) 0 0] 23)
              have h7b : W1.heap.size ≤ V.heap.size := hB.size
              replace hm := hm.keep (hb.block p1 (hm.lt.elim fun _ q => q.elim fun _ q => lt_of_block q))
              replace hB := btr hB hb
              clear hb
              refine hK _ (V.alloc (.cells #[.slice (some ⟨p6, 0, none⟩) 0 0] 23)) ⟨fun _ => hB, ?_⟩
              clear hK K
              generalize V.alloc (.cells #[.slice (some ⟨p6, 0, none⟩) 0 0] 23) = V2 at *
              generalize V.heap.size = p7 at h7 h7b ⊢
              obtain ⟨V, rfl⟩ : ∃ X, X = V2 := ⟨_, rfl⟩
              (try simp only [Act.put, List.getElem_toArray, List.getElem_cons_succ, List.getElem_cons_zero, List.setIfInBounds_toArray, List.set_cons_zero, List.set_cons_succ])
              refine wpAnyF_br (rs := [8]) (by kernel_rfl) (by simp) ?_
              simp only [List.forall_mem_cons, List.not_mem_nil, false_imp_iff, implies_true, and_true]
              · refine wpOp_step (o := _) rfl (fun K hK => ?_)
                go_simp
                refine hK _ (_) ⟨fun _ => hB, ?_⟩
                clear hK K
                (try simp only [Act.put, List.getElem_toArray, List.getElem_cons_succ, List.getElem_cons_zero, List.setIfInBounds_toArray, List.set_cons_zero, List.set_cons_succ])
                refine wpAnyF_br (rs := [9]) (by kernel_rfl) (by simp) ?_
                simp only [List.forall_mem_cons, List.not_mem_nil, false_imp_iff, implies_true, and_true]
                · refine wpOp_step (o := _) rfl (fun K hK => ?_)
                  go_simp
                  have hb : Below V.heap.size V (V.alloc (.cells #[.int .u8 65, .int .i64 (n : Int), .slice (some ⟨p7, 0, none⟩) 1 1, .slice none 0 0, .map (some p1)] 58)) := bal (Below.refl _ _) _
                  have h9 := new_at V (.cells #[.int .u8 65, .int .i64 (n : Int), .slice (some ⟨p7, 0, none⟩) 1 1, .slice none 0 0, .map (some p1)] 58)
                  have h9b : W1.heap.size ≤ V.heap.size := hB.size
                  replace hm := hm.keep (hb.block p1 (hm.lt.elim fun _ q => q.elim fun _ q => lt_of_block q))
                  replace h7 := persist h7 hb
                  replace hB := btr hB hb
                  clear hb
                  refine hK _ (V.alloc (.cells #[.int .u8 65, .int .i64 (n : Int), .slice (some ⟨p7, 0, none⟩) 1 1, .slice none 0 0, .map (some p1)] 58)) ⟨fun _ => hB, ?_⟩
                  clear hK K
                  generalize V.alloc (.cells #[.int .u8 65, .int .i64 (n : Int), .slice (some ⟨p7, 0, none⟩) 1 1, .slice none 0 0, .map (some p1)] 58) = V2 at *
                  generalize V.heap.size = p9 at h9 h9b ⊢
                  obtain ⟨V, rfl⟩ : ∃ X, X = V2 := ⟨_, rfl⟩
                  (try simp only [Act.put, List.getElem_toArray, List.getElem_cons_succ, List.getElem_cons_zero, List.setIfInBounds_toArray, List.set_cons_zero, List.set_cons_succ])
                  refine wpAnyF_br (rs := [10]) (by kernel_rfl) (by simp) ?_
                  simp only [List.forall_mem_cons, List.not_mem_nil, false_imp_iff, implies_true, and_true]
                  · refine wpOp_step (o := _) rfl (fun K hK => ?_)
                    go_simp
                    refine hK _ (_) ⟨fun _ => hB, ?_⟩
                    clear hK K
                    (try simp only [Act.put, List.getElem_toArray, List.getElem_cons_succ, List.getElem_cons_zero, List.setIfInBounds_toArray, List.set_cons_zero, List.set_cons_succ])
                    refine wpAnyF_end (by kernel_rfl) (onNormal_mk ?_)
                    exact ⟨p9, p1, p6, p7, rfl, h9, hm, h7, h9b, h1b, h7b, hB⟩
          · refine wpOp_step (o := _) rfl (fun K hK => ?_)
            go_simp
            have hb : Below V.heap.size V (V.alloc (.cells #[.slice (some ⟨p6, 0, none⟩) 0 0] 23)) := bal (Below.refl _ _) _
            have h7 := new_at V (.cells #[.slice (some ⟨p6, 0, none⟩) 0 0] 23)
            have h7b : W1.heap.size ≤ V.heap.size := hB.size
            replace hm := hm.keep (hb.block p1 (hm.lt.elim fun _ q => q.elim fun _ q => lt_of_block q))
            replace hB := btr hB hb
            clear hb
            refine hK _ (V.alloc (.cells #[.slice (some ⟨p6, 0, none⟩) 0 0] 23)) ⟨fun _ => hB, ?_⟩
            clear hK K
            generalize V.alloc (.cells #[.slice (some ⟨p6, 0, none⟩) 0 0] 23) = V2 at *
            generalize V.heap.size = p7 at h7 h7b ⊢
            obtain ⟨V, rfl⟩ : ∃ X, X = V2 := ⟨_, rfl⟩
            (try simp only [Act.put, List.getElem_toArray, List.getElem_cons_succ, List.getElem_cons_zero, List.setIfInBounds_toArray, List.set_cons_zero, List.set_cons_succ])
            refine wpAnyF_br (rs := [4]) (by kernel_rfl) (by simp) ?_
            simp only [List.forall_mem_cons, List.not_mem_nil, false_imp_iff, implies_true, and_true]
            · refine wpOp_step (o := _) rfl (fun K hK => ?_)
              obtain ⟨V2, hrun, hm2, hgr⟩ := hm.put (e := oneL) okOne (by simp [posE]) (by unfold maxLen; omega) (by simp)
              replace hrun : (Instr.mapUpdate 56 (.map (some p1)) (.agg (eC oneL)) (.int .i64 0)).run Tryd.prog V = .ok () V2 := hrun
              have hB2 : Below W1.heap.size W1 V2 := hB.grown hgr hB.size (fun j e => by injection e with e; subst e; exact h1b)
              have h7 : V2.heap[p7]? = _ := (hgr.block p7 (lt_of_block h7) (fun e => by injection e with e; subst e; obtain ⟨es, clock, q⟩ := hm.lt; rw [q] at h7; cases h7)).trans h7
              clear hgr
              rw [if_pos (by rfl)]
              refine wp_insert _ _ _ rfl p1 oneL 0 (by go_simp) (by go_simp) (by go_simp) hrun ?_
              replace hm := hm2
              replace hB := hB2
              refine hK _ (_) ⟨fun _ => hB, ?_⟩
              clear hK K
              clear hm2 hB2 hrun
              obtain ⟨V, rfl⟩ : ∃ X, X = V2 := ⟨_, rfl⟩
              (try simp only [Act.put, List.getElem_toArray, List.getElem_cons_succ, List.getElem_cons_zero, List.setIfInBounds_toArray, List.set_cons_zero, List.set_cons_succ])
              refine wpAnyF_take (i := 5) (oi := _) (v := ?_) rfl (by kernel_rfl) (by kernel_rfl) (by kernel_rfl) (by kernel_rfl) (fun _ _ _ h => h) (Or.inl ⟨by rfl, ?_⟩) (by assumption) ?_
              rotate_left
              · intro V0 hSw
                (try dsimp only at hSw)
                go_simp
                all_goals with_reducible rfl
              (try simp only [Act.put, List.getElem_toArray, List.getElem_cons_succ, List.getElem_cons_zero, List.setIfInBounds_toArray, List.set_cons_zero, List.set_cons_succ])
              refine wpAnyF_br (rs := [8]) (by kernel_rfl) (by simp) ?_
              simp only [List.forall_mem_cons, List.not_mem_nil, false_imp_iff, implies_true, and_true]
              · refine wpOp_step (o := _) rfl (fun K hK => ?_)
                go_simp
                refine hK _ (_) ⟨fun _ => hB, ?_⟩
                clear hK K
                (try simp only [Act.put, List.getElem_toArray, List.getElem_cons_succ, List.getElem_cons_zero, List.setIfInBounds_toArray, List.set_cons_zero, List.set_cons_succ])
                refine wpAnyF_br (rs := [9]) (by kernel_rfl) (by simp) ?_
                simp only [List.forall_mem_cons, List.not_mem_nil, false_imp_iff, implies_true, and_true]
                · refine wpOp_step (o := _) rfl (fun K hK => ?_)
                  go_simp
                  have hb : Below V.heap.size V (V.alloc (.cells #[.int .u8 65, .int .i64 (n : Int), .slice (some ⟨p7, 0, none⟩) 1 1, .slice none 0 0, .map (some p1)] 58)) := bal (Below.refl _ _) _
                  have h9 := new_at V (.cells #[.int .u8 65, .int .i64 (n : Int), .slice (some ⟨p7, 0, none⟩) 1 1, .slice none 0 0, .map (some p1)] 58)
                  have h9b : W1.heap.size ≤ V.heap.size := hB.size
                  replace hm := hm.keep (hb.block p1 (hm.lt.elim fun _ q => q.elim fun _ q => lt_of_block q))
                  replace h7 := persist h7 hb
                  replace hB := btr hB hb
                  clear hb
                  refine hK _ (V.alloc (.cells #[.int .u8 65, .int .i64 (n : Int), .slice (some ⟨p7, 0, none⟩) 1 1, .slice none 0 0, .map (some p1)] 58)) ⟨fun _ => hB, ?_⟩
                  clear hK K
                  generalize V.alloc (.cells #[.int .u8 65, .int .i64 (n : Int), .slice (some ⟨p7, 0, none⟩) 1 1, .slice none 0 0, .map (some p1)] 58) = V2 at *
                  generalize V.heap.size = p9 at h9 h9b ⊢
                  obtain ⟨V, rfl⟩ : ∃ X, X = V2 := ⟨_, rfl⟩
                  (try simp only [Act.put, List.getElem_toArray, List.getElem_cons_succ, List.getElem_cons_zero, List.setIfInBounds_toArray, List.set_cons_zero, List.set_cons_succ])
                  refine wpAnyF_br (rs := [10]) (by kernel_rfl) (by simp) ?_
                  simp only [List.forall_mem_cons, List.not_mem_nil, false_imp_iff, implies_true, and_true]
                  · refine wpOp_step (o := _) rfl (fun K hK => ?_)
                    go_simp
                    refine hK _ (_) ⟨fun _ => hB, ?_⟩
                    clear hK K
                    (try simp only [Act.put, List.getElem_toArray, List.getElem_cons_succ, List.getElem_cons_zero, List.setIfInBounds_toArray, List.set_cons_zero, List.set_cons_succ])
                    refine wpAnyF_end (by kernel_rfl) (onNormal_mk ?_)
                    exact ⟨p9, p1, p6, p7, rfl, h9, hm, h7, h9b, h1b, h7b, hB⟩
        · refine wpOp_step (o := _) rfl (fun K hK => ?_)
          go_simp
          have hb : Below V.heap.size V (V.alloc (.cells #[.slice (some ⟨p6, 0, none⟩) 0 0] 23)) := bal (Below.refl _ _) _
          have h7 := new_at V (.cells #[.slice (some ⟨p6, 0, none⟩) 0 0] 23)
          have h7b : W1.heap.size ≤ V.heap.size := hB.size
          replace hB := btr hB hb
          clear hb
          refine hK _ (V.alloc (.cells #[.slice (some ⟨p6, 0, none⟩) 0 0] 23)) ⟨fun _ => hB, ?_⟩
          clear hK K
          generalize V.alloc (.cells #[.slice (some ⟨p6, 0, none⟩) 0 0] 23) = V2 at *
          generalize V.heap.size = p7 at h7 h7b ⊢
          obtain ⟨V, rfl⟩ : ∃ X, X = V2 := ⟨_, rfl⟩
          (try simp only [Act.put, List.getElem_toArray, List.getElem_cons_succ, List.getElem_cons_zero, List.setIfInBounds_toArray, List.set_cons_zero, List.set_cons_succ])
          refine wpAnyF_br (rs := [1]) (by kernel_rfl) (by simp) ?_
          simp only [List.forall_mem_cons, List.not_mem_nil, false_imp_iff, implies_true, and_true]
          · refine wpOp_step (o := _) rfl (fun K hK => ?_)
            go_simp
            have hb : Below V.heap.size V (V.alloc (.map #[] 0)) := bal (Below.refl _ _) _
            have hm := MapE.made V
            have h1b : W1.heap.size ≤ V.heap.size := hB.size
            replace h7 := persist h7 hb
            replace hB := btr hB hb
            clear hb
            refine hK _ (V.alloc (.map #[] 0)) ⟨fun _ => hB, ?_⟩
            clear hK K
            generalize V.alloc (.map #[] 0) = V2 at *
            generalize V.heap.size = p1 at hm h1b ⊢
            obtain ⟨V, rfl⟩ : ∃ X, X = V2 := ⟨_, rfl⟩
            (try simp only [Act.put, List.getElem_toArray, List.getElem_cons_succ, List.getElem_cons_zero, List.setIfInBounds_toArray, List.set_cons_zero, List.set_cons_succ])
            refine wpAnyF_br (rs := [4]) (by kernel_rfl) (by simp) ?_
            simp only [List.forall_mem_cons, List.not_mem_nil, false_imp_iff, implies_true, and_true]
            · refine wpOp_step (o := _) rfl (fun K hK => ?_)
              obtain ⟨V2, hrun, hm2, hgr⟩ := hm.put (e := oneL) okOne (by simp [posE]) (by unfold maxLen; omega) (by simp)
              replace hrun : (Instr.mapUpdate 56 (.map (some p1)) (.agg (eC oneL)) (.int .i64 0)).run Tryd.prog V = .ok () V2 := hrun
              have hB2 : Below W1.heap.size W1 V2 := hB.grown hgr hB.size (fun j e => by injection e with e; subst e; exact h1b)
              have h7 : V2.heap[p7]? = _ := (hgr.block p7 (lt_of_block h7) (fun e => by injection e with e; subst e; obtain ⟨es, clock, q⟩ := hm.lt; rw [q] at h7; cases h7)).trans h7
              clear hgr
              rw [if_pos (by rfl)]
              refine wp_insert _ _ _ rfl p1 oneL 0 (by go_simp) (by go_simp) (by go_simp) hrun ?_
              replace hm := hm2
              replace hB := hB2
              refine hK _ (_) ⟨fun _ => hB, ?_⟩
              clear hK K
              clear hm2 hB2 hrun
              obtain ⟨V, rfl⟩ : ∃ X, X = V2 := ⟨_, rfl⟩
              (try simp only [Act.put, List.getElem_toArray, List.getElem_cons_succ, List.getElem_cons_zero, List.setIfInBounds_toArray, List.set_cons_zero, List.set_cons_succ])
              refine wpAnyF_take (i := 5) (oi := _) (v := ?_) rfl (by kernel_rfl) (by kernel_rfl) (by kernel_rfl) (by kernel_rfl) (fun _ _ _ h => h) (Or.inl ⟨by rfl, ?_⟩) (by assumption) ?_
              rotate_left
              · intro V0 hSw
                (try dsimp only at hSw)
                go_simp
                all_goals with_reducible rfl
              (try simp only [Act.put, List.getElem_toArray, List.getElem_cons_succ, List.getElem_cons_zero, List.setIfInBounds_toArray, List.set_cons_zero, List.set_cons_succ])
              refine wpAnyF_br (rs := [8]) (by kernel_rfl) (by simp) ?_
              simp only [List.forall_mem_cons, List.not_mem_nil, false_imp_iff, implies_true, and_true]
              · refine wpOp_step (o := _) rfl (fun K hK => ?_)
                go_simp
                refine hK _ (_) ⟨fun _ => hB, ?_⟩
                clear hK K
                (try simp only [Act.put, List.getElem_toArray, List.getElem_cons_succ, List.getElem_cons_zero, List.setIfInBounds_toArray, List.set_cons_zero, List.set_cons_succ])
                refine wpAnyF_br (rs := [9]) (by kernel_rfl) (by simp) ?_
                simp only [List.forall_mem_cons, List.not_mem_nil, false_imp_iff, implies_true, and_true]
                · refine wpOp_step (o := _) rfl (fun K hK => ?_)
                  go_simp
                  have hb : Below V.heap.size V (V.alloc (.cells #[.int .u8 65, .int .i64 (n : Int), .slice (some ⟨p7, 0, none⟩) 1 1, .slice none 0 0, .map (some p1)] 58)) := bal (Below.refl _ _) _
                  have h9 := new_at V (.cells #[.int .u8 65, .int .i64 (n : Int), .slice (some ⟨p7, 0, none⟩) 1 1, .slice none 0 0, .map (some p1)] 58)
                  have h9b : W1.heap.size ≤ V.heap.size := hB.size
                  replace hm := hm.keep (hb.block p1 (hm.lt.elim fun _ q => q.elim fun _ q => lt_of_block q))
                  replace h7 := persist h7 hb
                  replace hB := btr hB hb
                  clear hb
                  refine hK _ (V.alloc (.cells #[.int .u8 65, .int .i64 (n : Int), .slice (some ⟨p7, 0, none⟩) 1 1, .slice none 0 0, .map (some p1)] 58)) ⟨fun _ => hB, ?_⟩
                  clear hK K
                  generalize V.alloc (.cells #[.int .u8 65, .int .i64 (n : Int), .slice (some ⟨p7, 0, none⟩) 1 1, .slice none 0 0, .map (some p1)] 58) = V2 at *
                  generalize V.heap.size = p9 at h9 h9b ⊢
                  obtain ⟨V, rfl⟩ : ∃ X, X = V2 := ⟨_, rfl⟩
                  (try simp only [Act.put, List.getElem_toArray, List.getElem_cons_succ, List.getElem_cons_zero, List.setIfInBounds_toArray, List.set_cons_zero, List.set_cons_succ])
                  refine wpAnyF_br (rs := [10]) (by kernel_rfl) (by simp) ?_
                  simp only [List.forall_mem_cons, List.not_mem_nil, false_imp_iff, implies_true, and_true]
                  · refine wpOp_step (o := _) rfl (fun K hK => ?_)
                    go_simp
                    refine hK _ (_) ⟨fun _ => hB, ?_⟩
                    clear hK K
                    (try simp only [Act.put, List.getElem_toArray, List.getElem_cons_succ, List.getElem_cons_zero, List.setIfInBounds_toArray, List.set_cons_zero, List.set_cons_succ])
                    refine wpAnyF_end (by kernel_rfl) (onNormal_mk ?_)
                    exact ⟨p9, p1, p6, p7, rfl, h9, hm, h7, h9b, h1b, h7b, hB⟩
    · refine wpOp_step (o := _) rfl (fun K hK => ?_)
      go_simp
      have hb : Below V.heap.size V (V.alloc (.cells #[] 3)) := bal (Below.refl _ _) _
      have h6 : True := trivial
      have h6b : W1.heap.size ≤ V.heap.size := hB.size
      replace hB := btr hB hb
      clear hb
      refine hK _ (V.alloc (.cells #[] 3)) ⟨fun _ => hB, ?_⟩
      clear hK K
      generalize V.alloc (.cells #[] 3) = V2 at *
      generalize V.heap.size = p6 at h6 h6b ⊢
      obtain ⟨V, rfl⟩ : ∃ X, X = V2 := ⟨_, rfl⟩
      (try simp only [Act.put, List.getElem_toArray, List.getElem_cons_succ, List.getElem_cons_zero, List.setIfInBounds_toArray, List.set_cons_zero, List.set_cons_succ])
      refine wpAnyF_br (rs := [1, 3, 7]) (by kernel_rfl) (by simp) ?_
      simp only [List.forall_mem_cons, List.not_mem_nil, false_imp_iff, implies_true, and_true]
      refine ⟨?_, ?_, ?_⟩
      · refine wpOp_step (o := _) rfl (fun K hK => ?_)
        go_simp
        have hb : Below V.heap.size V (V.alloc (.map #[] 0)) := bal (Below.refl _ _) _
        have hm := MapE.made V
        have h1b : W1.heap.size ≤ V.heap.size := hB.size
        replace hB := btr hB hb
        clear hb
        refine hK _ (V.alloc (.map #[] 0)) ⟨fun _ => hB, ?_⟩
        clear hK K
        generalize V.alloc (.map #[] 0) = V2 at *
        generalize V.heap.size = p1 at hm h1b ⊢
        obtain ⟨V, rfl⟩ : ∃ X, X = V2 := ⟨_, rfl⟩
        (try simp only [Act.put, List.getElem_toArray, List.getElem_cons_succ, List.getElem_cons_zero, List.setIfInBounds_toArray, List.set_cons_zero, List.set_cons_succ])
        refine wpAnyF_br (rs := [3, 7]) (by kernel_rfl) (by simp) ?_
        simp only [List.forall_mem_cons, List.not_mem_nil, false_imp_iff, implies_true, and_true]
        refine ⟨?_, ?_⟩
        · refine wpOp_step (o := _) rfl (fun K hK => ?_)
          go_simp
          refine (one_go V n).mono ?_
          rintro e V2 ⟨rfl, hb⟩
          replace hm := hm.keep (hb.block p1 (hm.lt.elim fun _ q => q.elim fun _ q => lt_of_block q))
          replace hB := btr hB hb
          clear hb
          refine hK _ (_) ⟨fun _ => hB, ?_⟩
          clear hK K
          obtain ⟨V, rfl⟩ : ∃ X, X = V2 := ⟨_, rfl⟩
          (try simp only [Act.put, List.getElem_toArray, List.getElem_cons_succ, List.getElem_cons_zero, List.setIfInBounds_toArray, List.set_cons_zero, List.set_cons_succ])
          refine wpAnyF_br (rs := [4, 7]) (by kernel_rfl) (by simp) ?_
          simp only [List.forall_mem_cons, List.not_mem_nil, false_imp_iff, implies_true, and_true]
          refine ⟨?_, ?_⟩
          · refine wpOp_step (o := _) rfl (fun K hK => ?_)
            obtain ⟨V2, hrun, hm2, hgr⟩ := hm.put (e := oneL) okOne (by simp [posE]) (by unfold maxLen; omega) (by simp)
            replace hrun : (Instr.mapUpdate 56 (.map (some p1)) (.agg (eC oneL)) (.int .i64 0)).run Tryd.prog V = .ok () V2 := hrun
            have hB2 : Below W1.heap.size W1 V2 := hB.grown hgr hB.size (fun j e => by injection e with e; subst e; exact h1b)
            clear hgr
            rw [if_pos (by rfl)]
            refine wp_insert _ _ _ rfl p1 oneL 0 (by go_simp) (by go_simp) (by go_simp) hrun ?_
            replace hm := hm2
            replace hB := hB2
            refine hK _ (_) ⟨fun _ => hB, ?_⟩
            clear hK K
            clear hm2 hB2 hrun
            obtain ⟨V, rfl⟩ : ∃ X, X = V2 := ⟨_, rfl⟩
            (try simp only [Act.put, List.getElem_toArray, List.getElem_cons_succ, List.getElem_cons_zero, List.setIfInBounds_toArray, List.set_cons_zero, List.set_cons_succ])
            refine wpAnyF_take (i := 5) (oi := _) (v := ?_) rfl (by kernel_rfl) (by kernel_rfl) (by kernel_rfl) (by kernel_rfl) (fun _ _ _ h => h) (Or.inl ⟨by rfl, ?_⟩) (by assumption) ?_
            rotate_left
            · intro V0 hSw
              (try dsimp only at hSw)
              go_simp
              all_goals with_reducible rfl
            (try simp only [Act.put, List.getElem_toArray, List.getElem_cons_succ, List.getElem_cons_zero, List.setIfInBounds_toArray, List.set_cons_zero, List.set_cons_succ])
            refine wpAnyF_br (rs := [7]) (by kernel_rfl) (by simp) ?_
            simp only [List.forall_mem_cons, List.not_mem_nil, false_imp_iff, implies_true, and_true]
            · refine wpOp_step (o := _) rfl (fun K hK => ?_)
              go_simp
              have hb : Below V.heap.size V (V.alloc (.cells #[.slice (some ⟨p6, 0, none⟩) 0 0] 23)) := bal (Below.refl _ _) _
              have h7 := new_at V (.cells #[.slice (some ⟨p6, 0, none⟩) 0 0] 23)
              have h7b : W1.heap.size ≤ V.heap.size := hB.size
              replace hm := hm.keep (hb.block p1 (hm.lt.elim fun _ q => q.elim fun _ q => lt_of_block q))
              replace hB := btr hB hb
              clear hb
              refine hK _ (V.alloc (.cells #[.slice (some ⟨p6, 0, none⟩) 0 0] 23)) ⟨fun _ => hB, ?_⟩
              clear hK K
              generalize V.alloc (.cells #[.slice (some ⟨p6, 0, none⟩) 0 0] 23) = V2 at *
              generalize V.heap.size = p7 at h7 h7b ⊢
              obtain ⟨V, rfl⟩ : ∃ X, X = V2 := ⟨_, rfl⟩
              (try simp only [Act.put, List.getElem_toArray, List.getElem_cons_succ, List.getElem_cons_zero, List.setIfInBounds_toArray, List.set_cons_zero, List.set_cons_succ])
              refine wpAnyF_br (rs := [8]) (by kernel_rfl) (by simp) ?_
              simp only [List.forall_mem_cons, List.not_mem_nil, false_imp_iff, implies_true, and_true]
              · refine wpOp_step (o := _) rfl (fun K hK => ?_)
                go_simp
                refine hK _ (_) ⟨fun _ => hB, ?_⟩
                clear hK K
                (try simp only [Act.put, List.getElem_toArray, List.getElem_cons_succ, List.getElem_cons_zero, List.setIfInBounds_toArray, List.set_cons_zero, List.set_cons_succ])
                refine wpAnyF_br (rs := [9]) (by kernel_rfl) (by simp) ?_
                simp only [List.forall_mem_cons, List.not_mem_nil, false_imp_iff, implies_true, and_true]
                · refine wpOp_step (o := _) rfl (fun K hK => ?_)
                  go_simp
                  have hb : Below V.heap.size V (V.alloc (.cells #[.int .u8 65, .int .i64 (n : Int), .slice (some ⟨p7, 0, none⟩) 1 1, .slice none 0 0, .map (some p1)] 58)) := bal (Below.refl _ _) _
                  have h9 := new_at V (.cells #[.int .u8 65, .int .i64 (n : Int), .slice (some ⟨p7, 0, none⟩) 1 1, .slice none 0 0, .map (some p1)] 58)
                  have h9b : W1.heap.size ≤ V.heap.size := hB.size
                  replace hm := hm.keep (hb.block p1 (hm.lt.elim fun _ q => q.elim fun _ q => lt_of_block q))
                  replace h7 := persist h7 hb
                  replace hB := btr hB hb
                  clear hb
                  refine hK _ (V.alloc (.cells #[.int .u8 65, .int .i64 (n : Int), .slice (some ⟨p7, 0, none⟩) 1 1, .slice none 0 0, .map (some p1)] 58)) ⟨fun _ => hB, ?_⟩
                  clear hK K
                  generalize V.alloc (.cells #[.int .u8 65, .int .i64 (n : Int), .slice (some ⟨p7, 0, none⟩) 1 1, .slice none 0 0, .map (some p1)] 58) = V2 at *
                  generalize V.heap.size = p9 at h9 h9b ⊢
                  obtain ⟨V, rfl⟩ : ∃ X, X = V2 := ⟨_, rfl⟩
                  (try simp only [Act.put, List.getElem_toArray, List.getElem_cons_succ, List.getElem_cons_zero, List.setIfInBounds_toArray, List.set_cons_zero, List.set_cons_succ])
                  refine wpAnyF_br (rs := [10]) (by kernel_rfl) (by simp) ?_
                  simp only [List.forall_mem_cons, List.not_mem_nil, false_imp_iff, implies_true, and_true]
                  · refine wpOp_step (o := _) rfl (fun K hK => ?_)
                    go_simp
                    refine hK _ (_) ⟨fun _ => hB, ?_⟩
                    clear hK K
                    (try simp only [Act.put, List.getElem_toArray, List.getElem_cons_succ, List.getElem_cons_zero, List.setIfInBounds_toArray, List.set_cons_zero, List.set_cons_succ])
                    refine wpAnyF_end (by kernel_rfl) (onNormal_mk ?_)
                    exact ⟨p9, p1, p6, p7, rfl, h9, hm, h7, h9b, h1b, h7b, hB⟩
          · refine wpOp_step (o := _) rfl (fun K hK => ?_)
            go_simp
            have hb : Below V.heap.size V (V.alloc (.cells #[.slice (some ⟨p6, 0, none⟩) 0 0] 23)) := bal (Below.refl _ _) _
            have h7 := new_at V (.cells #[.slice (some ⟨p6, 0, none⟩) 0 0] 23)
            have h7b : W1.heap.size ≤ V.heap.size := hB.size
            replace hm := hm.keep (hb.block p1 (hm.lt.elim fun _ q => q.elim fun _ q => lt_of_block q))
            replace hB := btr hB hb
            clear hb
            refine hK _ (V.alloc (.cells #[.slice (some ⟨p6, 0, none⟩) 0 0] 23)) ⟨fun _ => hB, ?_⟩
            clear hK K
            generalize V.alloc (.cells #[.slice (some ⟨p6, 0, none⟩) 0 0] 23) = V2 at *
            generalize V.heap.size = p7 at h7 h7b ⊢
            obtain ⟨V, rfl⟩ : ∃ X, X = V2 := ⟨_, rfl⟩
            (try simp only [Act.put, List.getElem_toArray, List.getElem_cons_succ, List.getElem_cons_zero, List.setIfInBounds_toArray, List.set_cons_zero, List.set_cons_succ])
            refine wpAnyF_br (rs := [4]) (by kernel_rfl) (by simp) ?_
            simp only [List.forall_mem_cons, List.not_mem_nil, false_imp_iff, implies_true, and_true]
            · refine wpOp_step (o := _) rfl (fun K hK => ?_)
              obtain ⟨V2, hrun, hm2, hgr⟩ := hm.put (e := oneL) okOne (by simp [posE]) (by unfold maxLen; omega) (by simp)
              replace hrun : (Instr.mapUpdate 56 (.map (some p1)) (.agg (eC oneL)) (.int .i64 0)).run Tryd.prog V = .ok () V2 := hrun
              have hB2 : Below W1.heap.size W1 V2 := hB.grown hgr hB.size (fun j e => by injection e with e; subst e; exact h1b)
              have h7 : V2.heap[p7]? = _ := (hgr.block p7 (lt_of_block h7) (fun e => by injection e with e; subst e; obtain ⟨es, clock, q⟩ := hm.lt; rw [q] at h7; cases h7)).trans h7
              clear hgr
              rw [if_pos (by rfl)]
              refine wp_insert _ _ _ rfl p1 oneL 0 (by go_simp) (by go_simp) (by go_simp) hrun ?_
              replace hm := hm2
              replace hB := hB2
              refine hK _ (_) ⟨fun _ => hB, ?_⟩
              clear hK K
              clear hm2 hB2 hrun
              obtain ⟨V, rfl⟩ : ∃ X, X = V2 := ⟨_, rfl⟩
              (try simp only [Act.put, List.getElem_toArray, List.getElem_cons_succ, List.getElem_cons_zero, List.setIfInBounds_toArray, List.set_cons_zero, List.set_cons_succ])
              refine wpAnyF_take (i := 5) (oi := _) (v := ?_) rfl (by kernel_rfl) (by kernel_rfl) (by kernel_rfl) (by kernel_rfl) (fun _ _ _ h => h) (Or.inl ⟨by rfl, ?_⟩) (by assumption) ?_
              rotate_left
              · intro V0 hSw
                (try dsimp only at hSw)
                go_simp
                all_goals with_reducible rfl
              (try simp only [Act.put, List.getElem_toArray, List.getElem_cons_succ, List.getElem_cons_zero, List.setIfInBounds_toArray, List.set_cons_zero, List.set_cons_succ])
              refine wpAnyF_br (rs := [8]) (by kernel_rfl) (by simp) ?_
              simp only [List.forall_mem_cons, List.not_mem_nil, false_imp_iff, implies_true, and_true]
              · refine wpOp_step (o := _) rfl (fun K hK => ?_)
                go_simp
                refine hK _ (_) ⟨fun _ => hB, ?_⟩
                clear hK K
                (try simp only [Act.put, List.getElem_toArray, List.getElem_cons_succ, List.getElem_cons_zero, List.setIfInBounds_toArray, List.set_cons_zero, List.set_cons_succ])
                refine wpAnyF_br (rs := [9]) (by kernel_rfl) (by simp) ?_
                simp only [List.forall_mem_cons, List.not_mem_nil, false_imp_iff, implies_true, and_true]
                · refine wpOp_step (o := _) rfl (fun K hK => ?_)
                  go_simp
                  have hb : Below V.heap.size V (V.alloc (.cells #[.int .u8 65, .int .i64 (n : Int), .slice (some ⟨p7, 0, none⟩) 1 1, .slice none 0 0, .map (some p1)] 58)) := bal (Below.refl _ _) _
                  have h9 := new_at V (.cells #[.int .u8 65, .int .i64 (n : Int), .slice (some ⟨p7, 0, none⟩) 1 1, .slice none 0 0, .map (some p1)] 58)
                  have h9b : W1.heap.size ≤ V.heap.size := hB.size
                  replace hm := hm.keep (hb.block p1 (hm.lt.elim fun _ q => q.elim fun _ q => lt_of_block q))
                  replace h7 := persist h7 hb
                  replace hB := btr hB hb
                  clear hb
                  refine hK _ (V.alloc (.cells #[.int .u8 65, .int .i64 (n : Int), .slice (some ⟨p7, 0, none⟩) 1 1, .slice none 0 0, .map (some p1)] 58)) ⟨fun _ => hB, ?_⟩
                  clear hK K
                  generalize V.alloc (.cells #[.int .u8 65, .int .i64 (n : Int), .slice (some ⟨p7, 0, none⟩) 1 1, .slice none 0 0, .map (some p1)] 58) = V2 at *
                  generalize V.heap.size = p9 at h9 h9b ⊢
                  obtain ⟨V, rfl⟩ : ∃ X, X = V2 := ⟨_, rfl⟩
                  (try simp only [Act.put, List.getElem_toArray, List.getElem_cons_succ, List.getElem_cons_zero, List.setIfInBounds_toArray, List.set_cons_zero, List.set_cons_succ])
                  refine wpAnyF_br (rs := [10]) (by kernel_rfl) (by simp) ?_
                  simp only [List.forall_mem_cons, List.not_mem_nil, false_imp_iff, implies_true, and_true]
                  · refine wpOp_step (o := _) rfl (fun K hK => ?_)
                    go_simp
                    refine hK _ (_) ⟨fun _ => hB, ?_⟩
                    clear hK K
                    (try simp only [Act.put, List.getElem_toArray, List.getElem_cons_succ, List.getElem_cons_zero, List.setIfInBounds_toArray, List.set_cons_zero, List.set_cons_succ])
                    refine wpAnyF_end (by kernel_rfl) (onNormal_mk ?_)
                    exact ⟨p9, p1, p6, p7, rfl, h9, hm, h7, h9b, h1b, h7b, hB⟩
        · refine wpOp_step (o := _) rfl (fun K hK => ?_)
          go_simp
          have hb : Below V.heap.size V (V.alloc (.cells #[.slice (some ⟨p6, 0, none⟩) 0 0] 23)) := bal (Below.refl _ _) _
          have h7 := new_at V (.cells #[.slice (some ⟨p6, 0, none⟩) 0 0] 23)
          have h7b : W1.heap.size ≤ V.heap.size := hB.size
          replace hm := hm.keep (hb.block p1 (hm.lt.elim fun _ q => q.elim fun _ q => lt_of_block q))
          replace hB := btr hB hb
          clear hb
          refine hK _ (V.alloc (.cells #[.slice (some ⟨p6, 0, none⟩) 0 0] 23)) ⟨fun _ => hB, ?_⟩
          clear hK K
          generalize V.alloc (.cells #[.slice (some ⟨p6, 0, none⟩) 0 0] 23) = V2 at *
          generalize V.heap.size = p7 at h7 h7b ⊢
          obtain ⟨V, rfl⟩ : ∃ X, X = V2 := ⟨_, rfl⟩
          (try simp only [Act.put, List.getElem_toArray, List.getElem_cons_succ, List.getElem_cons_zero, List.setIfInBounds_toArray, List.set_cons_zero, List.set_cons_succ])
          refine wpAnyF_br (rs := [3]) (by kernel_rfl) (by simp) ?_
          simp only [List.forall_mem_cons, List.not_mem_nil, false_imp_iff, implies_true, and_true]
          · refine wpOp_step (o := _) rfl (fun K hK => ?_)
            go_simp
            refine (one_go V n).mono ?_
            rintro e V2 ⟨rfl, hb⟩
            replace hm := hm.keep (hb.block p1 (hm.lt.elim fun _ q => q.elim fun _ q => lt_of_block q))
            replace h7 := persist h7 hb
            replace hB := btr hB hb
            clear hb
            refine hK _ (_) ⟨fun _ => hB, ?_⟩
            clear hK K
            obtain ⟨V, rfl⟩ : ∃ X, X = V2 := ⟨_, rfl⟩
            (try simp only [Act.put, List.getElem_toArray, List.getElem_cons_succ, List.getElem_cons_zero, List.setIfInBounds_toArray, List.set_cons_zero, List.set_cons_succ])
            refine wpAnyF_br (rs := [4]) (by kernel_rfl) (by simp) ?_
            simp only [List.forall_mem_cons, List.not_mem_nil, false_imp_iff, implies_true, and_true]
            · refine wpOp_step (o := _) rfl (fun K hK => ?_)
              obtain ⟨V2, hrun, hm2, hgr⟩ := hm.put (e := oneL) okOne (by simp [posE]) (by unfold maxLen; omega) (by simp)
              replace hrun : (Instr.mapUpdate 56 (.map (some p1)) (.agg (eC oneL)) (.int .i64 0)).run Tryd.prog V = .ok () V2 := hrun
              have hB2 : Below W1.heap.size W1 V2 := hB.grown hgr hB.size (fun j e => by injection e with e; subst e; exact h1b)
              have h7 : V2.heap[p7]? = _ := (hgr.block p7 (lt_of_block h7) (fun e => by injection e with e; subst e; obtain ⟨es, clock, q⟩ := hm.lt; rw [q] at h7; cases h7)).trans h7
              clear hgr
              rw [if_pos (by rfl)]
              refine wp_insert _ _ _ rfl p1 oneL 0 (by go_simp) (by go_simp) (by go_simp) hrun ?_
              replace hm := hm2
              replace hB := hB2
              refine hK _ (_) ⟨fun _ => hB, ?_⟩
              clear hK K
              clear hm2 hB2 hrun
              obtain ⟨V, rfl⟩ : ∃ X, X = V2 := ⟨_, rfl⟩
              (try simp only [Act.put, List.getElem_toArray, List.getElem_cons_succ, List.getElem_cons_zero, List.setIfInBounds_toArray, List.set_cons_zero, List.set_cons_succ])
              refine wpAnyF_take (i := 5) (oi := _) (v := ?_) rfl (by kernel_rfl) (by kernel_rfl) (by kernel_rfl) (by kernel_rfl) (fun _ _ _ h => h) (Or.inl ⟨by rfl, ?_⟩) (by assumption) ?_
              rotate_left
              · intro V0 hSw
                (try dsimp only at hSw)
                go_simp
                all_goals with_reducible rfl
              (try simp only [Act.put, List.getElem_toArray, List.getElem_cons_succ, List.getElem_cons_zero, List.setIfInBounds_toArray, List.set_cons_zero, List.set_cons_succ])
              refine wpAnyF_br (rs := [8]) (by kernel_rfl) (by simp) ?_
              simp only [List.forall_mem_cons, List.not_mem_nil, false_imp_iff, implies_true, and_true]
              · refine wpOp_step (o := _) rfl (fun K hK => ?_)
                go_simp
                refine hK _ (_) ⟨fun _ => hB, ?_⟩
                clear hK K
                (try simp only [Act.put, List.getElem_toArray, List.getElem_cons_succ, List.getElem_cons_zero, List.setIfInBounds_toArray, List.set_cons_zero, List.set_cons_succ])
                refine wpAnyF_br (rs := [9]) (by kernel_rfl) (by simp) ?_
                simp only [List.forall_mem_cons, List.not_mem_nil, false_imp_iff, implies_true, and_true]
                · refine wpOp_step (o := _) rfl (fun K hK => ?_)
                  go_simp
                  have hb : Below V.heap.size V (V.alloc (.cells #[.int .u8 65, .int .i64 (n : Int), .slice (some ⟨p7, 0, none⟩) 1 1, .slice none 0 0, .map (some p1)] 58)) := bal (Below.refl _ _) _
                  have h9 := new_at V (.cells #[.int .u8 65, .int .i64 (n : Int), .slice (some ⟨p7, 0, none⟩) 1 1, .slice none 0 0, .map (some p1)] 58)
                  have h9b : W1.heap.size ≤ V.heap.size := hB.size
                  replace hm := hm.keep (hb.block p1 (hm.lt.elim fun _ q => q.elim fun _ q => lt_of_block q))
                  replace h7 := persist h7 hb
                  replace hB := btr hB hb
                  clear hb
                  refine hK _ (V.alloc (.cells #[.int .u8 65, .int .i64 (n : Int), .slice (some ⟨p7, 0, none⟩) 1 1, .slice none 0 0, .map (some p1)] 58)) ⟨fun _ => hB, ?_⟩
                  clear hK K
                  generalize V.alloc (.cells #[.int .u8 65, .int .i64 (n : Int), .slice (some ⟨p7, 0, none⟩) 1 1, .slice none 0 0, .map (some p1)] 58) = V2 at *
                  generalize V.heap.size = p9 at h9 h9b ⊢
                  obtain ⟨V, rfl⟩ : ∃ X, X = V2 := ⟨_, rfl⟩
                  (try simp only [Act.put, List.getElem_toArray, List.getElem_cons_succ, List.getElem_cons_zero, List.setIfInBounds_toArray, List.set_cons_zero, List.set_cons_succ])
                  refine wpAnyF_br (rs := [10]) (by kernel_rfl) (by simp) ?_
                  simp only [List.forall_mem_cons, List.not_mem_nil, false_imp_iff, implies_true, and_true]
                  · refine wpOp_step (o := _) rfl (fun K hK => ?_)
                    go_simp
                    refine hK _ (_) ⟨fun _ => hB, ?_⟩
                    clear hK K
                    (try simp only [Act.put, List.getElem_toArray, List.getElem_cons_succ, List.getElem_cons_zero, List.setIfInBounds_toArray, List.set_cons_zero, List.set_cons_succ])
                    refine wpAnyF_end (by kernel_rfl) (onNormal_mk ?_)
                    exact ⟨p9, p1, p6, p7, rfl, h9, hm, h7, h9b, h1b, h7b, hB⟩
      · refine wpOp_step (o := _) rfl (fun K hK => ?_)
        go_simp
        refine (one_go V n).mono ?_
        rintro e V2 ⟨rfl, hb⟩
        replace hB := btr hB hb
        clear hb
        refine hK _ (_) ⟨fun _ => hB, ?_⟩
        clear hK K
        obtain ⟨V, rfl⟩ : ∃ X, X = V2 := ⟨_, rfl⟩
        (try simp only [Act.put, List.getElem_toArray, List.getElem_cons_succ, List.getElem_cons_zero, List.setIfInBounds_toArray, List.set_cons_zero, List.set_cons_succ])
        refine wpAnyF_br (rs := [1, 7]) (by kernel_rfl) (by simp) ?_
        simp only [List.forall_mem_cons, List.not_mem_nil, false_imp_iff, implies_true, and_true]
        refine ⟨?_, ?_⟩
        · refine wpOp_step (o := _) rfl (fun K hK => ?_)
          go_simp
          have hb : Below V.heap.size V (V.alloc (.map #[] 0)) := bal (Below.refl _ _) _
          have hm := MapE.made V
          have h1b : W1.heap.size ≤ V.heap.size := hB.size
          replace hB := btr hB hb
          clear hb
          refine hK _ (V.alloc (.map #[] 0)) ⟨fun _ => hB, ?_⟩
          clear hK K
          generalize V.alloc (.map #[] 0) = V2 at *
          generalize V.heap.size = p1 at hm h1b ⊢
          obtain ⟨V, rfl⟩ : ∃ X, X = V2 := ⟨_, rfl⟩
          (try simp only [Act.put, List.getElem_toArray, List.getElem_cons_succ, List.getElem_cons_zero, List.setIfInBounds_toArray, List.set_cons_zero, List.set_cons_succ])
          refine wpAnyF_br (rs := [4, 7]) (by kernel_rfl) (by simp) ?_
          simp only [List.forall_mem_cons, List.not_mem_nil, false_imp_iff, implies_true, and_true]
          refine ⟨?_, ?_⟩
          · refine wpOp_step (o := _) rfl (fun K hK => ?_)
            obtain ⟨V2, hrun, hm2, hgr⟩ := hm.put (e := oneL) okOne (by simp [posE]) (by unfold maxLen; omega) (by simp)
            replace hrun : (Instr.mapUpdate 56 (.map (some p1)) (.agg (eC oneL)) (.int .i64 0)).run Tryd.prog V = .ok () V2 := hrun
            have hB2 : Below W1.heap.size W1 V2 := hB.grown hgr hB.size (fun j e => by injection e with e; subst e; exact h1b)
            clear hgr
            rw [if_pos (by rfl)]
            refine wp_insert _ _ _ rfl p1 oneL 0 (by go_simp) (by go_simp) (by go_simp) hrun ?_
            replace hm := hm2
            replace hB := hB2
            refine hK _ (_) ⟨fun _ => hB, ?_⟩
            clear hK K
            clear hm2 hB2 hrun
            obtain ⟨V, rfl⟩ : ∃ X, X = V2 := ⟨_, rfl⟩
            (try simp only [Act.put, List.getElem_toArray, List.getElem_cons_succ, List.getElem_cons_zero, List.setIfInBounds_toArray, List.set_cons_zero, List.set_cons_succ])
            refine wpAnyF_take (i := 5) (oi := _) (v := ?_) rfl (by kernel_rfl) (by kernel_rfl) (by kernel_rfl) (by kernel_rfl) (fun _ _ _ h => h) (Or.inl ⟨by rfl, ?_⟩) (by assumption) ?_
            rotate_left
            · intro V0 hSw
              (try dsimp only at hSw)
              go_simp
              all_goals with_reducible rfl
            (try simp only [Act.put, List.getElem_toArray, List.getElem_cons_succ, List.getElem_cons_zero, List.setIfInBounds_toArray, List.set_cons_zero, List.set_cons_succ])
            refine wpAnyF_br (rs := [7]) (by kernel_rfl) (by simp) ?_
            simp only [List.forall_mem_cons, List.not_mem_nil, false_imp_iff, implies_true, and_true]
            · refine wpOp_step (o := _) rfl (fun K hK => ?_)
              go_simp
              have hb : Below V.heap.size V (V.alloc (.cells #[.slice (some ⟨p6, 0, none⟩) 0 0] 23)) := bal (Below.refl _ _) _
              have h7 := new_at V (.cells #[.slice (some ⟨p6, 0, none⟩) 0 0] 23)
              have h7b : W1.heap.size ≤ V.heap.size := hB.size
              replace hm := hm.keep (hb.block p1 (hm.lt.elim fun _ q => q.elim fun _ q => lt_of_block q))
              replace hB := btr hB hb
              clear hb
              refine hK _ (V.alloc (.cells #[.slice (some ⟨p6, 0, none⟩) 0 0] 23)) ⟨fun _ => hB, ?_⟩
              clear hK K
              generalize V.alloc (.cells #[.slice (some ⟨p6, 0, none⟩) 0 0] 23) = V2 at *
              generalize V.heap.size = p7 at h7 h7b ⊢
              obtain ⟨V, rfl⟩ : ∃ X, X = V2 := ⟨_, rfl⟩
              (try simp only [Act.put, List.getElem_toArray, List.getElem_cons_succ, List.getElem_cons_zero, List.setIfInBounds_toArray, List.set_cons_zero, List.set_cons_succ])
              refine wpAnyF_br (rs := [8]) (by kernel_rfl) (by simp) ?_
              simp only [List.forall_mem_cons, List.not_mem_nil, false_imp_iff, implies_true, and_true]
              · refine wpOp_step (o := _) rfl (fun K hK => ?_)
                go_simp
                refine hK _ (_) ⟨fun _ => hB, ?_⟩
                clear hK K
                (try simp only [Act.put, List.getElem_toArray, List.getElem_cons_succ, List.getElem_cons_zero, List.setIfInBounds_toArray, List.set_cons_zero, List.set_cons_succ])
                refine wpAnyF_br (rs := [9]) (by kernel_rfl) (by simp) ?_
                simp only [List.forall_mem_cons, List.not_mem_nil, false_imp_iff, implies_true, and_true]
                · refine wpOp_step (o := _) rfl (fun K hK => ?_)
                  go_simp
                  have hb : Below V.heap.size V (V.alloc (.cells #[.int .u8 65, .int .i64 (n : Int), .slice (some ⟨p7, 0, none⟩) 1 1, .slice none 0 0, .map (some p1)] 58)) := bal (Below.refl _ _) _
                  have h9 := new_at V (.cells #[.int .u8 65, .int .i64 (n : Int), .slice (some ⟨p7, 0, none⟩) 1 1, .slice none 0 0, .map (some p1)] 58)
                  have h9b : W1.heap.size ≤ V.heap.size := hB.size
                  replace hm := hm.keep (hb.block p1 (hm.lt.elim fun _ q => q.elim fun _ q => lt_of_block q))
                  replace h7 := persist h7 hb
                  replace hB := btr hB hb
                  clear hb
                  refine hK _ (V.alloc (.cells #[.int .u8 65, .int .i64 (n : Int), .slice (some ⟨p7, 0, none⟩) 1 1, .slice none 0 0, .map (some p1)] 58)) ⟨fun _ => hB, ?_⟩
                  clear hK K
                  generalize V.alloc (.cells #[.int .u8 65, .int .i64 (n : Int), .slice (some ⟨p7, 0, none⟩) 1 1, .slice none 0 0, .map (some p1)] 58) = V2 at *
                  generalize V.heap.size = p9 at h9 h9b ⊢
                  obtain ⟨V, rfl⟩ : ∃ X, X = V2 := ⟨_, rfl⟩
                  (try simp only [Act.put, List.getElem_toArray, List.getElem_cons_succ, List.getElem_cons_zero, List.setIfInBounds_toArray, List.set_cons_zero, List.set_cons_succ])
                  refine wpAnyF_br (rs := [10]) (by kernel_rfl) (by simp) ?_
                  simp only [List.forall_mem_cons, List.not_mem_nil, false_imp_iff, implies_true, and_true]
                  · refine wpOp_step (o := _) rfl (fun K hK => ?_)
                    go_simp
                    refine hK _ (_) ⟨fun _ => hB, ?_⟩
                    clear hK K
                    (try simp only [Act.put, List.getElem_toArray, List.getElem_cons_succ, List.getElem_cons_zero, List.setIfInBounds_toArray, List.set_cons_zero, List.set_cons_succ])
                    refine wpAnyF_end (by kernel_rfl) (onNormal_mk ?_)
                    exact ⟨p9, p1, p6, p7, rfl, h9, hm, h7, h9b, h1b, h7b, hB⟩
          · refine wpOp_step (o := _) rfl (fun K hK => ?_)
            go_simp
            have hb : Below V.heap.size V (V.alloc (.cells #[.slice (some ⟨p6, 0, none⟩) 0 0] 23)) := bal (Below.refl _ _) _
            have h7 := new_at V (.cells #[.slice (some ⟨p6, 0, none⟩) 0 0] 23)
            have h7b : W1.heap.size ≤ V.heap.size := hB.size
            replace hm := hm.keep (hb.block p1 (hm.lt.elim fun _ q => q.elim fun _ q => lt_of_block q))
            replace hB := btr hB hb
            clear hb
            refine hK _ (V.alloc (.cells #[.slice (some ⟨p6, 0, none⟩) 0 0] 23)) ⟨fun _ => hB, ?_⟩
            clear hK K
            generalize V.alloc (.cells #[.slice (some ⟨p6, 0, none⟩) 0 0] 23) = V2 at *
            generalize V.heap.size = p7 at h7 h7b ⊢
            obtain ⟨V, rfl⟩ : ∃ X, X = V2 := ⟨_, rfl⟩
            (try simp only [Act.put, List.getElem_toArray, List.getElem_cons_succ, List.getElem_cons_zero, List.setIfInBounds_toArray, List.set_cons_zero, List.set_cons_succ])
            refine wpAnyF_br (rs := [4]) (by kernel_rfl) (by simp) ?_
            simp only [List.forall_mem_cons, List.not_mem_nil, false_imp_iff, implies_true, and_true]
            · refine wpOp_step (o := _) rfl (fun K hK => ?_)
              obtain ⟨V2, hrun, hm2, hgr⟩ := hm.put (e := oneL) okOne (by simp [posE]) (by unfold maxLen; omega) (by simp)
              replace hrun : (Instr.mapUpdate 56 (.map (some p1)) (.agg (eC oneL)) (.int .i64 0)).run Tryd.prog V = .ok () V2 := hrun
              have hB2 : Below W1.heap.size W1 V2 := hB.grown hgr hB.size (fun j e => by injection e with e; subst e; exact h1b)
              have h7 : V2.heap[p7]? = _ := (hgr.block p7 (lt_of_block h7) (fun e => by injection e with e; subst e; obtain ⟨es, clock, q⟩ := hm.lt; rw [q] at h7; cases h7)).trans h7
              clear hgr
              rw [if_pos (by rfl)]
              refine wp_insert _ _ _ rfl p1 oneL 0 (by go_simp) (by go_simp) (by go_simp) hrun ?_
              replace hm := hm2
              replace hB := hB2
              refine hK _ (_) ⟨fun _ => hB, ?_⟩
              clear hK K
              clear hm2 hB2 hrun
              obtain ⟨V, rfl⟩ : ∃ X, X = V2 := ⟨_, rfl⟩
              (try simp only [Act.put, List.getElem_toArray, List.getElem_cons_succ, List.getElem_cons_zero, List.setIfInBounds_toArray, List.set_cons_zero, List.set_cons_succ])
              refine wpAnyF_take (i := 5) (oi := _) (v := ?_) rfl (by kernel_rfl) (by kernel_rfl) (by kernel_rfl) (by kernel_rfl) (fun _ _ _ h => h) (Or.inl ⟨by rfl, ?_⟩) (by assumption) ?_
              rotate_left
              · intro V0 hSw
                (try dsimp only at hSw)
                go_simp
                all_goals with_reducible rfl
              (try simp only [Act.put, List.getElem_toArray, List.getElem_cons_succ, List.getElem_cons_zero, List.setIfInBounds_toArray, List.set_cons_zero, List.set_cons_succ])
              refine wpAnyF_br (rs := [8]) (by kernel_rfl) (by simp) ?_
              simp only [List.forall_mem_cons, List.not_mem_nil, false_imp_iff, implies_true, and_true]
              · refine wpOp_step (o := _) rfl (fun K hK => ?_)
                go_simp
                refine hK _ (_) ⟨fun _ => hB, ?_⟩
                clear hK K
                (try simp only [Act.put, List.getElem_toArray, List.getElem_cons_succ, List.getElem_cons_zero, List.setIfInBounds_toArray, List.set_cons_zero, List.set_cons_succ])
                refine wpAnyF_br (rs := [9]) (by kernel_rfl) (by simp) ?_
                simp only [List.forall_mem_cons, List.not_mem_nil, false_imp_iff, implies_true, and_true]
                · refine wpOp_step (o := _) rfl (fun K hK => ?_)
                  go_simp
                  have hb : Below V.heap.size V (V.alloc (.cells #[.int .u8 65, .int .i64 (n : Int), .slice (some ⟨p7, 0, none⟩) 1 1, .slice none 0 0, .map (some p1)] 58)) := bal (Below.refl _ _) _
                  have h9 := new_at V (.cells #[.int .u8 65, .int .i64 (n : Int), .slice (some ⟨p7, 0, none⟩) 1 1, .slice none 0 0, .map (some p1)] 58)
                  have h9b : W1.heap.size ≤ V.heap.size := hB.size
                  replace hm := hm.keep (hb.block p1 (hm.lt.elim fun _ q => q.elim fun _ q => lt_of_block q))
                  replace h7 := persist h7 hb
                  replace hB := btr hB hb
                  clear hb
                  refine hK _ (V.alloc (.cells #[.int .u8 65, .int .i64 (n : Int), .slice (some ⟨p7, 0, none⟩) 1 1, .slice none 0 0, .map (some p1)] 58)) ⟨fun _ => hB, ?_⟩
                  clear hK K
                  generalize V.alloc (.cells #[.int .u8 65, .int .i64 (n : Int), .slice (some ⟨p7, 0, none⟩) 1 1, .slice none 0 0, .map (some p1)] 58) = V2 at *
                  generalize V.heap.size = p9 at h9 h9b ⊢
                  obtain ⟨V, rfl⟩ : ∃ X, X = V2 := ⟨_, rfl⟩
                  (try simp only [Act.put, List.getElem_toArray, List.getElem_cons_succ, List.getElem_cons_zero, List.setIfInBounds_toArray, List.set_cons_zero, List.set_cons_succ])
                  refine wpAnyF_br (rs := [10]) (by kernel_rfl) (by simp) ?_
                  simp only [List.forall_mem_cons, List.not_mem_nil, false_imp_iff, implies_true, and_true]
                  · refine wpOp_step (o := _) rfl (fun K hK => ?_)
                    go_simp
                    refine hK _ (_) ⟨fun _ => hB, ?_⟩
                    clear hK K
                    (try simp only [Act.put, List.getElem_toArray, List.getElem_cons_succ, List.getElem_cons_zero, List.setIfInBounds_toArray, List.set_cons_zero, List.set_cons_succ])
                    refine wpAnyF_end (by kernel_rfl) (onNormal_mk ?_)
                    exact ⟨p9, p1, p6, p7, rfl, h9, hm, h7, h9b, h1b, h7b, hB⟩
        · refine wpOp_step (o := _) rfl (fun K hK => ?_)
          go_simp
          have hb : Below V.heap.size V (V.alloc (.cells #[.slice (some ⟨p6, 0, none⟩) 0 0] 23)) := bal (Below.refl _ _) _
          have h7 := new_at V (.cells #[.slice (some ⟨p6, 0, none⟩) 0 0] 23)
          have h7b : W1.heap.size ≤ V.heap.size := hB.size
          replace hB := btr hB hb
          clear hb
          refine hK _ (V.alloc (.cells #[.slice (some ⟨p6, 0, none⟩) 0 0] 23)) ⟨fun _ => hB, ?_⟩
          clear hK K
          generalize V.alloc (.cells #[.slice (some ⟨p6, 0, none⟩) 0 0] 23) = V2 at *
          generalize V.heap.size = p7 at h7 h7b ⊢
          obtain ⟨V, rfl⟩ : ∃ X, X = V2 := ⟨_, rfl⟩
          (try simp only [Act.put, List.getElem_toArray, List.getElem_cons_succ, List.getElem_cons_zero, List.setIfInBounds_toArray, List.set_cons_zero, List.set_cons_succ])
          refine wpAnyF_br (rs := [1]) (by kernel_rfl) (by simp) ?_
          simp only [List.forall_mem_cons, List.not_mem_nil, false_imp_iff, implies_true, and_true]
          · refine wpOp_step (o := _) rfl (fun K hK => ?_)
            go_simp
            have hb : Below V.heap.size V (V.alloc (.map #[] 0)) := bal (Below.refl _ _) _
            have hm := MapE.made V
            have h1b : W1.heap.size ≤ V.heap.size := hB.size
            replace h7 := persist h7 hb
            replace hB := btr hB hb
            clear hb
            refine hK _ (V.alloc (.map #[] 0)) ⟨fun _ => hB, ?_⟩
            clear hK K
            generalize V.alloc (.map #[] 0) = V2 at *
            generalize V.heap.size = p1 at hm h1b ⊢
            obtain ⟨V, rfl⟩ : ∃ X, X = V2 := ⟨_, rfl⟩
            (try simp only [Act.put, List.getElem_toArray, List.getElem_cons_succ, List.getElem_cons_zero, List.setIfInBounds_toArray, List.set_cons_zero, List.set_cons_succ])
            refine wpAnyF_br (rs := [4]) (by kernel_rfl) (by simp) ?_
            simp only [List.forall_mem_cons, List.not_mem_nil, false_imp_iff, implies_true, and_true]
            · refine wpOp_step (o := _) rfl (fun K hK => ?_)
              obtain ⟨V2, hrun, hm2, hgr⟩ := hm.put (e := oneL) okOne (by simp [posE]) (by unfold maxLen; omega) (by simp)
              replace hrun : (Instr.mapUpdate 56 (.map (some p1)) (.agg (eC oneL)) (.int .i64 0)).run Tryd.prog V = .ok () V2 := hrun
              have hB2 : Below W1.heap.size W1 V2 := hB.grown hgr hB.size (fun j e => by injection e with e; subst e; exact h1b)
              have h7 : V2.heap[p7]? = _ := (hgr.block p7 (lt_of_block h7) (fun e => by injection e with e; subst e; obtain ⟨es, clock, q⟩ := hm.lt; rw [q] at h7; cases h7)).trans h7
              clear hgr
              rw [if_pos (by rfl)]
              refine wp_insert _ _ _ rfl p1 oneL 0 (by go_simp) (by go_simp) (by go_simp) hrun ?_
              replace hm := hm2
              replace hB := hB2
              refine hK _ (_) ⟨fun _ => hB, ?_⟩
              clear hK K
              clear hm2 hB2 hrun
              obtain ⟨V, rfl⟩ : ∃ X, X = V2 := ⟨_, rfl⟩
              (try simp only [Act.put, List.getElem_toArray, List.getElem_cons_succ, List.getElem_cons_zero, List.setIfInBounds_toArray, List.set_cons_zero, List.set_cons_succ])
              refine wpAnyF_take (i := 5) (oi := _) (v := ?_) rfl (by kernel_rfl) (by kernel_rfl) (by kernel_rfl) (by kernel_rfl) (fun _ _ _ h => h) (Or.inl ⟨by rfl, ?_⟩) (by assumption) ?_
              rotate_left
              · intro V0 hSw
                (try dsimp only at hSw)
                go_simp
                all_goals with_reducible rfl
              (try simp only [Act.put, List.getElem_toArray, List.getElem_cons_succ, List.getElem_cons_zero, List.setIfInBounds_toArray, List.set_cons_zero, List.set_cons_succ])
              refine wpAnyF_br (rs := [8]) (by kernel_rfl) (by simp) ?_
              simp only [List.forall_mem_cons, List.not_mem_nil, false_imp_iff, implies_true, and_true]
              · refine wpOp_step (o := _) rfl (fun K hK => ?_)
                go_simp
                refine hK _ (_) ⟨fun _ => hB, ?_⟩
                clear hK K
                (try simp only [Act.put, List.getElem_toArray, List.getElem_cons_succ, List.getElem_cons_zero, List.setIfInBounds_toArray, List.set_cons_zero, List.set_cons_succ])
                refine wpAnyF_br (rs := [9]) (by kernel_rfl) (by simp) ?_
                simp only [List.forall_mem_cons, List.not_mem_nil, false_imp_iff, implies_true, and_true]
                · refine wpOp_step (o := _) rfl (fun K hK => ?_)
                  go_simp
                  have hb : Below V.heap.size V (V.alloc (.cells #[.int .u8 65, .int .i64 (n : Int), .slice (some ⟨p7, 0, none⟩) 1 1, .slice none 0 0, .map (some p1)] 58)) := bal (Below.refl _ _) _
                  have h9 := new_at V (.cells #[.int .u8 65, .int .i64 (n : Int), .slice (some ⟨p7, 0, none⟩) 1 1, .slice none 0 0, .map (some p1)] 58)
                  have h9b : W1.heap.size ≤ V.heap.size := hB.size
                  replace hm := hm.keep (hb.block p1 (hm.lt.elim fun _ q => q.elim fun _ q => lt_of_block q))
                  replace h7 := persist h7 hb
                  replace hB := btr hB hb
                  clear hb
                  refine hK _ (V.alloc (.cells #[.int .u8 65, .int .i64 (n : Int), .slice (some ⟨p7, 0, none⟩) 1 1, .slice none 0 0, .map (some p1)] 58)) ⟨fun _ => hB, ?_⟩
                  clear hK K
                  generalize V.alloc (.cells #[.int .u8 65, .int .i64 (n : Int), .slice (some ⟨p7, 0, none⟩) 1 1, .slice none 0 0, .map (some p1)] 58) = V2 at *
                  generalize V.heap.size = p9 at h9 h9b ⊢
                  obtain ⟨V, rfl⟩ : ∃ X, X = V2 := ⟨_, rfl⟩
                  (try simp only [Act.put, List.getElem_toArray, List.getElem_cons_succ, List.getElem_cons_zero, List.setIfInBounds_toArray, List.set_cons_zero, List.set_cons_succ])
                  refine wpAnyF_br (rs := [10]) (by kernel_rfl) (by simp) ?_
                  simp only [List.forall_mem_cons, List.not_mem_nil, false_imp_iff, implies_true, and_true]
                  · refine wpOp_step (o := _) rfl (fun K hK => ?_)
                    go_simp
                    refine hK _ (_) ⟨fun _ => hB, ?_⟩
                    clear hK K
                    (try simp only [Act.put, List.getElem_toArray, List.getElem_cons_succ, List.getElem_cons_zero, List.setIfInBounds_toArray, List.set_cons_zero, List.set_cons_succ])
                    refine wpAnyF_end (by kernel_rfl) (onNormal_mk ?_)
                    exact ⟨p9, p1, p6, p7, rfl, h9, hm, h7, h9b, h1b, h7b, hB⟩
      · refine wpOp_step (o := _) rfl (fun K hK => ?_)
        go_simp
        have hb : Below V.heap.size V (V.alloc (.cells #[.slice (some ⟨p6, 0, none⟩) 0 0] 23)) := bal (Below.refl _ _) _
        have h7 := new_at V (.cells #[.slice (some ⟨p6, 0, none⟩) 0 0] 23)
        have h7b : W1.heap.size ≤ V.heap.size := hB.size
        replace hB := btr hB hb
        clear hb
        refine hK _ (V.alloc (.cells #[.slice (some ⟨p6, 0, none⟩) 0 0] 23)) ⟨fun _ => hB, ?_⟩
        clear hK K
        generalize V.alloc (.cells #[.slice (some ⟨p6, 0, none⟩) 0 0] 23) = V2 at *
        generalize V.heap.size = p7 at h7 h7b ⊢
        obtain ⟨V, rfl⟩ : ∃ X, X = V2 := ⟨_, rfl⟩
        (try simp only [Act.put, List.getElem_toArray, List.getElem_cons_succ, List.getElem_cons_zero, List.setIfInBounds_toArray, List.set_cons_zero, List.set_cons_succ])
        refine wpAnyF_br (rs := [1, 3]) (by kernel_rfl) (by simp) ?_
        simp only [List.forall_mem_cons, List.not_mem_nil, false_imp_iff, implies_true, and_true]
        refine ⟨?_, ?_⟩
        · refine wpOp_step (o := _) rfl (fun K hK => ?_)
          go_simp
          have hb : Below V.heap.size V (V.alloc (.map #[] 0)) := bal (Below.refl _ _) _
          have hm := MapE.made V
          have h1b : W1.heap.size ≤ V.heap.size := hB.size
          replace h7 := persist h7 hb
          replace hB := btr hB hb
          clear hb
          refine hK _ (V.alloc (.map #[] 0)) ⟨fun _ => hB, ?_⟩
          clear hK K
          generalize V.alloc (.map #[] 0) = V2 at *
          generalize V.heap.size = p1 at hm h1b ⊢
          obtain ⟨V, rfl⟩ : ∃ X, X = V2 := ⟨_, rfl⟩
          (try simp only [Act.put, List.getElem_toArray, List.getElem_cons_succ, List.getElem_cons_zero, List.setIfInBounds_toArray, List.set_cons_zero, List.set_cons_succ])
          refine wpAnyF_br (rs := [3]) (by kernel_rfl) (by simp) ?_
          simp only [List.forall_mem_cons, List.not_mem_nil, false_imp_iff, implies_true, and_true]
          · refine wpOp_step (o := _) rfl (fun K hK => ?_)
            go_simp
            refine (one_go V n).mono ?_
            rintro e V2 ⟨rfl, hb⟩
            replace hm := hm.keep (hb.block p1 (hm.lt.elim fun _ q => q.elim fun _ q => lt_of_block q))
            replace h7 := persist h7 hb
            replace hB := btr hB hb
            clear hb
            refine hK _ (_) ⟨fun _ => hB, ?_⟩
            clear hK K
            obtain ⟨V, rfl⟩ : ∃ X, X = V2 := ⟨_, rfl⟩
            (try simp only [Act.put, List.getElem_toArray, List.getElem_cons_succ, List.getElem_cons_zero, List.setIfInBounds_toArray, List.set_cons_zero, List.set_cons_succ])
            refine wpAnyF_br (rs := [4]) (by kernel_rfl) (by simp) ?_
            simp only [List.forall_mem_cons, List.not_mem_nil, false_imp_iff, implies_true, and_true]
            · refine wpOp_step (o := _) rfl (fun K hK => ?_)
              obtain ⟨V2, hrun, hm2, hgr⟩ := hm.put (e := oneL) okOne (by simp [posE]) (by unfold maxLen; omega) (by simp)
              replace hrun : (Instr.mapUpdate 56 (.map (some p1)) (.agg (eC oneL)) (.int .i64 0)).run Tryd.prog V = .ok () V2 := hrun
              have hB2 : Below W1.heap.size W1 V2 := hB.grown hgr hB.size (fun j e => by injection e with e; subst e; exact h1b)
              have h7 : V2.heap[p7]? = _ := (hgr.block p7 (lt_of_block h7) (fun e => by injection e with e; subst e; obtain ⟨es, clock, q⟩ := hm.lt; rw [q] at h7; cases h7)).trans h7
              clear hgr
              rw [if_pos (by rfl)]
              refine wp_insert _ _ _ rfl p1 oneL 0 (by go_simp) (by go_simp) (by go_simp) hrun ?_
              replace hm := hm2
              replace hB := hB2
              refine hK _ (_) ⟨fun _ => hB, ?_⟩
              clear hK K
              clear hm2 hB2 hrun
              obtain ⟨V, rfl⟩ : ∃ X, X = V2 := ⟨_, rfl⟩
              (try simp only [Act.put, List.getElem_toArray, List.getElem_cons_succ, List.getElem_cons_zero, List.setIfInBounds_toArray, List.set_cons_zero, List.set_cons_succ])
              refine wpAnyF_take (i := 5) (oi := _) (v := ?_) rfl (by kernel_rfl) (by kernel_rfl) (by kernel_rfl) (by kernel_rfl) (fun _ _ _ h => h) (Or.inl ⟨by rfl, ?_⟩) (by assumption) ?_
              rotate_left
              · intro V0 hSw
                (try dsimp only at hSw)
                go_simp
                all_goals with_reducible rfl
              (try simp only [Act.put, List.getElem_toArray, List.getElem_cons_succ, List.getElem_cons_zero, List.setIfInBounds_toArray, List.set_cons_zero, List.set_cons_succ])
              refine wpAnyF_br (rs := [8]) (by kernel_rfl) (by simp) ?_
              simp only [List.forall_mem_cons, List.not_mem_nil, false_imp_iff, implies_true, and_true]
              · refine wpOp_step (o := _) rfl (fun K hK => ?_)
                go_simp
                refine hK _ (_) ⟨fun _ => hB, ?_⟩
                clear hK K
                (try simp only [Act.put, List.getElem_toArray, List.getElem_cons_succ, List.getElem_cons_zero, List.setIfInBounds_toArray, List.set_cons_zero, List.set_cons_succ])
                refine wpAnyF_br (rs := [9]) (by kernel_rfl) (by simp) ?_
                simp only [List.forall_mem_cons, List.not_mem_nil, false_imp_iff, implies_true, and_true]
                · refine wpOp_step (o := _) rfl (fun K hK => ?_)
                  go_simp
                  have hb : Below V.heap.size V (V.alloc (.cells #[.int .u8 65, .int .i64 (n : Int), .slice (some ⟨p7, 0, none⟩) 1 1, .slice none 0 0, .map (some p1)] 58)) := bal (Below.refl _ _) _
                  have h9 := new_at V (.cells #[.int .u8 65, .int .i64 (n : Int), .slice (some ⟨p7, 0, none⟩) 1 1, .slice none 0 0, .map (some p1)] 58)
                  have h9b : W1.heap.size ≤ V.heap.size := hB.size
                  replace hm := hm.keep (hb.block p1 (hm.lt.elim fun _ q => q.elim fun _ q => lt_of_block q))
                  replace h7 := persist h7 hb
                  replace hB := btr hB hb
                  clear hb
                  refine hK _ (V.alloc (.cells #[.int .u8 65, .int .i64 (n : Int), .slice (some ⟨p7, 0, none⟩) 1 1, .slice none 0 0, .map (some p1)] 58)) ⟨fun _ => hB, ?_⟩
                  clear hK K
                  generalize V.alloc (.cells #[.int .u8 65, .int .i64 (n : Int), .slice (some ⟨p7, 0, none⟩) 1 1, .slice none 0 0, .map (some p1)] 58) = V2 at *
                  generalize V.heap.size = p9 at h9 h9b ⊢
                  obtain ⟨V, rfl⟩ : ∃ X, X = V2 := ⟨_, rfl⟩
                  (try simp only [Act.put, List.getElem_toArray, List.getElem_cons_succ, List.getElem_cons_zero, List.setIfInBounds_toArray, List.set_cons_zero, List.set_cons_succ])
                  refine wpAnyF_br (rs := [10]) (by kernel_rfl) (by simp) ?_
                  simp only [List.forall_mem_cons, List.not_mem_nil, false_imp_iff, implies_true, and_true]
                  · refine wpOp_step (o := _) rfl (fun K hK => ?_)
                    go_simp
                    refine hK _ (_) ⟨fun _ => hB, ?_⟩
                    clear hK K
                    (try simp only [Act.put, List.getElem_toArray, List.getElem_cons_succ, List.getElem_cons_zero, List.setIfInBounds_toArray, List.set_cons_zero, List.set_cons_succ])
                    refine wpAnyF_end (by kernel_rfl) (onNormal_mk ?_)
                    exact ⟨p9, p1, p6, p7, rfl, h9, hm, h7, h9b, h1b, h7b, hB⟩
        · refine wpOp_step (o := _) rfl (fun K hK => ?_)
          go_simp
          refine (one_go V n).mono ?_
          rintro e V2 ⟨rfl, hb⟩
          replace h7 := persist h7 hb
          replace hB := btr hB hb
          clear hb
          refine hK _ (_) ⟨fun _ => hB, ?_⟩
          clear hK K
          obtain ⟨V, rfl⟩ : ∃ X, X = V2 := ⟨_, rfl⟩
          (try simp only [Act.put, List.getElem_toArray, List.getElem_cons_succ, List.getElem_cons_zero, List.setIfInBounds_toArray, List.set_cons_zero, List.set_cons_succ])
          refine wpAnyF_br (rs := [1]) (by kernel_rfl) (by simp) ?_
          simp only [List.forall_mem_cons, List.not_mem_nil, false_imp_iff, implies_true, and_true]
          · refine wpOp_step (o := _) rfl (fun K hK => ?_)
            go_simp
            have hb : Below V.heap.size V (V.alloc (.map #[] 0)) := bal (Below.refl _ _) _
            have hm := MapE.made V
            have h1b : W1.heap.size ≤ V.heap.size := hB.size
            replace h7 := persist h7 hb
            replace hB := btr hB hb
            clear hb
            refine hK _ (V.alloc (.map #[] 0)) ⟨fun _ => hB, ?_⟩
            clear hK K
            generalize V.alloc (.map #[] 0) = V2 at *
            generalize V.heap.size = p1 at hm h1b ⊢
            obtain ⟨V, rfl⟩ : ∃ X, X = V2 := ⟨_, rfl⟩
            (try simp only [Act.put, List.getElem_toArray, List.getElem_cons_succ, List.getElem_cons_zero, List.setIfInBounds_toArray, List.set_cons_zero, List.set_cons_succ])
            refine wpAnyF_br (rs := [4]) (by kernel_rfl) (by simp) ?_
            simp only [List.forall_mem_cons, List.not_mem_nil, false_imp_iff, implies_true, and_true]
            · refine wpOp_step (o := _) rfl (fun K hK => ?_)
              obtain ⟨V2, hrun, hm2, hgr⟩ := hm.put (e := oneL) okOne (by simp [posE]) (by unfold maxLen; omega) (by simp)
              replace hrun : (Instr.mapUpdate 56 (.map (some p1)) (.agg (eC oneL)) (.int .i64 0)).run Tryd.prog V = .ok () V2 := hrun
              have hB2 : Below W1.heap.size W1 V2 := hB.grown hgr hB.size (fun j e => by injection e with e; subst e; exact h1b)
              have h7 : V2.heap[p7]? = _ := (hgr.block p7 (lt_of_block h7) (fun e => by injection e with e; subst e; obtain ⟨es, clock, q⟩ := hm.lt; rw [q] at h7; cases h7)).trans h7
              clear hgr
              rw [if_pos (by rfl)]
              refine wp_insert _ _ _ rfl p1 oneL 0 (by go_simp) (by go_simp) (by go_simp) hrun ?_
              replace hm := hm2
              replace hB := hB2
              refine hK _ (_) ⟨fun _ => hB, ?_⟩
              clear hK K
              clear hm2 hB2 hrun
              obtain ⟨V, rfl⟩ : ∃ X, X = V2 := ⟨_, rfl⟩
              (try simp only [Act.put, List.getElem_toArray, List.getElem_cons_succ, List.getElem_cons_zero, List.setIfInBounds_toArray, List.set_cons_zero, List.set_cons_succ])
              refine wpAnyF_take (i := 5) (oi := _) (v := ?_) rfl (by kernel_rfl) (by kernel_rfl) (by kernel_rfl) (by kernel_rfl) (fun _ _ _ h => h) (Or.inl ⟨by rfl, ?_⟩) (by assumption) ?_
              rotate_left
              · intro V0 hSw
                (try dsimp only at hSw)
                go_simp
                all_goals with_reducible rfl
              (try simp only [Act.put, List.getElem_toArray, List.getElem_cons_succ, List.getElem_cons_zero, List.setIfInBounds_toArray, List.set_cons_zero, List.set_cons_succ])
              refine wpAnyF_br (rs := [8]) (by kernel_rfl) (by simp) ?_
              simp only [List.forall_mem_cons, List.not_mem_nil, false_imp_iff, implies_true, and_true]
              · refine wpOp_step (o := _) rfl (fun K hK => ?_)
                go_simp
                refine hK _ (_) ⟨fun _ => hB, ?_⟩
                clear hK K
                (try simp only [Act.put, List.getElem_toArray, List.getElem_cons_succ, List.getElem_cons_zero, List.setIfInBounds_toArray, List.set_cons_zero, List.set_cons_succ])
                refine wpAnyF_br (rs := [9]) (by kernel_rfl) (by simp) ?_
                simp only [List.forall_mem_cons, List.not_mem_nil, false_imp_iff, implies_true, and_true]
                · refine wpOp_step (o := _) rfl (fun K hK => ?_)
                  go_simp
                  have hb : Below V.heap.size V (V.alloc (.cells #[.int .u8 65, .int .i64 (n : Int), .slice (some ⟨p7, 0, none⟩) 1 1, .slice none 0 0, .map (some p1)] 58)) := bal (Below.refl _ _) _
                  have h9 := new_at V (.cells #[.int .u8 65, .int .i64 (n : Int), .slice (some ⟨p7, 0, none⟩) 1 1, .slice none 0 0, .map (some p1)] 58)
                  have h9b : W1.heap.size ≤ V.heap.size := hB.size
                  replace hm := hm.keep (hb.block p1 (hm.lt.elim fun _ q => q.elim fun _ q => lt_of_block q))
                  replace h7 := persist h7 hb
                  replace hB := btr hB hb
                  clear hb
                  refine hK _ (V.alloc (.cells #[.int .u8 65, .int .i64 (n : Int), .slice (some ⟨p7, 0, none⟩) 1 1, .slice none 0 0, .map (some p1)] 58)) ⟨fun _ => hB, ?_⟩
                  clear hK K
                  generalize V.alloc (.cells #[.int .u8 65, .int .i64 (n : Int), .slice (some ⟨p7, 0, none⟩) 1 1, .slice none 0 0, .map (some p1)] 58) = V2 at *
                  generalize V.heap.size = p9 at h9 h9b ⊢
                  obtain ⟨V, rfl⟩ : ∃ X, X = V2 := ⟨_, rfl⟩
                  (try simp only [Act.put, List.getElem_toArray, List.getElem_cons_succ, List.getElem_cons_zero, List.setIfInBounds_toArray, List.set_cons_zero, List.set_cons_succ])
                  refine wpAnyF_br (rs := [10]) (by kernel_rfl) (by simp) ?_
                  simp only [List.forall_mem_cons, List.not_mem_nil, false_imp_iff, implies_true, and_true]
                  · refine wpOp_step (o := _) rfl (fun K hK => ?_)
                    go_simp
                    refine hK _ (_) ⟨fun _ => hB, ?_⟩
                    clear hK K
                    (try simp only [Act.put, List.getElem_toArray, List.getElem_cons_succ, List.getElem_cons_zero, List.setIfInBounds_toArray, List.set_cons_zero, List.set_cons_succ])
                    refine wpAnyF_end (by kernel_rfl) (onNormal_mk ?_)
                    exact ⟨p9, p1, p6, p7, rfl, h9, hm, h7, h9b, h1b, h7b, hB⟩
  case h2 =>
    rintro tb gm p6 p7 V ⟨htb, hm, h7, hb1, hb2, hb3, hB⟩
    have c0 := ((bcell hB).1 _ 0 z0).trans c0
    have c1 := ((bcell hB).1 _ 1 z0).trans c1
    have hzV := hB.size
    have z1 : w.heap.size < V.heap.size := by omega
    have HO := Lib.hid (one_go V n)
    have HI := Lib.hid (fun (V3 : World) (pl : Nat) => TS.init (V3 := V3) (pl := pl) (by rw [← HS1.out]) HBW.out HQ0.out htb hm h7 hb1 hb2 hb3 hB)
    clear htb hm h7 hb1 hb2 hb3 hB hzV z0
    go_wp2_with fail
    refine HO.out.mono ?_
    rintro e V2 ⟨rfl, hb⟩
    obtain ⟨V3, hV3⟩ : ∃ V3, V2.alloc (.cells (eC oneL) 63) = V3 := ⟨_, rfl⟩
    have hTS := HI.out V3 V2.heap.size (btr hb (by rw [← hV3]; exact bal (Below.refl _ _) _)) hb.size (by rw [← hV3]; exact new_at V2 _)
    have HTS := Lib.hid hTS
    have HV3 := Lib.hid hV3
    have hsz : (eC oneL).size = 24 := by rw [eC_size, oneL_len]
    have hfo := foldE oneL oneL_len
    clear hTS hV3 hb HI HO c0 c1 z1
    go_wp2_with fail
    rw [HV3.out]
    clear hsz hfo HV3
    have hK := sizeN_le n
    go_loopw [4, 5] (fun vl vk wr => ∃ k : Nat, k ≤ sizeN n ∧ vk = .int .i64 k ∧ ∃ vw vn, Hid (TS w n w.heap.size tb gm (outB n k).E (outB n k).E (outB n k).W (outB n k).N [] vl (.slice none 0 0) vw vn wr)) (fun _ vk _ => sizeN n - (intOf vk).toNat)
    case atStart => exact ⟨0, by omega, rfl, _, _, HTS⟩
    case round =>
      obtain ⟨k, hk, rfl, vw, vn, HS⟩ := hrel
      obtain ⟨cls, hTS⟩ := HS.out
      obtain ⟨a4, c4, rfl⟩ := own_slice hTS.els.1
      have hinv := outB_inv h1 h4 k hk
      clear HTS
      by_cases hkK : k < sizeN n
      · have hkl := (tab_out h1 h4).2.2.2 k hkK
        have c0 : wr.cell? ⟨w.heap.size, 0, none⟩ = some (.int .u8 65) := by rw [cells_at hTS.box]; rfl
        have c1 : wr.cell? ⟨w.heap.size, 1, none⟩ = some (.int .i64 (n : Int)) := by rw [cells_at hTS.box]; rfl
        have z1 := lt_of_block hTS.box
        have hlen := hinv.2.2
        have HMI := Lib.hid (mirrors_go wr n h1 h4)
        have HIB := Lib.hid hinv.1
        have HNL := Lib.hid hinv.2.1
        clear hTS hinv
        obtain ⟨E, hE⟩ : ∃ E, (outB n k).E = E := ⟨_, rfl⟩
        obtain ⟨W, hW⟩ : ∃ W, (outB n k).W = W := ⟨_, rfl⟩
        obtain ⟨N, hN⟩ : ∃ N, (outB n k).N = N := ⟨_, rfl⟩
        rw [hE] at hkl hlen HIB HS ⊢
        rw [hW] at HIB HS
        rw [hN] at HNL HS
        have HE := Lib.hid hE
        have HW := Lib.hid hW
        have HN := Lib.hid hN
        clear hE hW hN
        go_wp2_with fail
        refine HMI.out.mono ?_
        rintro e V4 ⟨rfl, hb4⟩
        have HS4 := Lib.hid (HS.out.fresh hb4)
        clear HS c0 c1 z1 HMI hb4
        go_wp2
        go_loopw [4, 6, 32] (fun vl vr vs wr => ∃ s : Nat, s ≤ n ∧ vs = .int .i64 s ∧ ∃ vw2, Hid (TS w n w.heap.size tb gm (inS k E W s).1 (inS k E W s).1 (inS k E W s).2.1 N (inS k E W s).2.2 vl vr vw2 vn wr)) (fun _ _ vs _ => n - (intOf vs).toNat)
        case atStart => exact ⟨0, by omega, rfl, _, HS4⟩
        case round =>
          obtain ⟨s, hs, rfl, vw2, HS2⟩ := hrel
          obtain ⟨g1, g2, g3, g4⟩ := inS_inv HIB.out hkl s (by omega)
          obtain ⟨cls, hTS⟩ := HS2.out
          clear HS4
          by_cases hsn : s < n
          · have HSTEP := Lib.hid (inS_step k E W s)
            have HFIN := Lib.hid (fun (h : s + 1 = s + 1) => hsn)
            obtain ⟨E1, hE1⟩ : ∃ X, (inS k E W s).1 = X := ⟨_, rfl⟩
            obtain ⟨W2, hW2⟩ : ∃ X, (inS k E W s).2.1 = X := ⟨_, rfl⟩
            obtain ⟨R1, hR1⟩ : ∃ X, (inS k E W s).2.2 = X := ⟨_, rfl⟩
            rw [hE1, hW2, hR1] at HSTEP
            rw [hE1] at g1 g2 g3 HS2 hTS
            rw [hW2] at g1 HS2 hTS
            rw [hR1] at g4 HS2 hTS
            clear hE1 hW2 hR1
            obtain ⟨gl, cap, rfl, hc1, hc2, hgl, hcell⟩ := els_at hTS.els g1.ok (show k < E1.length by omega)
            have c0 : wr.cell? ⟨w.heap.size, 0, none⟩ = some (.int .u8 65) := by rw [cells_at hTS.box]; rfl
            have c1 : wr.cell? ⟨w.heap.size, 1, none⟩ = some (.int .i64 (n : Int)) := by rw [cells_at hTS.box]; rfl
            have z1 := lt_of_block hTS.box
            have HC := Lib.hid hcell
            have HG1 := Lib.hid g1
            have HG4 := Lib.hid g4
            unfold maxLen at hc2
            have hkE1 : k < E1.length := by omega
            have hE1l : E1.length ≤ 500 := by omega
            have HOK := Lib.hid (HG1.out.ok _ (elE_mem hkE1)).1
            clear hcell hTS g1 g4
            go_wp2_with fail
            apply wp_to1 (Pr := fun pe V => V.heap[pe]? = some (.cells (eC (thenL (elE E1 k) (mirL s))) 63 (0, 0)) ∧ wr.heap.size ≤ pe ∧ Below wr.heap.size wr V)
            case h1 =>
              have hB : Below wr.heap.size wr wr.drew := drewB ⟨1, rfl⟩
              refine wp_region_F (S := fun V => Below wr.heap.size wr V) 99 (by kernel_rfl) hB (fun hHeld => ?_)
              refine wpAnyF_take (i := 0) (oi := _) (v := ?_) rfl (by kernel_rfl) (by kernel_rfl) (by kernel_rfl) (by kernel_rfl) (fun _ _ _ h => h) (Or.inl ⟨by rfl, ?_⟩) (by assumption) ?_
              rotate_left
              · intro V0 hSw
                (try dsimp only at hSw)
                have q1 := bcell hSw
                go_simp
                all_goals with_reducible rfl
              (try simp only [Act.put, List.getElem_toArray, List.getElem_cons_succ, List.getElem_cons_zero, List.setIfInBounds_toArray, List.set_cons_zero, List.set_cons_succ])
              refine wpAnyF_take (i := 1) (oi := _) (v := ?_) rfl (by kernel_rfl) (by kernel_rfl) (by kernel_rfl) (by kernel_rfl) (fun _ _ _ h => h) (Or.inl ⟨by rfl, ?_⟩) (by assumption) ?_
              rotate_left
              · intro V0 hSw
                (try dsimp only at hSw)
                have q1 := bcell hSw
                go_simp
                all_goals with_reducible rfl
              (try simp only [Act.put, List.getElem_toArray, List.getElem_cons_succ, List.getElem_cons_zero, List.setIfInBounds_toArray, List.set_cons_zero, List.set_cons_succ])
              refine wpAnyF_take (i := 2) (oi := _) (v := ?_) rfl (by kernel_rfl) (by kernel_rfl) (by kernel_rfl) (by kernel_rfl) (fun _ _ _ h => h) (Or.inl ⟨by rfl, ?_⟩) (by assumption) ?_
              rotate_left
              · intro V0 hSw
                (try dsimp only at hSw)
                have q1 := bcell hSw
                go_simp
                all_goals with_reducible rfl
              (try simp only [Act.put, List.getElem_toArray, List.getElem_cons_succ, List.getElem_cons_zero, List.setIfInBounds_toArray, List.set_cons_zero, List.set_cons_succ])
              refine wpAnyF_take (i := 3) (oi := _) (v := .agg (eC (elE E1 k))) rfl (by kernel_rfl) (by kernel_rfl) (by kernel_rfl) (by kernel_rfl) (fun _ _ _ h => h) (Or.inl ⟨by rfl, ?_⟩) (by assumption) ?_
              · intro V0 hSw
                exact exec_loadE rfl gl (k * 24) (elE E1 k) (by go_simp) HOK.out (fun j hj => ((bcell hSw).1 _ _ hgl).trans (HC.out j hj))
              (try simp only [Act.put, List.getElem_toArray, List.getElem_cons_succ, List.getElem_cons_zero, List.setIfInBounds_toArray, List.set_cons_zero, List.set_cons_succ])
              refine wpAnyF_take (i := 4) (oi := _) (v := ?_) rfl (by kernel_rfl) (by kernel_rfl) (by kernel_rfl) (by kernel_rfl) (fun _ _ _ h => h) (Or.inl ⟨by rfl, ?_⟩) (by assumption) ?_
              rotate_left
              · intro V0 hSw
                (try dsimp only at hSw)
                have q1 := bcell hSw
                go_simp
                all_goals with_reducible rfl
              (try simp only [Act.put, List.getElem_toArray, List.getElem_cons_succ, List.getElem_cons_zero, List.setIfInBounds_toArray, List.set_cons_zero, List.set_cons_succ])
              refine wpAnyF_take (i := 5) (oi := _) (v := ?_) rfl (by kernel_rfl) (by kernel_rfl) (by kernel_rfl) (by kernel_rfl) (fun _ _ _ h => h) (Or.inl ⟨by rfl, ?_⟩) (by assumption) ?_
              rotate_left
              · intro V0 hSw
                (try dsimp only at hSw)
                have q1 := bcell hSw
                go_simp
                all_goals with_reducible rfl
              (try simp only [Act.put, List.getElem_toArray, List.getElem_cons_succ, List.getElem_cons_zero, List.setIfInBounds_toArray, List.set_cons_zero, List.set_cons_succ])
              clear hHeld
              generalize wr.drew = V at hB ⊢
              refine wpAnyF_br (rs := [6, 8]) (by kernel_rfl) (by simp) ?_
              simp only [List.forall_mem_cons, List.not_mem_nil, false_imp_iff, implies_true, and_true]
              refine ⟨?_, ?_⟩
              · refine wpOp_step (o := _) rfl (fun K hK => ?_)
                go_simp
                refine (mirror_go V n s hsn h4).mono ?_
                rintro e V2 ⟨rfl, hb⟩
                replace hB := btr hB hb
                clear hb
                refine hK _ (_) ⟨fun _ => hB, ?_⟩
                clear hK K
                obtain ⟨V, rfl⟩ : ∃ X, X = V2 := ⟨_, rfl⟩
                (try simp only [Act.put, List.getElem_toArray, List.getElem_cons_succ, List.getElem_cons_zero, List.setIfInBounds_toArray, List.set_cons_zero, List.set_cons_succ])
                refine wpAnyF_br (rs := [7, 8]) (by kernel_rfl) (by simp) ?_
                simp only [List.forall_mem_cons, List.not_mem_nil, false_imp_iff, implies_true, and_true]
                refine ⟨?_, ?_⟩
                · refine wpOp_step (o := _) rfl (fun K hK => ?_)
                  go_simp
                  refine (then_go V (elE E1 k) (mirL s) HOK.out (mirL_len s) (mirL_rng (by omega))).mono ?_
                  rintro e V2 ⟨rfl, hb⟩
                  replace hB := btr hB hb
                  clear hb
                  refine hK _ (_) ⟨fun _ => hB, ?_⟩
                  clear hK K
                  obtain ⟨V, rfl⟩ : ∃ X, X = V2 := ⟨_, rfl⟩
                  (try simp only [Act.put, List.getElem_toArray, List.getElem_cons_succ, List.getElem_cons_zero, List.setIfInBounds_toArray, List.set_cons_zero, List.set_cons_succ])
                  refine wpAnyF_br (rs := [8]) (by kernel_rfl) (by simp) ?_
                  simp only [List.forall_mem_cons, List.not_mem_nil, false_imp_iff, implies_true, and_true]
                  · refine wpOp_step (o := _) rfl (fun K hK => ?_)
                    go_simp
                    have hb : Below V.heap.size V (V.alloc (.cells (eC (List.replicate 24 0)) 63)) := bal (Below.refl _ _) _
                    have h8 := new_at V (.cells (eC (List.replicate 24 0)) 63)
                    have h8b : wr.heap.size ≤ V.heap.size := hB.size
                    replace hB := btr hB hb
                    clear hb
                    refine hK _ (V.alloc (.cells (eC (List.replicate 24 0)) 63)) ⟨fun _ => hB, ?_⟩
                    clear hK K
                    generalize V.alloc (.cells (eC (List.replicate 24 0)) 63) = V2 at *
                    generalize V.heap.size = pe at h8 h8b ⊢
                    obtain ⟨V, rfl⟩ : ∃ X, X = V2 := ⟨_, rfl⟩
                    (try simp only [Act.put, List.getElem_toArray, List.getElem_cons_succ, List.getElem_cons_zero, List.setIfInBounds_toArray, List.set_cons_zero, List.set_cons_succ])
                    refine wpAnyF_br (rs := [9]) (by kernel_rfl) (by simp) ?_
                    simp only [List.forall_mem_cons, List.not_mem_nil, false_imp_iff, implies_true, and_true]
                    · refine wpOp_step (o := _) rfl (fun K hK => ?_)
                      rw [if_pos (by rfl)]
                      refine wp_storeE _ _ rfl pe _ (thenL (elE E1 k) (mirL s)) (by go_simp) (by go_simp) h8 (by rw [eC_size]; rfl) (thenL_len _ (mirL_len s)) ?_
                      have h9 := setRow_heap V pe _ (eC (thenL (elE E1 k) (mirL s))) _ _ h8
                      have hB : Below wr.heap.size wr (V.setRow pe (eC (thenL (elE E1 k) (mirL s)))) := brow hB h8b _
                      refine hK _ (_) ⟨fun _ => hB, ?_⟩
                      clear hK K
                      (try simp only [Act.put, List.getElem_toArray, List.getElem_cons_succ, List.getElem_cons_zero, List.setIfInBounds_toArray, List.set_cons_zero, List.set_cons_succ])
                      refine wpAnyF_end (by kernel_rfl) (onNormal_mk ?_)
                      exact ⟨pe, rfl, h9, h8b, hB⟩
                · refine wpOp_step (o := _) rfl (fun K hK => ?_)
                  go_simp
                  have hb : Below V.heap.size V (V.alloc (.cells (eC (List.replicate 24 0)) 63)) := bal (Below.refl _ _) _
                  have h8 := new_at V (.cells (eC (List.replicate 24 0)) 63)
                  have h8b : wr.heap.size ≤ V.heap.size := hB.size
                  replace hB := btr hB hb
                  clear hb
                  refine hK _ (V.alloc (.cells (eC (List.replicate 24 0)) 63)) ⟨fun _ => hB, ?_⟩
                  clear hK K
                  generalize V.alloc (.cells (eC (List.replicate 24 0)) 63) = V2 at *
                  generalize V.heap.size = pe at h8 h8b ⊢
                  obtain ⟨V, rfl⟩ : ∃ X, X = V2 := ⟨_, rfl⟩
                  (try simp only [Act.put, List.getElem_toArray, List.getElem_cons_succ, List.getElem_cons_zero, List.setIfInBounds_toArray, List.set_cons_zero, List.set_cons_succ])
                  refine wpAnyF_br (rs := [7]) (by kernel_rfl) (by simp) ?_
                  simp only [List.forall_mem_cons, List.not_mem_nil, false_imp_iff, implies_true, and_true]
                  · refine wpOp_step (o := _) rfl (fun K hK => ?_)
                    go_simp
                    refine (then_go V (elE E1 k) (mirL s) HOK.out (mirL_len s) (mirL_rng (by omega))).mono ?_
                    rintro e V2 ⟨rfl, hb⟩
                    replace h8 := persist h8 hb
                    replace hB := btr hB hb
                    clear hb
                    refine hK _ (_) ⟨fun _ => hB, ?_⟩
                    clear hK K
                    obtain ⟨V, rfl⟩ : ∃ X, X = V2 := ⟨_, rfl⟩
                    (try simp only [Act.put, List.getElem_toArray, List.getElem_cons_succ, List.getElem_cons_zero, List.setIfInBounds_toArray, List.set_cons_zero, List.set_cons_succ])
                    refine wpAnyF_br (rs := [9]) (by kernel_rfl) (by simp) ?_
                    simp only [List.forall_mem_cons, List.not_mem_nil, false_imp_iff, implies_true, and_true]
                    · refine wpOp_step (o := _) rfl (fun K hK => ?_)
                      rw [if_pos (by rfl)]
                      refine wp_storeE _ _ rfl pe _ (thenL (elE E1 k) (mirL s)) (by go_simp) (by go_simp) h8 (by rw [eC_size]; rfl) (thenL_len _ (mirL_len s)) ?_
                      have h9 := setRow_heap V pe _ (eC (thenL (elE E1 k) (mirL s))) _ _ h8
                      have hB : Below wr.heap.size wr (V.setRow pe (eC (thenL (elE E1 k) (mirL s)))) := brow hB h8b _
                      refine hK _ (_) ⟨fun _ => hB, ?_⟩
                      clear hK K
                      (try simp only [Act.put, List.getElem_toArray, List.getElem_cons_succ, List.getElem_cons_zero, List.setIfInBounds_toArray, List.set_cons_zero, List.set_cons_succ])
                      refine wpAnyF_end (by kernel_rfl) (onNormal_mk ?_)
                      exact ⟨pe, rfl, h9, h8b, hB⟩
              · refine wpOp_step (o := _) rfl (fun K hK => ?_)
                go_simp
                have hb : Below V.heap.size V (V.alloc (.cells (eC (List.replicate 24 0)) 63)) := bal (Below.refl _ _) _
                have h8 := new_at V (.cells (eC (List.replicate 24 0)) 63)
                have h8b : wr.heap.size ≤ V.heap.size := hB.size
                replace hB := btr hB hb
                clear hb
                refine hK _ (V.alloc (.cells (eC (List.replicate 24 0)) 63)) ⟨fun _ => hB, ?_⟩
                clear hK K
                generalize V.alloc (.cells (eC (List.replicate 24 0)) 63) = V2 at *
                generalize V.heap.size = pe at h8 h8b ⊢
                obtain ⟨V, rfl⟩ : ∃ X, X = V2 := ⟨_, rfl⟩
                (try simp only [Act.put, List.getElem_toArray, List.getElem_cons_succ, List.getElem_cons_zero, List.setIfInBounds_toArray, List.set_cons_zero, List.set_cons_succ])
                refine wpAnyF_br (rs := [6]) (by kernel_rfl) (by simp) ?_
                simp only [List.forall_mem_cons, List.not_mem_nil, false_imp_iff, implies_true, and_true]
                · refine wpOp_step (o := _) rfl (fun K hK => ?_)
                  go_simp
                  refine (mirror_go V n s hsn h4).mono ?_
                  rintro e V2 ⟨rfl, hb⟩
                  replace h8 := persist h8 hb
                  replace hB := btr hB hb
                  clear hb
                  refine hK _ (_) ⟨fun _ => hB, ?_⟩
                  clear hK K
                  obtain ⟨V, rfl⟩ : ∃ X, X = V2 := ⟨_, rfl⟩
                  (try simp only [Act.put, List.getElem_toArray, List.getElem_cons_succ, List.getElem_cons_zero, List.setIfInBounds_toArray, List.set_cons_zero, List.set_cons_succ])
                  refine wpAnyF_br (rs := [7]) (by kernel_rfl) (by simp) ?_
                  simp only [List.forall_mem_cons, List.not_mem_nil, false_imp_iff, implies_true, and_true]
                  · refine wpOp_step (o := _) rfl (fun K hK => ?_)
                    go_simp
                    refine (then_go V (elE E1 k) (mirL s) HOK.out (mirL_len s) (mirL_rng (by omega))).mono ?_
                    rintro e V2 ⟨rfl, hb⟩
                    replace h8 := persist h8 hb
                    replace hB := btr hB hb
                    clear hb
                    refine hK _ (_) ⟨fun _ => hB, ?_⟩
                    clear hK K
                    obtain ⟨V, rfl⟩ : ∃ X, X = V2 := ⟨_, rfl⟩
                    (try simp only [Act.put, List.getElem_toArray, List.getElem_cons_succ, List.getElem_cons_zero, List.setIfInBounds_toArray, List.set_cons_zero, List.set_cons_succ])
                    refine wpAnyF_br (rs := [9]) (by kernel_rfl) (by simp) ?_
                    simp only [List.forall_mem_cons, List.not_mem_nil, false_imp_iff, implies_true, and_true]
                    · refine wpOp_step (o := _) rfl (fun K hK => ?_)
                      rw [if_pos (by rfl)]
                      refine wp_storeE _ _ rfl pe _ (thenL (elE E1 k) (mirL s)) (by go_simp) (by go_simp) h8 (by rw [eC_size]; rfl) (thenL_len _ (mirL_len s)) ?_
                      have h9 := setRow_heap V pe _ (eC (thenL (elE E1 k) (mirL s))) _ _ h8
                      have hB : Below wr.heap.size wr (V.setRow pe (eC (thenL (elE E1 k) (mirL s)))) := brow hB h8b _
                      refine hK _ (_) ⟨fun _ => hB, ?_⟩
                      clear hK K
                      (try simp only [Act.put, List.getElem_toArray, List.getElem_cons_succ, List.getElem_cons_zero, List.setIfInBounds_toArray, List.set_cons_zero, List.set_cons_succ])
                      refine wpAnyF_end (by kernel_rfl) (onNormal_mk ?_)
                      exact ⟨pe, rfl, h9, h8b, hB⟩
            case h2 =>
              rintro pe V ⟨hpe, hpb, hB⟩
              try simp only [List.getElem_toArray, List.getElem_cons_succ, List.getElem_cons_zero, List.set_cons_succ, List.set_cons_zero]
              have HEO := Lib.hid (then_ok (HG1.out.ok _ (elE_mem hkE1)) (mirL_len s))
              have HSV := Lib.hid (HS2.out.fresh hB)
              obtain ⟨cls3, hT3⟩ := HSV.out
              have ctb : V.cell? ⟨tb, 4, none⟩ = some (.map (some gm)) := by rw [cells_at hT3.tbl]; rfl
              have cbx0 : V.cell? ⟨w.heap.size, 0, none⟩ = some (.int .u8 65) := by rw [cells_at hT3.box]; rfl
              have hgmV := hT3.gml
              have htbV := lt_of_block hT3.tbl
              have HMP := Lib.hid hT3.map
              have hVB := hB.size
              have HPE := Lib.hid hpe
              clear hT3 hpe hB HC c0 c1 HOK hpb
              obtain ⟨ek, hek⟩ : ∃ X, elE E1 k = X := ⟨_, rfl⟩
              rw [hek] at HEO HSTEP HPE ⊢
              obtain ⟨e, he⟩ : ∃ X, thenL ek (mirL s) = X := ⟨_, rfl⟩
              rw [he] at HEO HSTEP HPE ⊢
              clear he hek
              by_cases hp : posE e E1 < E1.length
              · have HSTEP2 := Lib.hid (HSTEP.out.trans (if_pos hp))
                clear HSTEP
                have HP := Lib.hid hp
                clear hp
                go_wp2
                have hD : Below V.heap.size V V.drew := drewB ⟨1, rfl⟩
                refine wp_region_F (S := fun V' => Below V.heap.size V V') 99 (by kernel_rfl) hD (fun hHeld => ?_)
                refine wpAnyF_take (i := 0) (oi := _) (v := ?_) rfl (by kernel_rfl) (by kernel_rfl) (by kernel_rfl) (by kernel_rfl) (fun _ _ _ h => h) (Or.inl ⟨by rfl, ?_⟩) (by assumption) ?_
                rotate_left
                · intro V0 hSw
                  (try dsimp only at hSw)
                  have q1 := bcell hSw
                  go_simp
                  all_goals with_reducible rfl
                (try simp only [Act.put, List.getElem_toArray, List.getElem_cons_succ, List.getElem_cons_zero, List.setIfInBounds_toArray, List.set_cons_zero, List.set_cons_succ])
                refine wpAnyF_take (i := 1) (oi := _) (v := ?_) rfl (by kernel_rfl) (by kernel_rfl) (by kernel_rfl) (by kernel_rfl) (fun _ _ _ h => h) (Or.inl ⟨by rfl, ?_⟩) (by assumption) ?_
                rotate_left
                · intro V0 hSw
                  (try dsimp only at hSw)
                  have q1 := bcell hSw
                  go_simp
                  all_goals with_reducible rfl
                (try simp only [Act.put, List.getElem_toArray, List.getElem_cons_succ, List.getElem_cons_zero, List.setIfInBounds_toArray, List.set_cons_zero, List.set_cons_succ])
                refine wpAnyF_take (i := 2) (oi := _) (v := ?_) rfl (by kernel_rfl) (by kernel_rfl) (by kernel_rfl) (by kernel_rfl) (fun _ _ _ h => h) (Or.inl ⟨by rfl, ?_⟩) (by assumption) ?_
                rotate_left
                · intro V0 hSw
                  (try dsimp only at hSw)
                  have q1 := bcell hSw
                  go_simp
                  all_goals with_reducible rfl
                (try simp only [Act.put, List.getElem_toArray, List.getElem_cons_succ, List.getElem_cons_zero, List.setIfInBounds_toArray, List.set_cons_zero, List.set_cons_succ])
                refine wpAnyF_take (i := 3) (oi := _) (v := ?_) rfl (by kernel_rfl) (by kernel_rfl) (by kernel_rfl) (by kernel_rfl) (fun _ _ _ h => h) (Or.inl ⟨by rfl, ?_⟩) (by assumption) ?_
                rotate_left
                · intro V0 hSw
                  (try dsimp only at hSw)
                  have q1 := bcell hSw
                  go_simp
                  all_goals with_reducible rfl
                (try simp only [Act.put, List.getElem_toArray, List.getElem_cons_succ, List.getElem_cons_zero, List.setIfInBounds_toArray, List.set_cons_zero, List.set_cons_succ])
                refine wpAnyF_take (i := 4) (oi := _) (v := .agg (eC e)) rfl (by kernel_rfl) (by kernel_rfl) (by kernel_rfl) (by kernel_rfl) (fun _ _ _ h => h) (Or.inl ⟨by rfl, ?_⟩) (by assumption) ?_
                · intro V0 hSw
                  exact exec_loadE rfl pe 0 e (by go_simp) HEO.out.1 (fun j hj => by rw [cells_at (persist HPE.out hSw), Nat.zero_add]; exact eC_at (by rw [HEO.out.1]; exact hj))
                (try simp only [Act.put, List.getElem_toArray, List.getElem_cons_succ, List.getElem_cons_zero, List.setIfInBounds_toArray, List.set_cons_zero, List.set_cons_succ])
                refine wpAnyF_take (i := 5) (oi := _) (v := .tuple #[.int .i64 (posE e E1 : Int), .bool true]) rfl (by kernel_rfl) (by kernel_rfl) (by kernel_rfl) (by kernel_rfl) (fun _ _ _ h => h) (Or.inl ⟨by rfl, ?_⟩) (by assumption) ?_
                · intro V0 hSw
                  exact (exec_lookE rfl (HMP.out.keep (hSw.block gm hgmV)) e HEO.out (by go_simp) (by go_simp)).trans (by rw [if_pos HP.out, decide_eq_true HP.out])
                (try simp only [Act.put, List.getElem_toArray, List.getElem_cons_succ, List.getElem_cons_zero, List.setIfInBounds_toArray, List.set_cons_zero, List.set_cons_succ])
                refine wpAnyF_take (i := 6) (oi := _) (v := ?_) rfl (by kernel_rfl) (by kernel_rfl) (by kernel_rfl) (by kernel_rfl) (fun _ _ _ h => h) (Or.inl ⟨by rfl, ?_⟩) (by assumption) ?_
                rotate_left
                · intro V0 hSw
                  (try dsimp only at hSw)
                  have q1 := bcell hSw
                  go_simp
                  all_goals with_reducible rfl
                (try simp only [Act.put, List.getElem_toArray, List.getElem_cons_succ, List.getElem_cons_zero, List.setIfInBounds_toArray, List.set_cons_zero, List.set_cons_succ])
                refine wpAnyF_take (i := 7) (oi := _) (v := ?_) rfl (by kernel_rfl) (by kernel_rfl) (by kernel_rfl) (by kernel_rfl) (fun _ _ _ h => h) (Or.inl ⟨by rfl, ?_⟩) (by assumption) ?_
                rotate_left
                · intro V0 hSw
                  (try dsimp only at hSw)
                  have q1 := bcell hSw
                  go_simp
                  all_goals with_reducible rfl
                (try simp only [Act.put, List.getElem_toArray, List.getElem_cons_succ, List.getElem_cons_zero, List.setIfInBounds_toArray, List.set_cons_zero, List.set_cons_succ])
                refine wpAnyF_take (i := 8) (oi := _) (v := ?_) rfl (by kernel_rfl) (by kernel_rfl) (by kernel_rfl) (by kernel_rfl) (fun _ _ _ h => h) (Or.inl ⟨by rfl, ?_⟩) (by assumption) ?_
                rotate_left
                · intro V0 hSw
                  (try dsimp only at hSw)
                  have q1 := bcell hSw
                  go_simp
                  all_goals with_reducible rfl
                (try simp only [Act.put, List.getElem_toArray, List.getElem_cons_succ, List.getElem_cons_zero, List.setIfInBounds_toArray, List.set_cons_zero, List.set_cons_succ])
                refine wpAnyF_take (i := 9) (oi := _) (v := ?_) rfl (by kernel_rfl) (by kernel_rfl) (by kernel_rfl) (by kernel_rfl) (fun _ _ _ h => h) (Or.inl ⟨by rfl, ?_⟩) (by assumption) ?_
                rotate_left
                · intro V0 hSw
                  (try dsimp only at hSw)
                  have q1 := bcell hSw
                  go_simp
                  all_goals with_reducible rfl
                (try simp only [Act.put, List.getElem_toArray, List.getElem_cons_succ, List.getElem_cons_zero, List.setIfInBounds_toArray, List.set_cons_zero, List.set_cons_succ])
                refine wpAnyF_take (i := 10) (oi := _) (v := ?_) rfl (by kernel_rfl) (by kernel_rfl) (by kernel_rfl) (by kernel_rfl) (fun _ _ _ h => h) (Or.inl ⟨by rfl, ?_⟩) (by assumption) ?_
                rotate_left
                · intro V0 hSw
                  (try dsimp only at hSw)
                  have q1 := bcell hSw
                  go_simp
                  all_goals with_reducible rfl
                (try simp only [Act.put, List.getElem_toArray, List.getElem_cons_succ, List.getElem_cons_zero, List.setIfInBounds_toArray, List.set_cons_zero, List.set_cons_succ])
                refine wpAnyF_end (by kernel_rfl) ?_
                have HSD := Lib.hid (HSV.out.fresh hHeld)
                generalize V.drew = Vd at HSD ⊢
                clear hD hHeld HSV
                obtain ⟨Y, hY⟩ : ∃ Y, Vd.alloc (.cells #[.int .i64 (posE e E1 : Int)] 3) = Y := ⟨_, rfl⟩
                obtain ⟨v6, V6, hrun6, hTS6⟩ := (HSD.out.fresh (V' := Y) (by rw [← hY]; exact bal (Below.refl _ _) _)).row_run (u := posE e E1) (pe := Vd.heap.size) (by rw [← hY]; exact new_at Vd _) (by have := HG4.out; omega)
                rw [← hY] at hrun6
                have HRUN6 := Lib.hid hrun6
                have HTS6 := Lib.hid hTS6
                clear hrun6 hTS6 hY
                go_wp2_with (at_builtin; refine wpList_appR rfl _ _ 23 rfl rfl _ _ (by go_simp) (by go_simp) HRUN6.out ?_)
                go_roundw
                case rel =>
                  refine ⟨s + 1, by omega, by go_num, vw2, ?_⟩
                  rw [HSTEP2.out]
                  exact HTS6
                case measure => simp [intOf]; omega
              · have HSTEP2 := Lib.hid (HSTEP.out.trans (if_neg hp))
                clear HSTEP
                have HP := Lib.hid hp
                have HPL := Lib.hid (show posE e E1 = E1.length by have := posE_le e E1; omega)
                clear hp
                go_wp2
                have hD : Below V.heap.size V V.drew := drewB ⟨1, rfl⟩
                refine wp_region_F (S := fun V' => Below V.heap.size V V') 99 (by kernel_rfl) hD (fun hHeld => ?_)
                refine wpAnyF_take (i := 0) (oi := _) (v := ?_) rfl (by kernel_rfl) (by kernel_rfl) (by kernel_rfl) (by kernel_rfl) (fun _ _ _ h => h) (Or.inl ⟨by rfl, ?_⟩) (by assumption) ?_
                rotate_left
                · intro V0 hSw
                  (try dsimp only at hSw)
                  have q1 := bcell hSw
                  go_simp
                  all_goals with_reducible rfl
                (try simp only [Act.put, List.getElem_toArray, List.getElem_cons_succ, List.getElem_cons_zero, List.setIfInBounds_toArray, List.set_cons_zero, List.set_cons_succ])
                refine wpAnyF_take (i := 1) (oi := _) (v := ?_) rfl (by kernel_rfl) (by kernel_rfl) (by kernel_rfl) (by kernel_rfl) (fun _ _ _ h => h) (Or.inl ⟨by rfl, ?_⟩) (by assumption) ?_
                rotate_left
                · intro V0 hSw
                  (try dsimp only at hSw)
                  have q1 := bcell hSw
                  go_simp
                  all_goals with_reducible rfl
                (try simp only [Act.put, List.getElem_toArray, List.getElem_cons_succ, List.getElem_cons_zero, List.setIfInBounds_toArray, List.set_cons_zero, List.set_cons_succ])
                refine wpAnyF_take (i := 2) (oi := _) (v := ?_) rfl (by kernel_rfl) (by kernel_rfl) (by kernel_rfl) (by kernel_rfl) (fun _ _ _ h => h) (Or.inl ⟨by rfl, ?_⟩) (by assumption) ?_
                rotate_left
                · intro V0 hSw
                  (try dsimp only at hSw)
                  have q1 := bcell hSw
                  go_simp
                  all_goals with_reducible rfl
                (try simp only [Act.put, List.getElem_toArray, List.getElem_cons_succ, List.getElem_cons_zero, List.setIfInBounds_toArray, List.set_cons_zero, List.set_cons_succ])
                refine wpAnyF_take (i := 3) (oi := _) (v := ?_) rfl (by kernel_rfl) (by kernel_rfl) (by kernel_rfl) (by kernel_rfl) (fun _ _ _ h => h) (Or.inl ⟨by rfl, ?_⟩) (by assumption) ?_
                rotate_left
                · intro V0 hSw
                  (try dsimp only at hSw)
                  have q1 := bcell hSw
                  go_simp
                  all_goals with_reducible rfl
                (try simp only [Act.put, List.getElem_toArray, List.getElem_cons_succ, List.getElem_cons_zero, List.setIfInBounds_toArray, List.set_cons_zero, List.set_cons_succ])
                refine wpAnyF_take (i := 4) (oi := _) (v := .agg (eC e)) rfl (by kernel_rfl) (by kernel_rfl) (by kernel_rfl) (by kernel_rfl) (fun _ _ _ h => h) (Or.inl ⟨by rfl, ?_⟩) (by assumption) ?_
                · intro V0 hSw
                  exact exec_loadE rfl pe 0 e (by go_simp) HEO.out.1 (fun j hj => by rw [cells_at (persist HPE.out hSw), Nat.zero_add]; exact eC_at (by rw [HEO.out.1]; exact hj))
                (try simp only [Act.put, List.getElem_toArray, List.getElem_cons_succ, List.getElem_cons_zero, List.setIfInBounds_toArray, List.set_cons_zero, List.set_cons_succ])
                refine wpAnyF_take (i := 5) (oi := _) (v := .tuple #[.int .i64 0, .bool false]) rfl (by kernel_rfl) (by kernel_rfl) (by kernel_rfl) (by kernel_rfl) (fun _ _ _ h => h) (Or.inl ⟨by rfl, ?_⟩) (by assumption) ?_
                · intro V0 hSw
                  exact (exec_lookE rfl (HMP.out.keep (hSw.block gm hgmV)) e HEO.out (by go_simp) (by go_simp)).trans (by rw [if_neg HP.out, decide_eq_false HP.out])
                (try simp only [Act.put, List.getElem_toArray, List.getElem_cons_succ, List.getElem_cons_zero, List.setIfInBounds_toArray, List.set_cons_zero, List.set_cons_succ])
                refine wpAnyF_take (i := 6) (oi := _) (v := ?_) rfl (by kernel_rfl) (by kernel_rfl) (by kernel_rfl) (by kernel_rfl) (fun _ _ _ h => h) (Or.inl ⟨by rfl, ?_⟩) (by assumption) ?_
                rotate_left
                · intro V0 hSw
                  (try dsimp only at hSw)
                  have q1 := bcell hSw
                  go_simp
                  all_goals with_reducible rfl
                (try simp only [Act.put, List.getElem_toArray, List.getElem_cons_succ, List.getElem_cons_zero, List.setIfInBounds_toArray, List.set_cons_zero, List.set_cons_succ])
                refine wpAnyF_take (i := 7) (oi := _) (v := ?_) rfl (by kernel_rfl) (by kernel_rfl) (by kernel_rfl) (by kernel_rfl) (fun _ _ _ h => h) (Or.inl ⟨by rfl, ?_⟩) (by assumption) ?_
                rotate_left
                · intro V0 hSw
                  (try dsimp only at hSw)
                  have q1 := bcell hSw
                  go_simp
                  all_goals with_reducible rfl
                (try simp only [Act.put, List.getElem_toArray, List.getElem_cons_succ, List.getElem_cons_zero, List.setIfInBounds_toArray, List.set_cons_zero, List.set_cons_succ])
                refine wpAnyF_take (i := 8) (oi := _) (v := ?_) rfl (by kernel_rfl) (by kernel_rfl) (by kernel_rfl) (by kernel_rfl) (fun _ _ _ h => h) (Or.inl ⟨by rfl, ?_⟩) (by assumption) ?_
                rotate_left
                · intro V0 hSw
                  (try dsimp only at hSw)
                  have q1 := bcell hSw
                  go_simp
                  all_goals with_reducible rfl
                (try simp only [Act.put, List.getElem_toArray, List.getElem_cons_succ, List.getElem_cons_zero, List.setIfInBounds_toArray, List.set_cons_zero, List.set_cons_succ])
                refine wpAnyF_take (i := 9) (oi := _) (v := ?_) rfl (by kernel_rfl) (by kernel_rfl) (by kernel_rfl) (by kernel_rfl) (fun _ _ _ h => h) (Or.inl ⟨by rfl, ?_⟩) (by assumption) ?_
                rotate_left
                · intro V0 hSw
                  (try dsimp only at hSw)
                  have q1 := bcell hSw
                  go_simp
                  all_goals with_reducible rfl
                (try simp only [Act.put, List.getElem_toArray, List.getElem_cons_succ, List.getElem_cons_zero, List.setIfInBounds_toArray, List.set_cons_zero, List.set_cons_succ])
                refine wpAnyF_take (i := 10) (oi := _) (v := ?_) rfl (by kernel_rfl) (by kernel_rfl) (by kernel_rfl) (by kernel_rfl) (fun _ _ _ h => h) (Or.inl ⟨by rfl, ?_⟩) (by assumption) ?_
                rotate_left
                · intro V0 hSw
                  (try dsimp only at hSw)
                  have q1 := bcell hSw
                  go_simp
                  all_goals with_reducible rfl
                (try simp only [Act.put, List.getElem_toArray, List.getElem_cons_succ, List.getElem_cons_zero, List.setIfInBounds_toArray, List.set_cons_zero, List.set_cons_succ])
                refine wpAnyF_end (by kernel_rfl) ?_
                have HSD := Lib.hid (HSV.out.fresh hHeld)
                have HPE := Lib.hid (persist HPE.out hHeld)
                have ctb := ((bcell hHeld).1 _ 4 htbV).trans ctb
                have hgmV : gm < V.drew.heap.size := hgmV
                have htbV : tb < V.drew.heap.size := htbV
                generalize V.drew = Vd at HSD HPE ctb hgmV htbV ⊢
                clear hD hHeld HSV HMP
                go_wp2
                have hD : Below Vd.heap.size Vd Vd.drew := drewB ⟨1, rfl⟩
                refine wp_region_F (S := fun V' => Below Vd.heap.size Vd V') 6 (by kernel_rfl) hD (fun hHeld => ?_)
                refine wpAnyF_take (i := 0) (oi := _) (v := ?_) rfl (by kernel_rfl) (by kernel_rfl) (by kernel_rfl) (by kernel_rfl) (fun _ _ _ h => h) (Or.inl ⟨by rfl, ?_⟩) (by assumption) ?_
                rotate_left
                · intro V0 hSw
                  (try dsimp only at hSw)
                  have q1 := bcell hSw
                  go_simp
                  all_goals with_reducible rfl
                (try simp only [Act.put, List.getElem_toArray, List.getElem_cons_succ, List.getElem_cons_zero, List.setIfInBounds_toArray, List.set_cons_zero, List.set_cons_succ])
                refine wpAnyF_take (i := 1) (oi := _) (v := ?_) rfl (by kernel_rfl) (by kernel_rfl) (by kernel_rfl) (by kernel_rfl) (fun _ _ _ h => h) (Or.inl ⟨by rfl, ?_⟩) (by assumption) ?_
                rotate_left
                · intro V0 hSw
                  (try dsimp only at hSw)
                  have q1 := bcell hSw
                  go_simp
                  all_goals with_reducible rfl
                (try simp only [Act.put, List.getElem_toArray, List.getElem_cons_succ, List.getElem_cons_zero, List.setIfInBounds_toArray, List.set_cons_zero, List.set_cons_succ])
                refine wpAnyF_take (i := 2) (oi := _) (v := ?_) rfl (by kernel_rfl) (by kernel_rfl) (by kernel_rfl) (by kernel_rfl) (fun _ _ _ h => h) (Or.inl ⟨by rfl, ?_⟩) (by assumption) ?_
                rotate_left
                · intro V0 hSw
                  (try dsimp only at hSw)
                  have q1 := bcell hSw
                  go_simp
                  all_goals with_reducible rfl
                (try simp only [Act.put, List.getElem_toArray, List.getElem_cons_succ, List.getElem_cons_zero, List.setIfInBounds_toArray, List.set_cons_zero, List.set_cons_succ])
                refine wpAnyF_take (i := 3) (oi := _) (v := ?_) rfl (by kernel_rfl) (by kernel_rfl) (by kernel_rfl) (by kernel_rfl) (fun _ _ _ h => h) (Or.inl ⟨by rfl, ?_⟩) (by assumption) ?_
                rotate_left
                · intro V0 hSw
                  (try dsimp only at hSw)
                  have q1 := bcell hSw
                  go_simp
                  all_goals with_reducible rfl
                (try simp only [Act.put, List.getElem_toArray, List.getElem_cons_succ, List.getElem_cons_zero, List.setIfInBounds_toArray, List.set_cons_zero, List.set_cons_succ])
                refine wpAnyF_take (i := 4) (oi := _) (v := .agg (eC e)) rfl (by kernel_rfl) (by kernel_rfl) (by kernel_rfl) (by kernel_rfl) (fun _ _ _ h => h) (Or.inl ⟨by rfl, ?_⟩) (by assumption) ?_
                · intro V0 hSw
                  exact exec_loadE rfl pe 0 e (by go_simp) HEO.out.1 (fun j hj => by rw [cells_at (persist HPE.out hSw), Nat.zero_add]; exact eC_at (by rw [HEO.out.1]; exact hj))
                (try simp only [Act.put, List.getElem_toArray, List.getElem_cons_succ, List.getElem_cons_zero, List.setIfInBounds_toArray, List.set_cons_zero, List.set_cons_succ])
                refine wpAnyF_take (i := 5) (oi := _) (v := ?_) rfl (by kernel_rfl) (by kernel_rfl) (by kernel_rfl) (by kernel_rfl) (fun _ _ _ h => h) (Or.inl ⟨by rfl, ?_⟩) (by assumption) ?_
                rotate_left
                · intro V0 hSw
                  (try dsimp only at hSw)
                  have q1 := bcell hSw
                  go_simp
                  all_goals with_reducible rfl
                (try simp only [Act.put, List.getElem_toArray, List.getElem_cons_succ, List.getElem_cons_zero, List.setIfInBounds_toArray, List.set_cons_zero, List.set_cons_succ])
                clear hHeld
                have HTD := Lib.hid (HSD.out.fresh hD)
                have HPE2 := Lib.hid (persist HPE.out hD)
                clear hD
                generalize Vd.drew = Ve at HTD HPE2 ⊢
                obtain ⟨V5, hrun5, hTS5, hk5⟩ := HTD.out.map_run HEO.out HP.out (by omega)
                refine wpAnyF_br (rs := [6]) (by kernel_rfl) (by simp) ?_
                simp only [List.forall_mem_cons, List.not_mem_nil, false_imp_iff, implies_true, and_true]
                refine wpOp_step (o := _) rfl (fun K hK => ?_)
                rw [if_pos (by rfl)]
                refine wp_update _ _ _ rfl gm e (E1.length : Int) (by go_simp) (by go_simp) (by go_simp) hrun5 ?_
                refine hK _ _ ⟨fun h => absurd rfl h, ?_⟩
                clear hK K
                (try simp only [Act.put, List.getElem_toArray, List.getElem_cons_succ, List.getElem_cons_zero, List.setIfInBounds_toArray, List.set_cons_zero, List.set_cons_succ])
                refine wpAnyF_end (by kernel_rfl) ?_
                have h5pe : V5.heap[pe]? = some (.cells (eC e) 63 (0, 0)) := by
                  have hne : pe ≠ gm := by
                    rintro rfl
                    obtain ⟨cls9, hT9⟩ := HTD.out
                    obtain ⟨es9, cl9, hq9⟩ := hT9.map.lt
                    have := HPE2.out
                    rw [hq9] at this
                    cases this
                  exact (hk5 pe (lt_of_block HPE2.out) hne).trans HPE2.out
                have HT5 := Lib.hid hTS5
                have H5PE := Lib.hid h5pe
                clear hTS5 hrun5 hk5 h5pe HTD
                obtain ⟨Y5, hY5⟩ : ∃ Y, V5.alloc (.cells (eC e) 63) = Y := ⟨_, rfl⟩
                obtain ⟨v7, V7, hrun7, hTS7, _⟩ := (HT5.out.fresh (V' := Y5) (by rw [← hY5]; exact bal (Below.refl _ _) _)).elem_run HEO.out.1 (pe := V5.heap.size) (by rw [← hY5]; exact new_at V5 _) (by omega)
                have HRUN7 := Lib.hid hrun7
                have HY5 := Lib.hid hY5
                have HT7 := Lib.hid hTS7
                obtain ⟨cls7, hT7⟩ := hTS7
                obtain ⟨aw, cwp, rfl, hrw⟩ := hT7.wds.sl
                obtain ⟨bw, ow, rfl, hbw, hcw⟩ := hrw.at (show 0 < W2.length by have := HG1.out.len; omega)
                obtain ⟨aw1, mw, cw1, hcw1, hSw1⟩ := hcw k (by have := HG1.out.len; omega)
                rw [rw_ints] at hSw1
                have hmw : mw = (wdW W2 k).length := by have := hSw1.len; simpa [ints] using this.symm
                have hmw2 : mw ≤ 1000 := by have := HG1.out.wd k; have := HG1.out.len; omega
                have hmw3 := hSw1.cap.2
                have hmc := hSw1.cap.1
                clear hmw
                have hkW : k < W2.length := by have := HG1.out.len; omega
                have hW2l : W2.length ≤ 500 := by have := HG1.out.len; omega
                have hcwp := hrw.2.cap.2
                have hcwc := hrw.2.cap.1
                unfold maxLen at hcwp hmw3
                have c2 : V7.cell? ⟨tb, 2, none⟩ = some (.slice (some ⟨bw, ow, none⟩) W2.length cwp) := by rw [cells_at hT7.tbl]; rfl
                have ztb := lt_of_block hT7.tbl
                have hsz : (eC e).size = 24 := by rw [eC_size, HEO.out.1]
                have hfo := foldE e HEO.out.1
                have HC2 := Lib.hid c2
                clear hT7 hrun7 hY5 hrw hcw
                go_wp2_with (first | (refine wpList_loadE rfl _ rfl _ e (by go_simp) H5PE.out HEO.out.1 ?_) | (at_builtin; rw [HY5.out]; refine wpList_appR rfl _ _ 65 rfl rfl _ _ (by go_simp) (by go_simp) HRUN7.out ?_))
                clear hsz hfo
                have hD : Below V7.heap.size V7 V7.drew := drewB ⟨1, rfl⟩
                refine wp_region_F (S := fun V' => V'.cell? ⟨tb, 2, none⟩ = some (.slice (some ⟨bw, ow, none⟩) W2.length cwp)) 18 (by kernel_rfl) c2 (fun hHeld => ?_)
                refine wpAnyF_take (i := 0) (oi := _) (v := ?_) rfl (by kernel_rfl) (by kernel_rfl) (by kernel_rfl) (by kernel_rfl) (fun _ _ _ h => h) (Or.inl ⟨by rfl, ?_⟩) (by assumption) ?_
                rotate_left
                · intro V0 hSw
                  (try dsimp only at hSw)
                  go_simp
                  all_goals with_reducible rfl
                (try simp only [Act.put, List.getElem_toArray, List.getElem_cons_succ, List.getElem_cons_zero, List.setIfInBounds_toArray, List.set_cons_zero, List.set_cons_succ])
                refine wpAnyF_take (i := 1) (oi := _) (v := ?_) rfl (by kernel_rfl) (by kernel_rfl) (by kernel_rfl) (by kernel_rfl) (fun _ _ _ h => h) (Or.inl ⟨by rfl, ?_⟩) (by assumption) ?_
                rotate_left
                · intro V0 hSw
                  (try dsimp only at hSw)
                  go_simp
                  all_goals with_reducible rfl
                (try simp only [Act.put, List.getElem_toArray, List.getElem_cons_succ, List.getElem_cons_zero, List.setIfInBounds_toArray, List.set_cons_zero, List.set_cons_succ])
                refine wpAnyF_take (i := 2) (oi := _) (v := ?_) rfl (by kernel_rfl) (by kernel_rfl) (by kernel_rfl) (by kernel_rfl) (fun _ _ _ h => h) (Or.inl ⟨by rfl, ?_⟩) (by assumption) ?_
                rotate_left
                · intro V0 hSw
                  (try dsimp only at hSw)
                  go_simp
                  all_goals with_reducible rfl
                (try simp only [Act.put, List.getElem_toArray, List.getElem_cons_succ, List.getElem_cons_zero, List.setIfInBounds_toArray, List.set_cons_zero, List.set_cons_succ])
                refine wpAnyF_take (i := 3) (oi := _) (v := ?_) rfl (by kernel_rfl) (by kernel_rfl) (by kernel_rfl) (by kernel_rfl) (fun _ _ _ h => h) (Or.inl ⟨by rfl, ?_⟩) (by assumption) ?_
                rotate_left
                · intro V0 hSw
                  (try dsimp only at hSw)
                  go_simp
                  all_goals with_reducible rfl
                (try simp only [Act.put, List.getElem_toArray, List.getElem_cons_succ, List.getElem_cons_zero, List.setIfInBounds_toArray, List.set_cons_zero, List.set_cons_succ])
                refine wpAnyF_take (i := 4) (oi := _) (v := ?_) rfl (by kernel_rfl) (by kernel_rfl) (by kernel_rfl) (by kernel_rfl) (fun _ _ _ h => h) (Or.inl ⟨by rfl, ?_⟩) (by assumption) ?_
                rotate_left
                · intro V0 hSw
                  (try dsimp only at hSw)
                  go_simp
                  all_goals with_reducible rfl
                (try simp only [Act.put, List.getElem_toArray, List.getElem_cons_succ, List.getElem_cons_zero, List.setIfInBounds_toArray, List.set_cons_zero, List.set_cons_succ])
                refine wpAnyF_take (i := 5) (oi := _) (v := ?_) rfl (by kernel_rfl) (by kernel_rfl) (by kernel_rfl) (by kernel_rfl) (fun _ _ _ h => h) (Or.inl ⟨by rfl, ?_⟩) (by assumption) ?_
                rotate_left
                · intro V0 hSw
                  (try dsimp only at hSw)
                  go_simp
                  all_goals with_reducible rfl
                (try simp only [Act.put, List.getElem_toArray, List.getElem_cons_succ, List.getElem_cons_zero, List.setIfInBounds_toArray, List.set_cons_zero, List.set_cons_succ])
                refine wpAnyF_take (i := 6) (oi := _) (v := ?_) rfl (by kernel_rfl) (by kernel_rfl) (by kernel_rfl) (by kernel_rfl) (fun _ _ _ h => h) (Or.inl ⟨by rfl, ?_⟩) (by assumption) ?_
                rotate_left
                · intro V0 hSw
                  (try dsimp only at hSw)
                  go_simp
                  all_goals with_reducible rfl
                (try simp only [Act.put, List.getElem_toArray, List.getElem_cons_succ, List.getElem_cons_zero, List.setIfInBounds_toArray, List.set_cons_zero, List.set_cons_succ])
                refine wpAnyF_take (i := 7) (oi := _) (v := ?_) rfl (by kernel_rfl) (by kernel_rfl) (by kernel_rfl) (by kernel_rfl) (fun _ _ _ h => h) (Or.inl ⟨by rfl, ?_⟩) (by assumption) ?_
                rotate_left
                · intro V0 hSw
                  (try dsimp only at hSw)
                  go_simp
                  all_goals with_reducible rfl
                (try simp only [Act.put, List.getElem_toArray, List.getElem_cons_succ, List.getElem_cons_zero, List.setIfInBounds_toArray, List.set_cons_zero, List.set_cons_succ])
                refine wpAnyF_take (i := 8) (oi := _) (v := ?_) rfl (by kernel_rfl) (by kernel_rfl) (by kernel_rfl) (by kernel_rfl) (fun _ _ _ h => h) (Or.inl ⟨by rfl, ?_⟩) (by assumption) ?_
                rotate_left
                · intro V0 hSw
                  (try dsimp only at hSw)
                  go_simp
                  all_goals with_reducible rfl
                (try simp only [Act.put, List.getElem_toArray, List.getElem_cons_succ, List.getElem_cons_zero, List.setIfInBounds_toArray, List.set_cons_zero, List.set_cons_succ])
                refine wpAnyF_take (i := 9) (oi := _) (v := ?_) rfl (by kernel_rfl) (by kernel_rfl) (by kernel_rfl) (by kernel_rfl) (fun _ _ _ h => h) (Or.inl ⟨by rfl, ?_⟩) (by assumption) ?_
                rotate_left
                · intro V0 hSw
                  (try dsimp only at hSw)
                  go_simp
                  all_goals with_reducible rfl
                (try simp only [Act.put, List.getElem_toArray, List.getElem_cons_succ, List.getElem_cons_zero, List.setIfInBounds_toArray, List.set_cons_zero, List.set_cons_succ])
                refine wpAnyF_take (i := 10) (oi := _) (v := ?_) rfl (by kernel_rfl) (by kernel_rfl) (by kernel_rfl) (by kernel_rfl) (fun _ _ _ h => h) (Or.inl ⟨by rfl, ?_⟩) (by assumption) ?_
                rotate_left
                · intro V0 hSw
                  (try dsimp only at hSw)
                  go_simp
                  all_goals with_reducible rfl
                (try simp only [Act.put, List.getElem_toArray, List.getElem_cons_succ, List.getElem_cons_zero, List.setIfInBounds_toArray, List.set_cons_zero, List.set_cons_succ])
                refine wpAnyF_take (i := 11) (oi := _) (v := ?_) rfl (by kernel_rfl) (by kernel_rfl) (by kernel_rfl) (by kernel_rfl) (fun _ _ _ h => h) (Or.inl ⟨by rfl, ?_⟩) (by assumption) ?_
                rotate_left
                · intro V0 hSw
                  (try dsimp only at hSw)
                  go_simp
                  all_goals with_reducible rfl
                (try simp only [Act.put, List.getElem_toArray, List.getElem_cons_succ, List.getElem_cons_zero, List.setIfInBounds_toArray, List.set_cons_zero, List.set_cons_succ])
                have HT8 := Lib.hid (HT7.out.fresh hD)
                have hS8 : Sl V7.drew aw1 mw cw1 (ints (wdW W2 k)) := hSw1.mono hD
                have c8 : V7.drew.cell? ⟨tb, 2, none⟩ = some (.slice (some ⟨bw, ow, none⟩) W2.length cwp) := c2
                clear hHeld hD
                generalize V7.drew = V8 at HT8 hS8 c8 ⊢
                obtain ⟨cls8, hT8⟩ := HT8.out
                have htb8 := hT8.tbl
                clear hT8
                have hb9 : Below V8.heap.size V8 (V8.alloc (.cells #[.int .i64 (s : Int)] 3)) := bal (Below.refl _ _) _
                have h9 := new_at V8 (.cells #[.int .i64 (s : Int)] 3)
                refine wpAnyF_br (rs := [12]) (by kernel_rfl) (by simp) ?_
                simp only [List.forall_mem_cons, List.not_mem_nil, false_imp_iff, implies_true, and_true]
                refine wpOp_step (o := _) rfl (fun K hK => ?_)
                go_simp
                refine hK _ (V8.alloc (.cells #[.int .i64 (s : Int)] 3)) ⟨fun _ => one2 (persist htb8 hb9), ?_⟩
                clear hK K
                generalize V8.alloc (.cells #[.int .i64 (s : Int)] 3) = V9 at *
                (try simp only [Act.put, List.getElem_toArray, List.getElem_cons_succ, List.getElem_cons_zero, List.setIfInBounds_toArray, List.set_cons_zero, List.set_cons_succ])
                obtain ⟨c10, V10, hrun10, hS10, hb10⟩ := run_full2 aw1 mw (wdW W2 k) (sl_full (hS8.mono hb9)) V8.heap.size s h9 (by omega)
                refine wpAnyF_br (rs := [13]) (by kernel_rfl) (by simp) ?_
                simp only [List.forall_mem_cons, List.not_mem_nil, false_imp_iff, implies_true, and_true]
                refine wpOp_step (o := _) rfl (fun K hK => ?_)
                rw [if_pos (by rfl)]
                refine wp_appR _ _ 23 rfl rfl _ _ (by go_simp) (by go_simp) hrun10 ?_
                refine hK _ _ ⟨fun _ => one2 (persist (persist htb8 hb9) hb10), ?_⟩
                clear hK K
                (try simp only [Act.put, List.getElem_toArray, List.getElem_cons_succ, List.getElem_cons_zero, List.setIfInBounds_toArray, List.set_cons_zero, List.set_cons_succ])
                have hb11 : Below V10.heap.size V10 (V10.alloc (.cells #[.slice (some ⟨V9.heap.size, 0, none⟩) (mw + 1) c10] 23)) := bal (Below.refl _ _) _
                have h11 := new_at V10 (.cells #[.slice (some ⟨V9.heap.size, 0, none⟩) (mw + 1) c10] 23)
                refine wpAnyF_br (rs := [14]) (by kernel_rfl) (by simp) ?_
                simp only [List.forall_mem_cons, List.not_mem_nil, false_imp_iff, implies_true, and_true]
                refine wpOp_step (o := _) rfl (fun K hK => ?_)
                go_simp
                refine hK _ (V10.alloc (.cells #[.slice (some ⟨V9.heap.size, 0, none⟩) (mw + 1) c10] 23)) ⟨fun _ => one2 (persist (persist (persist htb8 hb9) hb10) hb11), ?_⟩
                clear hK K
                generalize V10.alloc (.cells #[.slice (some ⟨V9.heap.size, 0, none⟩) (mw + 1) c10] 23) = V11 at *
                (try simp only [Act.put, List.getElem_toArray, List.getElem_cons_succ, List.getElem_cons_zero, List.setIfInBounds_toArray, List.set_cons_zero, List.set_cons_succ])
                obtain ⟨v12, V12, hrun12, htb12, ⟨a12, k12, c12, rfl⟩, hTS12⟩ := HT8.out.word_run (btr (btr hb9 hb10) hb11) hb9.size (hS10.mono hb11) h11 (by omega)
                refine wpAnyF_br (rs := [15]) (by kernel_rfl) (by simp) ?_
                simp only [List.forall_mem_cons, List.not_mem_nil, false_imp_iff, implies_true, and_true]
                refine wpOp_step (o := _) rfl (fun K hK => ?_)
                rw [if_pos (by rfl)]
                refine wp_appR _ _ 29 rfl rfl _ _ (by go_simp) (by go_simp) hrun12 ?_
                refine hK _ _ ⟨fun _ => one2 (htb12.trans htb8), ?_⟩
                clear hK K
                (try simp only [Act.put, List.getElem_toArray, List.getElem_cons_succ, List.getElem_cons_zero, List.setIfInBounds_toArray, List.set_cons_zero, List.set_cons_succ])
                have htb13 := htb12.trans htb8
                have ct13 := one2 htb13
                have ft13 := free_at htb13 2
                have zt13 := lt_of_block htb13
                have HTS12 := Lib.hid hTS12
                clear hTS12 hb9 h9 hrun10 hS10 hb10 hb11 h11 hrun12 htb12 hS8 c8 htb8 htb13
                have hHeld2 : V12.cell? ⟨tb, 2, none⟩ = some (.slice (some ⟨bw, ow, none⟩) W2.length cwp) := ct13
                refine wpAnyF_br (rs := [16]) (by kernel_rfl) (by simp) ?_
                simp only [List.forall_mem_cons, List.not_mem_nil, false_imp_iff, implies_true, and_true]
                refine wpOp_step (o := _) rfl (fun K hK => ?_)
                go_simp
                refine hK _ _ ⟨fun _ => hHeld2, ?_⟩
                clear hK K
                (try simp only [Act.put, List.getElem_toArray, List.getElem_cons_succ, List.getElem_cons_zero, List.setIfInBounds_toArray, List.set_cons_zero, List.set_cons_succ])
                refine wpAnyF_br (rs := [17]) (by kernel_rfl) (by simp) ?_
                simp only [List.forall_mem_cons, List.not_mem_nil, false_imp_iff, implies_true, and_true]
                refine wpOp_step (o := _) rfl (fun K hK => ?_)
                go_simp
                refine hK _ _ ⟨fun _ => hHeld2, ?_⟩
                clear hK K
                (try simp only [Act.put, List.getElem_toArray, List.getElem_cons_succ, List.getElem_cons_zero, List.setIfInBounds_toArray, List.set_cons_zero, List.set_cons_succ])
                refine wpAnyF_br (rs := [18]) (by kernel_rfl) (by simp) ?_
                simp only [List.forall_mem_cons, List.not_mem_nil, false_imp_iff, implies_true, and_true]
                refine wpOp_step (o := _) rfl (fun K hK => ?_)
                go_simp
                refine hK _ _ ⟨fun h => absurd rfl h, ?_⟩
                clear hK K
                (try simp only [Act.put, List.getElem_toArray, List.getElem_cons_succ, List.getElem_cons_zero, List.setIfInBounds_toArray, List.set_cons_zero, List.set_cons_succ])
                refine wpAnyF_end (by kernel_rfl) ?_
                obtain ⟨Vd, hVd⟩ : ∃ X, V12.setCell ⟨tb, 2, none⟩ (.slice a12 k12 c12) = X := ⟨_, rfl⟩
                rw [hVd] at HTS12 ⊢
                clear hVd ct13 ft13 zt13 hHeld2
                obtain ⟨Y, hY⟩ : ∃ Y, Vd.alloc (.cells #[.int .i64 (E1.length : Int)] 3) = Y := ⟨_, rfl⟩
                obtain ⟨v6, V6, hrun6, hTS6⟩ := (HTS12.out.fresh (V' := Y) (by rw [← hY]; exact bal (Below.refl _ _) _)).row_run (u := E1.length) (pe := Vd.heap.size) (by rw [← hY]; exact new_at Vd _) (by have := HG4.out; omega)
                rw [← hY] at hrun6
                have HRUN6 := Lib.hid hrun6
                have HTS6 := Lib.hid hTS6
                clear hrun6 hTS6 hY
                go_wp2_with (at_builtin; refine wpList_appR rfl _ _ 23 rfl rfl _ _ (by go_simp) (by go_simp) HRUN6.out ?_)
                go_roundw
                case rel =>
                  refine ⟨s + 1, by omega, by go_num, (.slice a12 k12 c12), ?_⟩
                  rw [HSTEP2.out, HPL.out]
                  exact HTS6
                case measure => simp [intOf]; omega
          · obtain rfl : s = n := by omega
            have HRL := Lib.hid g4
            have HTBL := Lib.hid hTS.tbl
            have c3 : wr.cell? ⟨tb, 3, none⟩ = some vn := by rw [cells_at hTS.tbl]; rfl
            have ztb := lt_of_block hTS.tbl
            obtain ⟨ra, rc, rfl⟩ := own_slice hTS.rows.1
            obtain ⟨an, cn, rfl, _⟩ := hTS.nxt.sl
            obtain ⟨Y, hY⟩ : ∃ Y, wr.alloc (.cells #[.slice ra (inS k E W s).2.2.length rc] 23) = Y := ⟨_, rfl⟩
            obtain ⟨v8, V8, hrun8, htb8, ⟨a8, k8, c8, rfl⟩, hTS8⟩ := (HS2.out.fresh (V' := Y) (by rw [← hY]; exact bal (Below.refl _ _) _)).next_run (pe := wr.heap.size) (by rw [← hY]; exact new_at wr _) (by have := HNL.out; omega)
            have htY : Y.heap[tb]? = _ := (show Y.heap[tb]? = wr.heap[tb]? by rw [← hY]; exact Below.heap_alloc _ _ _ (by omega)).trans HTBL.out
            have htb9 := htb8.trans htY
            have c9 : V8.cell? ⟨tb, 3, none⟩ = some (.slice an N.length cn) := by rw [cells_at htb9]; rfl
            have f9 := free_at htb9 3
            have z9 := lt_of_block htb9
            rw [← hY] at hrun8
            have HRUN8 := Lib.hid hrun8
            have HTS8 := Lib.hid hTS8
            have HOUT := Lib.hid (show (outB s (k + 1)).E = (inS k E W s).1 ∧ (outB s (k + 1)).W = (inS k E W s).2.1 ∧ (outB s (k + 1)).N = N ++ [(inS k E W s).2.2] by
              rw [← HE.out, ← HW.out, ← HN.out]
              exact ⟨rfl, rfl, rfl⟩)
            clear hrun8 hTS8 hY htb8 htY htb9 hTS g1 g2 g3 g4
            go_wp2_with (at_builtin; refine wpList_appR rfl _ _ 29 rfl rfl _ _ (by go_simp) (by go_simp) HRUN8.out ?_)
            go_roundw
            case rel =>
              refine ⟨k + 1, by omega, by go_num, vw2, (.slice a8 k8 c8), ?_⟩
              rw [HOUT.out.1, HOUT.out.2.1, HOUT.out.2.2]
              exact HTS8
            case measure => simp [intOf]; omega
      · obtain rfl : k = sizeN n := by omega
        obtain ⟨t1, t2, t3, _⟩ := tab_out h1 h4
        have HD := Lib.hid HS.out.done
        rw [t1, t2] at HD
        have hno : ¬ (sizeN n < (outB n (sizeN n)).E.length) := by omega
        clear t1 t2 t3 hTS hinv HS
        go_wp2
        go_ret
        exact ⟨tb, rfl, HD.out.1, HD.out.2⟩
end Go.Proofs.YtiapngmallfelaaDoor
