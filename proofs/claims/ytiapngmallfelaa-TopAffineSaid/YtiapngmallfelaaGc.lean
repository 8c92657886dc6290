/- Walks: caps: hand, sets, Sets, Cap; slices.Contains. -/
import Derived.Test.YtiapngmallfelaaGb
namespace Go.Proofs.Ytiapngmallfelaa
open Go.RowKit
set_option linter.unusedSimpArgs false
theorem criseB_go (w : World) (a : Option Addr) (n cap : Nat) (l : List Int) (hs : Sl w a n cap l) :
    Calls Try.prog 79 #[.slice a n cap] w fun e w' => e = .returned (.bool (risB l)) ∧ Below w.heap.size w w' :=
  (crise_go w a n cap l hs).mono fun _ _ ⟨h, _, hw⟩ => ⟨h, by subst hw; exact drewN_below (Below.refl _ _)⟩
set_option maxHeartbeats 2000000 in
theorem chand_go (w : World) (a : Option Addr) (n cap : Nat) (l : List Int) (hs : Sl w a n cap l) (d : Nat) (hd : d = 1 ∨ d = 2) :
    Calls Try.prog 56 #[.int .i64 (d : Int), .slice a n cap] w fun e w' => e = .returned (.tuple #[deckV d (pow3 d), .bool (l.all (inB (pow3 d)) && risB l)]) ∧ Below w.heap.size w w' := by
  have HA := Lib.hid (bal (Below.refl w.heap.size w) (.cells #[.int .i64 0, .int .i64 0] 73))
  have HN0 := Lib.hid (new_at w (.cells #[.int .i64 0, .int .i64 0] 73))
  have HS := Lib.hid hs
  have HRD := Lib.hid (cread_go (w.alloc (.cells #[.int .i64 0, .int .i64 0] 73)) a n cap l (hs.mono HA.out) d hd)
  obtain ⟨q, hq⟩ : ∃ q, l.all (inB (pow3 d)) = q := ⟨_, rfl⟩
  obtain ⟨r, hr⟩ : ∃ r, risB l = r := ⟨_, rfl⟩
  obtain ⟨c, hc⟩ : ∃ c, pow3 d = c := ⟨_, rfl⟩
  have HQ := Lib.hid hq
  have HR := Lib.hid hr
  have HC := Lib.hid hc
  rw [hq, hc] at HRD
  unfold deckV at HRD ⊢
  clear hs hq hr hc
  go_enter Try.func56, Try.ntmps56
  go_wp2_with fail
  refine HRD.out.mono ?_
  rintro e w' ⟨rfl, hb⟩
  go_wp2
  have HB := Lib.hid (bal (btr HA.out hb) (.cells #[.int .i64 (d : Int), .int .i64 (c : Int)] 73))
  have hx := new_at w' (.cells #[.int .i64 (d : Int), .int .i64 (c : Int)] 73)
  have hne : w.heap.size < w'.heap.size := by have := hb.size; rw [World.size_alloc] at this; omega
  have hy := (Below.heap_alloc w' (.cells #[.int .i64 (d : Int), .int .i64 (c : Int)] 73) w.heap.size hne).trans (persist HN0.out (by rw [World.size_alloc] at hb ⊢; exact hb))
  generalize w'.alloc (.cells #[.int .i64 (d : Int), .int .i64 (c : Int)] 73) = V at *
  have HX := Lib.hid hx
  have HSX := Lib.hid (fun (w2 : World) (hb : Below V.heap.size V w2) => (show w2.cell? ⟨w'.heap.size, 0, none⟩ = some (.int .i64 (d : Int)) ∧ w2.cell? ⟨w'.heap.size, 1, none⟩ = some (.int .i64 (c : Int)) from ⟨cell_of (persist HX.out hb) 0 rfl, cell_of (persist HX.out hb) 1 rfl⟩))
  have hD : Below V.heap.size V V.drew := (Below.refl _ _).drew
  obtain ⟨r0, r1⟩ := HSX.out _ hD
  have z1 := lt_of_block hx
  have HY := Lib.hid hy
  have HSY := Lib.hid (fun (w2 : World) (hb : Below V.heap.size V w2) => (show w.heap.size < w2.heap.size ∧ (∃ x, w2.cell? ⟨w.heap.size, 0, none⟩ = some x) ∧ (∃ x, w2.cell? ⟨w.heap.size, 1, none⟩ = some x) ∧ w2.frozen? ⟨w.heap.size, 0, none⟩ = false ∧ w2.frozen? ⟨w.heap.size, 1, none⟩ = false from
    have h := persist HY.out hb
    ⟨lt_of_block h, ⟨_, cell_of h 0 rfl⟩, ⟨_, cell_of h 1 rfl⟩, free_at h 0, free_at h 1⟩))
  have hkn : w'.heap.size ≠ w.heap.size := by omega
  have HSZ := Lib.hid (fun (w2 : World) (hb : Below V.heap.size V w2) (v1 v2 : Value) => (show ((w2.setCell ⟨w.heap.size, 0, none⟩ v1).setCell ⟨w.heap.size, 1, none⟩ v2).cell? ⟨w'.heap.size, 0, none⟩ = some (.int .i64 (d : Int)) ∧ ((w2.setCell ⟨w.heap.size, 0, none⟩ v1).setCell ⟨w.heap.size, 1, none⟩ v2).cell? ⟨w'.heap.size, 1, none⟩ = some (.int .i64 (c : Int)) from by
    have h := (Below.heap_setCell (w2.setCell ⟨w.heap.size, 0, none⟩ v1) ⟨w.heap.size, 1, none⟩ v2 _ hkn).trans ((Below.heap_setCell w2 ⟨w.heap.size, 0, none⟩ v1 _ hkn).trans (persist HX.out hb))
    exact ⟨cell_of h 0 rfl, cell_of h 1 rfl⟩))
  clear hkn
  have z0 := lt_of_block hy
  have g0 := cell_of hy 0 rfl
  have g1 := cell_of hy 1 rfl
  have f0 := free_at hy 0
  have f1 := free_at hy 1
  clear hx hy hb hne
  generalize w'.heap.size = k at *
  cases q with
  | true =>
    go_region_held3 (fun w' => w'.cell? ⟨k, 0, none⟩ = some (.int .i64 (d : Int)) ∧ w'.cell? ⟨k, 1, none⟩ = some (.int .i64 (c : Int))) (first | exact HSX.out _ hD | exact HSZ.out _ hD _ _ | go_keep)
      (first
        | ((with_reducible refine (criseB_go _ a n cap l (HS.out.mono (btr HB.out hD))).mono ?_); rintro e w' ⟨rfl, hb⟩; rw [HR.out]; replace hD := btr hD hb; clear hb; obtain ⟨z0, ⟨_, g0⟩, ⟨_, g1⟩, f0, f1⟩ := HSY.out _ hD))
    go_wp2
    have HBE := Lib.hid (((btr HB.out hD).setCell (p := ⟨w.heap.size, 0, none⟩) (Nat.le_refl _) (.int .i64 (d : Int))).setCell (p := ⟨w.heap.size, 1, none⟩) (Nat.le_refl _) (.int .i64 (c : Int)))
    rw [HQ.out, HC.out, HR.out]
    exact bodyPost_ret (v := .tuple #[.agg #[.int .i64 (d : Int), .int .i64 (c : Int)], .bool r]) (by simp [results, Try.results56, go_sem, *]) rfl ⟨rfl, HBE.out⟩
  | false =>
    refine wp_region_F (S := (fun w' => w'.cell? ⟨k, 0, none⟩ = some (.int .i64 (d : Int)) ∧ w'.cell? ⟨k, 1, none⟩ = some (.int .i64 (c : Int)))) 99 (by kernel_rfl) (HSX.out _ hD) (fun hHeld => ?_)
    refine wpAnyF_take (i := 0) (oi := _) (v := ?_) rfl (by kernel_rfl) (by kernel_rfl) (by kernel_rfl) (by kernel_rfl) (fun _ _ _ h => h) (Or.inl ⟨by rfl, ?_⟩) (by assumption) ?_
    rotate_left
    · intro w hSw
      (try dsimp only at hSw)
      go_simp
      all_goals with_reducible rfl
    (try simp only [Act.put, List.setIfInBounds_toArray, List.set_cons_zero, List.set_cons_succ])
    refine wpAnyF_take (i := 1) (oi := _) (v := ?_) rfl (by kernel_rfl) (by kernel_rfl) (by kernel_rfl) (by kernel_rfl) (fun _ _ _ h => h) (Or.inl ⟨by rfl, ?_⟩) (by assumption) ?_
    rotate_left
    · intro w hSw
      (try dsimp only at hSw)
      go_simp
      all_goals with_reducible rfl
    (try simp only [Act.put, List.setIfInBounds_toArray, List.set_cons_zero, List.set_cons_succ])
    refine wpAnyF_take (i := 2) (oi := _) (v := ?_) rfl (by kernel_rfl) (by kernel_rfl) (by kernel_rfl) (by kernel_rfl) (fun _ _ _ h => h) (Or.inl ⟨by rfl, ?_⟩) (by assumption) ?_
    rotate_left
    · intro w hSw
      (try dsimp only at hSw)
      go_simp
      all_goals with_reducible rfl
    (try simp only [Act.put, List.setIfInBounds_toArray, List.set_cons_zero, List.set_cons_succ])
    refine wpAnyF_take (i := 3) (oi := _) (v := undef) rfl (by kernel_rfl) (by kernel_rfl) (by kernel_rfl) (by kernel_rfl) (fun _ _ _ h => h) (Or.inr ⟨by rfl, rfl⟩) (by assumption) ?_
    (try simp only [Act.put, List.setIfInBounds_toArray, List.set_cons_zero, List.set_cons_succ])
    refine wpAnyF_take (i := 4) (oi := _) (v := undef) rfl (by kernel_rfl) (by kernel_rfl) (by kernel_rfl) (by kernel_rfl) (fun _ _ _ h => h) (Or.inr ⟨by rfl, rfl⟩) (by assumption) ?_
    (try simp only [Act.put, List.setIfInBounds_toArray, List.set_cons_zero, List.set_cons_succ])
    refine wpAnyF_take (i := 5) (oi := _) (v := ?_) rfl (by kernel_rfl) (by kernel_rfl) (by kernel_rfl) (by kernel_rfl) (fun _ _ _ h => h) (Or.inl ⟨by rfl, ?_⟩) (by assumption) ?_
    rotate_left
    · intro w hSw
      (try dsimp only at hSw)
      go_simp
      all_goals with_reducible rfl
    (try simp only [Act.put, List.setIfInBounds_toArray, List.set_cons_zero, List.set_cons_succ])
    refine wpAnyF_one (i := 6) (o := _) (by kernel_rfl) rfl (fun K hK => ?_)
    go_simp
    refine hK.out _ _ (HSZ.out _ hD _ _) (fun hHeld => ?_)
    clear hK K
    (try simp only [Act.put, List.setIfInBounds_toArray, List.set_cons_zero, List.set_cons_succ])
    refine wpAnyF_take (i := 7) (oi := _) (v := ?_) rfl (by kernel_rfl) (by kernel_rfl) (by kernel_rfl) (by kernel_rfl) (fun _ _ _ h => h) (Or.inl ⟨by rfl, ?_⟩) (by assumption) ?_
    rotate_left
    · intro w hSw
      (try dsimp only at hSw)
      go_simp
      all_goals with_reducible rfl
    (try simp only [Act.put, List.setIfInBounds_toArray, List.set_cons_zero, List.set_cons_succ])
    refine wpAnyF_end (by kernel_rfl) ?_
    go_simp
    go_wp2
    have HBE := Lib.hid (((btr HB.out hD).setCell (p := ⟨w.heap.size, 0, none⟩) (Nat.le_refl _) (.int .i64 (d : Int))).setCell (p := ⟨w.heap.size, 1, none⟩) (Nat.le_refl _) (.int .i64 (c : Int)))
    rw [HQ.out, HC.out, HR.out]
    exact bodyPost_ret (v := .tuple #[.agg #[.int .i64 (d : Int), .int .i64 (c : Int)], .bool false]) (by simp [results, Try.results56, go_sem, *]) rfl ⟨rfl, HBE.out⟩
end Go.Proofs.Ytiapngmallfelaa
