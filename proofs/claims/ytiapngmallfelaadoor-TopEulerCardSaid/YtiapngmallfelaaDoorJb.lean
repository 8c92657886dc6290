
/- mirror: the comparison of elements. -/
import Derived.Test.YtiapngmallfelaaDoorJa
import Derived.Shelf.SlSortCmp.NoneTotal
namespace Go.Proofs.YtiapngmallfelaaDoor
open Go.RowKit
set_option linter.unusedSimpArgs false
theorem nan_go (w : World) (x : Int) : Calls Tryd.prog 48 #[.int .i64 x] w fun e w' => e = .returned (.bool false) ∧ w = w' := by
  go_enter Tryd.func48, Tryd.ntmps48
  go_wp2
  go_ret
  exact ⟨rfl, rfl⟩
def cmI (x y : Int) : Int := if x < y then -1 else if y < x then 1 else 0
theorem cmpI_go (w : World) (x y : Int) : Calls Tryd.prog 42 #[.int .i64 x, .int .i64 y] w fun e w' => e = .returned (.int .i64 (cmI x y)) ∧ w = w' := by
  have HX := Lib.hid (nan_go w x)
  have HY := Lib.hid (nan_go w y)
  go_enter Tryd.func42, Tryd.ntmps42
  by_cases h1 : x < y
  · go_wp2_with fail
    refine HX.out.mono ?_
    rintro e w' ⟨rfl, rfl⟩
    go_wp2_with fail
    refine HY.out.mono ?_
    rintro e w' ⟨rfl, rfl⟩
    go_wp2
    go_ret
    exact ⟨ret_int (by unfold cmI; rw [if_pos h1]), rfl⟩
  · by_cases h2 : y < x
    · go_wp2_with fail
      refine HX.out.mono ?_
      rintro e w' ⟨rfl, rfl⟩
      go_wp2_with fail
      refine HY.out.mono ?_
      rintro e w' ⟨rfl, rfl⟩
      go_wp2
      go_ret
      exact ⟨ret_int (by unfold cmI; rw [if_neg (by omega), if_pos h2]), rfl⟩
    · go_wp2_with fail
      refine HX.out.mono ?_
      rintro e w' ⟨rfl, rfl⟩
      go_wp2_with fail
      refine HY.out.mono ?_
      rintro e w' ⟨rfl, rfl⟩
      go_wp2
      go_ret
      exact ⟨ret_int (by unfold cmI; rw [if_neg (by omega), if_neg (by omega)]), rfl⟩
theorem or_go (w : World) (p c : Nat) (_hc : 2 ≤ c) (_hcm : c ≤ 1000) (x y : Int) (_hp : p < w.heap.size) (h0 : w.cell? ⟨p, 0, none⟩ = some (.int .i64 x)) (h1 : w.cell? ⟨p, 1, none⟩ = some (.int .i64 y)) :
    Calls Tryd.prog 41 #[.slice (some ⟨p, 0, none⟩) 2 c] w fun e w' => e = .returned (.int .i64 (if x = 0 then y else x)) ∧ w = w' := by
  go_enter Tryd.func41, Tryd.ntmps41
  go_wp2
  go_loop [8] (fun t => ∃ i : Nat, i ≤ 2 ∧ t = .int .i64 i ∧ (i ≥ 1 → x = 0) ∧ (i ≥ 2 → y = 0)) (fun t => 2 - (intOf t).toNat)
  case atStart => exact ⟨0, by omega, rfl, by omega, by omega⟩
  case round =>
    obtain ⟨i, hi, rfl, k1, k2⟩ := hrel
    have hi3 : i = 0 ∨ i = 1 ∨ i = 2 := by omega
    rcases hi3 with rfl | rfl | rfl
    · by_cases hx : x = 0
      · go_wp2
        go_round
        case rel => exact ⟨1, by omega, by go_num, fun _ => hx, by omega⟩
        case measure => simp [intOf]
      · go_wp2
        go_ret
        exact ⟨rfl, rfl⟩
    · have hx := k1 (by omega)
      clear k1 k2
      by_cases hy : y = 0
      · go_wp2
        go_round
        case rel => exact ⟨2, by omega, by go_num, fun _ => hx, fun _ => hy⟩
        case measure => simp [intOf]
      · go_wp2
        go_ret
        exact ⟨rfl, rfl⟩
    · have hx := k1 (by omega)
      have hy := k2 (by omega)
      clear k1 k2
      go_wp2
      go_ret
      exact ⟨rfl, rfl⟩
theorem lexN_take {x y : List Nat} {i : Nat} (h : x.take i = y.take i) (hx : i ≤ x.length) (hy : i ≤ y.length) : lexN x y = lexN (x.drop i) (y.drop i) := by
  induction i generalizing x y with
  | zero => rfl
  | succ i ih =>
    cases x with
    | nil => simp at hx
    | cons a x =>
      cases y with
      | nil => simp at hy
      | cons b y =>
        simp only [List.take_succ_cons, List.cons.injEq] at h
        obtain ⟨rfl, h⟩ := h
        rw [List.drop_succ_cons, List.drop_succ_cons, ← ih h (by simpa using hx) (by simpa using hy)]
        unfold lexN
        simp
        cases x <;> cases y <;> rfl
theorem drop_gn {x : List Nat} {i : Nat} (h : i < x.length) : x.drop i = gn x i :: x.drop (i + 1) := by
  rw [List.drop_eq_getElem_cons h]
  simp [gn, h]
theorem lexN_nil (y : List Nat) (x : List Nat) : lexN [] y = (if 0 < y.length then -1 else 0) ∧ (0 < x.length → lexN x [] = 1) := by
  constructor
  · cases y <;> simp [lexN]
  · cases x <;> simp [lexN]
theorem scmp_go (w : World) (a b : Option Addr) (m n c d : Nat) (x y : List Nat) (hx : Sl w a m c (ints x)) (hy : Sl w b n d (ints y)) (hm : m ≤ 1000) (hn : n ≤ 1000) :
    Calls Tryd.prog 43 #[.slice a m c, .slice b n d] w fun e w' => e = .returned (.int .i64 (lexN x y)) ∧ w = w' := by
  have hlx : x.length = m := by have := hx.len; simpa [ints] using this
  have hly : y.length = n := by have := hy.len; simpa [ints] using this
  have hcx := hx.cap
  have hcy := hy.cap
  unfold maxLen at hcx hcy
  have HX := Lib.hid hx
  have HY := Lib.hid hy
  have LX := Lib.hid hlx
  have LY := Lib.hid hly
  clear hx hy hlx hly
  go_enter Tryd.func43, Tryd.ntmps43
  go_wp2
  go_loop [11] (fun t => ∃ i : Nat, i ≤ m ∧ i ≤ n ∧ t = .int .i64 i ∧ Hid (x.take i = y.take i)) (fun t => m - (intOf t).toNat)
  case atStart => exact ⟨0, by omega, by omega, rfl, rfl⟩
  case round =>
    obtain ⟨i, him, hin, rfl, HT⟩ := hrel
    have HD := Lib.hid (lexN_take HT.out (by rw [LX.out]; exact him) (by rw [LY.out]; exact hin))
    by_cases hi : i < m
    · obtain ⟨b1, o1, rfl, hb1, hc1⟩ := HX.out.at (by omega)
      have e1 := hc1 i hi
      rw [nth_ints] at e1
      clear hc1
      by_cases hj : i < n
      · obtain ⟨b2, o2, rfl, hb2, hc2⟩ := HY.out.at (by omega)
        have e2 := hc2 i hj
        rw [nth_ints] at e2
        have HC := Lib.hid (cmpI_go w (gn x i : Int) (gn y i : Int))
        have G1 := Lib.hid (drop_gn (x := x) (i := i) (by rw [LX.out]; exact hi))
        have G2 := Lib.hid (drop_gn (x := y) (i := i) (by rw [LY.out]; exact hj))
        have G3 := Lib.hid (take_gn (l := x) (k := i) (by rw [LX.out]; exact hi))
        have G4 := Lib.hid (take_gn (l := y) (k := i) (by rw [LY.out]; exact hj))
        clear hc2
        generalize gn x i = p at *
        generalize gn y i = q at *
        by_cases hpq : p < q
        · have hcm : cmI (p : Int) (q : Int) = -1 := by unfold cmI; rw [if_pos (by omega)]
          rw [hcm] at HC
          go_wp2_with fail
          refine HC.out.mono ?_
          rintro e w' ⟨rfl, rfl⟩
          go_wp2
          go_ret
          refine ⟨ret_int ?_, rfl⟩
          rw [HD.out, G1.out, G2.out]
          unfold lexN
          rw [if_pos hpq]
        · by_cases hqp : q < p
          · have hcm : cmI (p : Int) (q : Int) = 1 := by unfold cmI; rw [if_neg (by omega), if_pos (by omega)]
            rw [hcm] at HC
            go_wp2_with fail
            refine HC.out.mono ?_
            rintro e w' ⟨rfl, rfl⟩
            go_wp2
            go_ret
            refine ⟨ret_int ?_, rfl⟩
            rw [HD.out, G1.out, G2.out]
            unfold lexN
            rw [if_neg hpq, if_pos hqp]
          · have hcm : cmI (p : Int) (q : Int) = 0 := by unfold cmI; rw [if_neg (by omega), if_neg (by omega)]
            rw [hcm] at HC
            go_wp2_with fail
            refine HC.out.mono ?_
            rintro e w' ⟨rfl, rfl⟩
            go_wp2
            go_round
            case rel => exact ⟨i + 1, by omega, by omega, by go_num, show _ = _ by rw [G3.out, G4.out, HT.out, show p = q by omega]⟩
            case measure => simp [intOf]; omega
      · obtain rfl : i = n := by omega
        go_wp2
        go_ret
        refine ⟨ret_int ?_, rfl⟩
        rw [HD.out, show y.drop i = [] from List.drop_eq_nil_of_le (by rw [LY.out]; exact Nat.le_refl _)]
        rw [(lexN_nil [] (x.drop i)).2 (by rw [List.length_drop, LX.out]; omega)]
    · obtain rfl : i = m := by omega
      have HE := Lib.hid (show lexN x y = if i < n then -1 else 0 by
        rw [HD.out, show x.drop i = [] from List.drop_eq_nil_of_le (by rw [LX.out]; exact Nat.le_refl _), (lexN_nil (y.drop i) []).1, List.length_drop, LY.out]
        by_cases h : i < n
        · rw [if_pos h, if_pos (by omega)]
        · rw [if_neg h, if_neg (by omega)])
      by_cases hj : i < n
      · go_wp2
        go_ret
        exact ⟨ret_int (by rw [HE.out, if_pos hj]), rfl⟩
      · go_wp2
        go_ret
        exact ⟨ret_int (by rw [HE.out, if_neg hj]), rfl⟩
theorem cmpW_eq (W : List (List Nat)) (u v : Nat) : (if cmI (((wdW W u).length : Nat) : Int) (((wdW W v).length : Nat) : Int) = 0 then lexN (wdW W u) (wdW W v) else cmI (((wdW W u).length : Nat) : Int) (((wdW W v).length : Nat) : Int)) = cmpW W u v := by
  unfold cmpW
  dsimp only
  by_cases h1 : (wdW W u).length < (wdW W v).length
  · rw [if_pos h1, show cmI (((wdW W u).length : Nat) : Int) (((wdW W v).length : Nat) : Int) = -1 by unfold cmI; rw [if_pos (by omega)]]; rfl
  · rw [if_neg h1]
    by_cases h2 : (wdW W v).length < (wdW W u).length
    · rw [if_pos h2, show cmI (((wdW W u).length : Nat) : Int) (((wdW W v).length : Nat) : Int) = 1 by unfold cmI; rw [if_neg (by omega), if_pos (by omega)]]; rfl
    · rw [if_neg h2, show cmI (((wdW W u).length : Nat) : Int) (((wdW W v).length : Nat) : Int) = 0 by unfold cmI; rw [if_neg (by omega), if_neg (by omega)]]; rfl
set_option maxHeartbeats 1000000 in
theorem sortc_go (w : World) (xb tb n K : Nat) (W N : List (List Nat)) (hx : w.heap[xb]? = some (.cells #[.pointer (some ⟨tb, 0, none⟩)] 42 (0, 0))) (h : TblAt w tb n W N) (ok : OkT n K W N) (u v : Nat) (hu : u < K) (hv : v < K) :
    Calls Tryd.prog 40 #[.int .i64 (u : Int), .int .i64 (v : Int), .pointer (some ⟨xb, 0, none⟩)] w fun e w' => e = .returned (.int .i64 (cmpW W u v)) ∧ ∃ q os, w' = Go.Sort.grow (w.drewN q) os := by
  have hK := ok.wl
  obtain ⟨b, off, cw, a1, c1, e1, e2, e3, e4, e5, e6⟩ := h.word_at (u := u) (by omega)
  obtain ⟨b', off', cw', a2, c2, f1, f2, f3, f4, f5, f6⟩ := h.word_at (u := v) (by omega)
  obtain ⟨⟨rfl, rfl⟩, rfl⟩ : (b = b' ∧ off = off') ∧ cw = cw' := by
    rw [e1] at f1
    simpa using f1
  have r1 := ok.w30 u
  have r2 := ok.w30 v
  unfold maxLen at e3
  have x1 := one_atB hx
  have x2 := lt_of_block hx
  have HL1 := Lib.hid (length_go w.drew tb n W N (h.mono (drewB ⟨1, rfl⟩)) u (by omega))
  have HL2 := Lib.hid (length_go w.drew tb n W N (h.mono (drewB ⟨1, rfl⟩)) v (by omega))
  have HCI := Lib.hid (cmpI_go w.drew (((wdW W u).length : Nat) : Int) (((wdW W v).length : Nat) : Int))
  have HSC := Lib.hid (scmp_go w.drew a1 a2 _ _ c1 c2 _ _ (e6.mono (drewB ⟨1, rfl⟩)) (f6.mono (drewB ⟨1, rfl⟩)) (by omega) (by omega))
  have HEQ := Lib.hid (cmpW_eq W u v)
  rw [hK] at e1 e2 f2
  clear e6 f6 h ok f1 f3 f4 hx hK
  generalize cmpW W u v = r at *
  generalize lexN (wdW W u) (wdW W v) = y at *
  generalize cmI (((wdW W u).length : Nat) : Int) (((wdW W v).length : Nat) : Int) = x at *
  generalize (wdW W u).length = lu at *
  generalize (wdW W v).length = lv at *
  go_enter Tryd.func40, Tryd.ntmps40
  go_wp2
  go_still_tail 22, (by kernel_rfl)
  repeat still_step
  refine wpStill_step (fun KK hK => ?_)
  go_simp
  refine ⟨_, HL1.out.mono (fun _ _ q => ⟨q.1, q.2.symm⟩), hK _ ?_⟩
  clear hK KK
  repeat still_step
  refine wpStill_step (fun KK hK => ?_)
  go_simp
  refine ⟨_, HL2.out.mono (fun _ _ q => ⟨q.1, q.2.symm⟩), hK _ ?_⟩
  clear hK KK
  repeat still_step
  refine wpStill_step (fun KK hK => ?_)
  go_simp
  refine ⟨_, HCI.out.mono (fun _ _ q => ⟨q.1, q.2.symm⟩), hK _ ?_⟩
  clear hK KK
  repeat still_step
  refine wpStill_step (fun KK hK => ?_)
  go_simp
  refine ⟨_, HSC.out.mono (fun _ _ q => ⟨q.1, q.2.symm⟩), hK _ ?_⟩
  clear hK KK
  repeat still_step
  refine wpStill_nil ?_
  change wpList _ _ _ _ _ w.drew
  clear HL1 HL2 HCI HSC
  generalize hwd : w.drew = wd at *
  go_wp2_with fail
  refine (or_go _ _ 2 (by omega) (by omega) x y ?_ ?_ ?_).mono ?_
  rotate_right
  · rw [HEQ.out]
    rintro e w' ⟨rfl, rfl⟩
    go_wp2
    go_ret
    refine ⟨rfl, 1, ?_⟩
    rw [← hwd]
    exact ⟨_, Go.Sort.alloc_eq_grow _ _⟩
  · simp [heap_alloc_eq]
  · rw [cells_at (new_at _ _)]; rfl
  · rw [cells_at (new_at _ _)]; rfl
end Go.Proofs.YtiapngmallfelaaDoor
