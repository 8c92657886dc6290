
/- mirror: reading the table. -/
import Derived.Test.YtiapngmallfelaaDoorEp
namespace Go.Proofs.YtiapngmallfelaaDoor
open Go.RowKit
set_option linter.unusedSimpArgs false
theorem TblAt.word_at {V : World} {tb n : Nat} {W N : List (List Nat)} (h : TblAt V tb n W N) {u : Nat} (hu : u < W.length) :
    ∃ b off cw a c, V.cell? ⟨tb, 2, none⟩ = some (.slice (some ⟨b, off, none⟩) W.length cw) ∧ W.length ≤ cw ∧ cw ≤ maxLen ∧ tb < V.heap.size ∧ V.cell? ⟨b, off + u, none⟩ = some (.slice a (wdW W u).length c) ∧ Sl V a (wdW W u).length c (ints (wdW W u)) := by
  obtain ⟨aw, cw, an, cn, gm, h1, h2, h3⟩ := h
  obtain ⟨b, off, rfl, hb, hc⟩ := h2.at (by omega)
  obtain ⟨a, m, c, e1, e2⟩ := hc u hu
  rw [rw_ints] at e2
  have hm : m = (wdW W u).length := by have := e2.len; simpa [ints] using this.symm
  subst hm
  exact ⟨b, off, cw, a, c, by rw [cells_at h1]; rfl, h2.2.cap.1, h2.2.cap.2, lt_of_block h1, e1, e2⟩
theorem TblAt.next_at {V : World} {tb n : Nat} {W N : List (List Nat)} (h : TblAt V tb n W N) {u : Nat} (hu : u < N.length) :
    ∃ b off cw a c, V.cell? ⟨tb, 3, none⟩ = some (.slice (some ⟨b, off, none⟩) N.length cw) ∧ N.length ≤ cw ∧ cw ≤ maxLen ∧ tb < V.heap.size ∧ V.cell? ⟨b, off + u, none⟩ = some (.slice a (wdW N u).length c) ∧ Sl V a (wdW N u).length c (ints (wdW N u)) := by
  obtain ⟨aw, cw, an, cn, gm, h1, h2, h3⟩ := h
  obtain ⟨b, off, rfl, hb, hc⟩ := h3.at (by omega)
  obtain ⟨a, m, c, e1, e2⟩ := hc u hu
  rw [rw_ints] at e2
  have hm : m = (wdW N u).length := by have := e2.len; simpa [ints] using this.symm
  subst hm
  exact ⟨b, off, cn, a, c, by rw [cells_at h1]; rfl, h3.2.cap.1, h3.2.cap.2, lt_of_block h1, e1, e2⟩
theorem length_go (w : World) (tb n : Nat) (W N : List (List Nat)) (h : TblAt w tb n W N) (u : Nat) (hu : u < W.length) : Calls Tryd.prog 30 #[.pointer (some ⟨tb, 0, none⟩), .int .i64 (u : Int)] w fun e w' => e = .returned (.int .i64 ((wdW W u).length : Int)) ∧ w = w' := by
  obtain ⟨b, off, cw, a, c, e1, e2, e3, e4, e5, e6⟩ := h.word_at hu
  unfold maxLen at e3
  clear h e6
  go_enter Tryd.func30, Tryd.ntmps30
  go_wp2
  go_ret
  exact ⟨rfl, rfl⟩
theorem word_go (w : World) (tb n : Nat) (W N : List (List Nat)) (h : TblAt w tb n W N) (u : Nat) (hu : u < W.length) (hl : (wdW W u).length ≤ 1000) : Calls Tryd.prog 28 #[.pointer (some ⟨tb, 0, none⟩), .int .i64 (u : Int)] w (GivesSl w (ints (wdW W u))) := by
  obtain ⟨b, off, cw, a, c, e1, e2, e3, e4, e5, e6⟩ := h.word_at hu
  unfold maxLen at e3
  have HC := Lib.hid (clone_go w a (wdW W u).length c (ints (wdW W u)) e6 (by omega))
  clear h e6
  go_enter Tryd.func28, Tryd.ntmps28
  go_wp2_with fail
  refine HC.out.mono ?_
  rintro e w' ⟨a', n', p', rfl, hown, hb⟩
  have HO := Lib.hid hown
  have HB := Lib.hid hb
  clear hown hb
  go_wp2
  go_ret
  exact ⟨a', n', p', rfl, HO.out, HB.out⟩
structure OkT (n K : Nat) (W N : List (List Nat)) : Prop where
  wl : W.length = K
  nl : N.length = K
  w30 : ∀ u, (wdW W u).length ≤ 30
  wn : ∀ u, ∀ s ∈ wdW W u, s < n
  rl : ∀ u, u < K → (wdW N u).length = n
  rv : ∀ u, u < K → ∀ s, s < n → gn (wdW N u) s < K
  wk : ∀ u, u < K → walkN N 0 (wdW W u) = u
  fl : ∀ u, u < K → fallN W N u n < 2 ^ n
theorem wdW_mem {W : List (List Nat)} {u : Nat} (h : u < W.length) : wdW W u ∈ W := by
  unfold wdW
  rw [List.getD_eq_getElem?_getD, List.getElem?_eq_getElem h]
  exact List.getElem_mem h
theorem gn_memG {L : List Nat} {i : Nat} (h : i < L.length) : gn L i ∈ L := by
  unfold gn
  rw [List.getD_eq_getElem?_getD, List.getElem?_eq_getElem h]
  exact List.getElem_mem h
theorem okT_n {n : Nat} (h1 : 1 ≤ n) (h4 : n ≤ 4) : OkT n (sizeN n) (tabW n) (tabN n) := by
  have h := okTab_n h1 h4
  unfold okTab at h
  simp only [Bool.and_eq_true, beq_iff_eq, List.all_eq_true, decide_eq_true_eq, List.mem_range] at h
  obtain ⟨⟨⟨⟨⟨a1, a2⟩, a3⟩, a4⟩, a5⟩, a6⟩ := h
  refine ⟨a1, a2, fun u => ?_, fun u s hs => ?_, fun u hu => ?_, fun u hu s hs => ?_, a5, a6⟩
  · by_cases hu : u < (tabW n).length
    · exact (a3 _ (wdW_mem hu)).1
    · rw [wdW_out (by omega)]; simp
  · by_cases hu : u < (tabW n).length
    · exact (a3 _ (wdW_mem hu)).2 s hs
    · rw [wdW_out (by omega)] at hs; simp at hs
  · exact (a4 _ (wdW_mem (by omega))).1
  · have h5 := a4 _ (wdW_mem (W := tabN n) (u := u) (by omega))
    exact h5.2 _ (gn_memG (by omega))
theorem walkN_app (N : List (List Nat)) : ∀ (l : List Nat) (u s : Nat), walkN N u (l ++ [s]) = gn (wdW N (walkN N u l)) s
  | [], _, _ => rfl
  | _ :: l, _, s => walkN_app N l _ s
theorem take_gn {l : List Nat} {k : Nat} (h : k < l.length) : l.take (k + 1) = l.take k ++ [gn l k] := by
  rw [List.take_succ_eq_append_getElem h]
  simp [gn, h]
theorem walkN_lt {n K : Nat} {W N : List (List Nat)} (h : OkT n K W N) : ∀ (l : List Nat) (u : Nat), u < K → (∀ s ∈ l, s < n) → walkN N u l < K
  | [], u, hu, _ => hu
  | s :: l, u, hu, hl => walkN_lt h l _ (h.rv u hu s (hl s (by simp))) (fun x hx => hl x (by simp [hx]))
set_option maxHeartbeats 1000000 in
theorem tour_go (w : World) (tb n K : Nat) (W N : List (List Nat)) (h : TblAt w tb n W N) (ok : OkT n K W N) (_hK : K ≤ 120) (u0 : Nat) (hu : u0 < K) (a : Option Addr) (m c : Nat) (l : List Nat) (hs : Sl w a m c (ints l)) (hl : ∀ s ∈ l, s < n) (hm : m ≤ 30) (h4 : n ≤ 4) :
    Calls Tryd.prog 27 #[.pointer (some ⟨tb, 0, none⟩), .int .i64 (u0 : Int), .slice a m c] w fun e w' => e = .returned (.int .i64 (walkN N u0 l : Int)) ∧ w = w' := by
  have hlen : l.length = m := by have := hs.len; simpa [ints] using this
  have HS := Lib.hid hs
  have HT := Lib.hid h
  have HO := Lib.hid ok
  have HL := Lib.hid hl
  have HN := Lib.hid hlen
  clear hs h ok hl hlen
  go_enter Tryd.func27, Tryd.ntmps27
  go_wp2
  go_loop [1, 11] (fun vu t => ∃ i : Nat, i ≤ m ∧ t = .int .i64 i ∧ vu = .int .i64 (walkN N u0 (l.take i) : Int)) (fun _ t => m - (intOf t).toNat)
  case atStart => exact ⟨0, by omega, rfl, rfl⟩
  case round =>
    obtain ⟨i, hi, rfl, rfl⟩ := hrel
    have hult := walkN_lt HO.out (l.take i) u0 hu (fun s hs => HL.out s (List.mem_of_mem_take hs))
    by_cases him : i < m
    · obtain ⟨b1, o1, rfl, hb1, hc1⟩ := HS.out.at (by omega)
      have c1 := hc1 i him
      rw [nth_ints] at c1
      have hsn : gn l i < n := HL.out _ (gn_memG (by rw [HN.out]; exact him))
      have HSTEP := Lib.hid (show walkN N u0 (l.take (i + 1)) = gn (wdW N (walkN N u0 (l.take i))) (gn l i) by rw [take_gn (by rw [HN.out]; exact him), walkN_app])
      have hr := HO.out.rl _ hult
      have hv := HO.out.rv _ hult _ hsn
      have hnl := HO.out.nl
      obtain ⟨b, off, cw, a3, c3, e1, e2, e3, e4, e5, e6⟩ := HT.out.next_at (u := walkN N u0 (l.take i)) (by omega)
      rw [hnl] at e1 e2
      rw [hr] at e5 e6
      obtain ⟨b4, o4, rfl, hb4, hc4⟩ := e6.at (by omega)
      have c4 := hc4 (gn l i) hsn
      rw [nth_ints] at c4
      have hcap3 := e6.cap.1
      have hcap4 := e6.cap.2
      unfold maxLen at e3 hcap4
      clear hc1 hc4 e6 hr hnl
      generalize gn (wdW N (walkN N u0 (l.take i))) (gn l i) = z at *
      generalize walkN N u0 (l.take i) = u at *
      generalize gn l i = s at *
      go_wp2
      go_round
      case rel => exact ⟨i + 1, by omega, by go_num, by rw [HSTEP.out]⟩
      case measure => simp [intOf]; omega
    · obtain rfl : i = m := by omega
      go_wp2
      go_ret
      refine ⟨?_, rfl⟩
      rw [List.take_of_length_le (by rw [HN.out]; omega)]
      rfl
theorem fallN_lt (W N : List (List Nat)) (u : Nat) : ∀ s, fallN W N u s < 2 ^ s
  | 0 => by simp [fallN]
  | s + 1 => by
    have := fallN_lt W N u s
    unfold fallN
    split <;> omega
theorem or_pow {a s : Nat} (hs : s < 4) (ha : a < 2 ^ s) : bits .or .i64 (a : Int) ((2 : Int) ^ s) = ((a + 2 ^ s : Nat) : Int) := by
  have h : ((List.range 4).all fun s => (List.range 8).all fun a => !decide (a < 2 ^ s) || bits .or .i64 (a : Int) ((2 : Int) ^ s) == ((a + 2 ^ s : Nat) : Int)) = true := by kernel_rfl
  have h8 : 2 ^ s ≤ 2 ^ 3 := Nat.pow_le_pow_right (by omega) (by omega)
  have h1 := List.all_eq_true.1 (List.all_eq_true.1 h s (List.mem_range.2 hs)) a (List.mem_range.2 (by omega))
  simp only [ha, decide_true, Bool.not_true, Bool.false_or, beq_iff_eq] at h1
  exact h1
set_option maxHeartbeats 1000000 in
theorem falls_go (w : World) (tb n K : Nat) (W N : List (List Nat)) (h : TblAt w tb n W N) (ok : OkT n K W N) (_hK : K ≤ 120) (u : Nat) (hu : u < K) (h4 : n ≤ 4) :
    Calls Tryd.prog 17 #[.pointer (some ⟨tb, 0, none⟩), .int .i64 (u : Int)] w fun e w' => e = .returned (.int .i64 (fallN W N u n : Int)) ∧ w = w' := by
  have hr := ok.rl u hu
  have hnl := ok.nl
  have hwl := ok.wl
  obtain ⟨b, off, cw, a3, c3, e1, e2, e3, e4, e5, e6⟩ := h.next_at (u := u) (by omega)
  rw [hnl] at e1 e2
  rw [hr] at e5 e6
  unfold maxLen at e3
  have HS := Lib.hid e6
  have HT := Lib.hid h
  have HO := Lib.hid ok
  have hcap3 := e6.cap.1
  have hcap4 := e6.cap.2
  unfold maxLen at hcap4
  clear h ok e6 hr hnl
  go_enter Tryd.func17, Tryd.ntmps17
  go_wp2
  go_loop [5, 16] (fun vo t => ∃ s : Nat, s ≤ n ∧ t = .int .i64 s ∧ vo = .int .i64 (fallN W N u s : Int)) (fun _ t => n - (intOf t).toNat)
  case atStart => exact ⟨0, by omega, rfl, rfl⟩
  case round =>
    obtain ⟨s, hs, rfl, rfl⟩ := hrel
    have hf := fallN_lt W N u s
    by_cases hsn : s < n
    · obtain ⟨b4, o4, rfl, hb4, hc4⟩ := HS.out.at (by omega)
      have c4 := hc4 s hsn
      rw [nth_ints] at c4
      have hv := HO.out.rv u hu s hsn
      have HL1 := Lib.hid (length_go w tb n W N HT.out (gn (wdW N u) s) (by omega))
      have HL2 := Lib.hid (length_go w tb n W N HT.out u (by omega))
      have l1 := HO.out.w30 (gn (wdW N u) s)
      have l2 := HO.out.w30 u
      have kor := or_pow (s := s) (by omega) hf
      have kw := wrap_pow (n := s) (by omega)
      have hps := pow_small (n := s) (by omega)
      have hf2 : fallN W N u s < 16 := Nat.lt_of_lt_of_le hf (by have : 2 ^ s ≤ 2 ^ 4 := Nat.pow_le_pow_right (by omega) (by omega); omega)
      have HSTEP := Lib.hid (show fallN W N u (s + 1) = if (wdW W (gn (wdW N u) s)).length < (wdW W u).length then fallN W N u s + 2 ^ s else fallN W N u s from rfl)
      clear hc4 hf
      generalize fallN W N u s = f at *
      generalize (wdW W (gn (wdW N u) s)).length = x at *
      generalize (wdW W u).length = y at *
      generalize gn (wdW N u) s = z at *
      by_cases hxy : x < y
      · have HR := Lib.hid (HSTEP.out.trans (if_pos hxy))
        clear HSTEP
        go_wp2_with fail
        refine HL1.out.mono ?_
        rintro e w' ⟨rfl, rfl⟩
        go_wp2_with fail
        refine HL2.out.mono ?_
        rintro e w' ⟨rfl, rfl⟩
        go_wp2
        go_round
        case rel => exact ⟨s + 1, by omega, by go_num, by rw [HR.out]; simp⟩
        case measure => simp [intOf]; omega
      · have HR := Lib.hid (HSTEP.out.trans (if_neg hxy))
        clear HSTEP
        go_wp2_with fail
        refine HL1.out.mono ?_
        rintro e w' ⟨rfl, rfl⟩
        go_wp2_with fail
        refine HL2.out.mono ?_
        rintro e w' ⟨rfl, rfl⟩
        go_wp2
        go_round
        case rel => exact ⟨s + 1, by omega, by go_num, by rw [HR.out]⟩
        case measure => simp [intOf]; omega
    · obtain rfl : s = n := by omega
      go_wp2
      go_ret
      exact ⟨rfl, rfl⟩
end Go.Proofs.YtiapngmallfelaaDoor
