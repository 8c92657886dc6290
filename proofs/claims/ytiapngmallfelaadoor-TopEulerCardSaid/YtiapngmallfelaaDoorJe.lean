
/- mirror: list, read. -/
import Derived.Test.YtiapngmallfelaaDoorJd
import Derived.Test.YtiapngmallfelaaDoorEn
namespace Go.Proofs.YtiapngmallfelaaDoor
open Go.RowKit
set_option linter.unusedSimpArgs false
theorem own_ge {w : World} {base n cap : Nat} {a : Option Addr} {L : List Value} (h : w.ownsRow base 3 1 (.slice a n cap) n L) : ∀ b o, a = some ⟨b, o, none⟩ → base ≤ b := by
  rintro b o rfl
  rcases h.2 with ⟨h, _⟩ | ⟨g, c, cur, h, hb, _⟩
  · simp at h
  · simp at h
    omega
theorem wdW_take {W : List (List Nat)} {i : Nat} (h : i < W.length) : W.take (i + 1) = W.take i ++ [wdW W i] := by
  rw [List.take_succ_eq_append_getElem h]
  simp [wdW, h]
set_option maxHeartbeats 1000000 in
theorem list_go (w : World) (tb n K : Nat) (W N : List (List Nat)) (hT : TblAt w tb n W N) (ok : OkT n K W N) (hK2 : K ≤ 120) (a : Option Addr) (c : Nat) (hs : Sl w a K c (ints (List.range K))) :
    Calls Tryd.prog 15 #[.pointer (some ⟨tb, 0, none⟩), .slice a K c] w fun e w' => ∃ a' c', e = .returned (.slice a' K c') ∧ RwSl w' a' K c' (W.map ints) ∧ Below w.heap.size w w' := by
  have HT := Lib.hid hT
  have HOK := Lib.hid ok
  have HS := Lib.hid hs
  clear hT ok hs
  go_enter Tryd.func15, Tryd.ntmps15
  go_wp2
  go_loopw [5, 10] (fun v t wr => ∃ i : Nat, i ≤ K ∧ t = .int .i64 i ∧ Hid (LS w (W.take i) v wr)) (fun _ t _ => K - (intOf t).toNat)
  case atStart => exact ⟨0, by omega, rfl, LS.start w⟩
  case round =>
    obtain ⟨i, hi, rfl, HL⟩ := hrel
    have HB := Lib.hid (show Below w.heap.size w wr by obtain ⟨_, h, _⟩ := HL.out; exact h)
    by_cases hiK : i < K
    · obtain ⟨b, o, rfl, hb, hc⟩ := (HS.out.mono HB.out).at (by omega)
      have e1 := hc i hiK
      rw [nth_ints, show gn (List.range K) i = i by simp [gn, hiK]] at e1
      have hwl := HOK.out.wl
      have h30 := HOK.out.w30 i
      have HW := Lib.hid (word_go wr tb n W N (HT.out.mono HB.out) i (by omega) (by omega))
      have HTK := Lib.hid (wdW_take (W := W) (i := i) (by omega))
      have hlen : (W.take i).length < 1000 := by simp; omega
      clear hc hwl h30
      go_wp2_with fail
      refine HW.out.mono ?_
      rintro e w1 ⟨a1, n1, p1, rfl, hown, hb1⟩
      obtain ⟨v', V', hrun, ⟨va, vk, vc, rfl⟩, hls⟩ := LS.snoc HL.out (hb1.alloc hb1.size (.cells #[.slice a1 n1 p1] 23)) (own_ge hown) ((own_sl hown).mono ((Below.refl _ w1).alloc (Nat.le_refl _) _)) (new_at w1 (.cells #[.slice a1 n1 p1] 23)) hlen
      have HR := Lib.hid hrun
      have HL2 := Lib.hid hls
      clear hrun hls hown hb1
      go_wp2_with (at_builtin; refine wpList_appR rfl _ _ 29 rfl rfl _ _ rfl rfl HR.out ?_)
      go_roundw
      case rel => exact ⟨i + 1, by omega, by go_num, by rw [HTK.out]; exact HL2.out⟩
      case measure => simp [intOf]; omega
    · obtain rfl : i = K := by omega
      have hwl := HOK.out.wl
      rw [List.take_of_length_le (by omega)] at HL
      obtain ⟨_, _, _, hr⟩ := HL.out
      obtain ⟨a', cp, rfl, hrw⟩ := hr.sl
      rw [hwl] at *
      have HRW := Lib.hid hrw
      clear hrw hr HL
      go_wp2
      go_ret
      exact ⟨_, _, rfl, HRW.out, HB.out⟩
set_option maxHeartbeats 1000000 in
theorem read0_go (w : World) (n : Nat) (h1 : 1 ≤ n) (h4 : n ≤ 4) : Calls Tryd.prog 14 #[.agg #[.int .u8 65, .int .i64 (n : Int)], .slice none 0 0] w fun e w' => ∃ tb, e = .returned (.tuple #[.pointer (some ⟨tb, 0, none⟩), .slice none 0 0, .bool true]) ∧ TblAt w' tb n (tabW n) (tabN n) ∧ Below w.heap.size w w' := by
  go_enter Tryd.func14, Tryd.ntmps14
  go_wp2_with fail
  refine (mirrors_go _ n h1 h4).mono ?_
  rintro e w1 ⟨rfl, hb1⟩
  have q0 := persist (new_at w (.cells #[.int .u8 65, .int .i64 (n : Int)] 28)) hb1
  have c0 : w1.cell? ⟨w.heap.size, 0, none⟩ = some (.int .u8 65) := by rw [cells_at q0]; rfl
  have c1 : w1.cell? ⟨w.heap.size, 1, none⟩ = some (.int .i64 (n : Int)) := by rw [cells_at q0]; rfl
  have z0 := lt_of_block q0
  have HB1 := Lib.hid ((bal (Below.refl _ _) _).trans (hb1.mono (by simp)))
  clear hb1
  go_wp2_with fail
  refine (all_go _ n h1 h4).mono ?_
  rintro e w2 ⟨tb, rfl, hT, hb2⟩
  have HT := Lib.hid hT
  have HB2 := Lib.hid (show Below w.heap.size w w2 from (bal HB1.out _).trans (hb2.mono (by have := HB1.out.size; simp; omega)))
  clear hT hb2
  go_wp2
  go_loopw [9, 20] (fun v t wr => v = .slice none 0 0 ∧ t = .int .i64 0 ∧ w2 = wr) (fun _ _ _ => 0)
  case atStart => exact ⟨rfl, rfl, rfl⟩
  case round =>
    obtain ⟨rfl, rfl, rfl⟩ := hrel
    go_wp2
    go_ret3
    exact ⟨tb, rfl, HT.out, HB2.out⟩
theorem rd_go (w : World) (p n s : Nat) (hp : w.cell? ⟨p, 0, none⟩ = some (.int .i64 (n : Int))) (_hpl : p < w.heap.size) (hs : s < n) : Calls Tryd.prog 26 #[.int .i64 (s : Int), .pointer (some ⟨p, 0, none⟩)] w fun e w' => e = .returned (.bool false) ∧ w = w' := by
  go_enter Tryd.func26, Tryd.ntmps26
  go_wp2
  go_ret
  refine ⟨ret_bool ?_, rfl⟩
  simp
  omega
set_option maxHeartbeats 1000000 in
theorem read1_go (w : World) (n : Nat) (h1 : 1 ≤ n) (h4 : n ≤ 4) (p : Nat) (a : Option Addr) (m c : Nat) (x : List Nat) (hp : w.heap[p]? = some (.cells #[.slice a m c] 23 (0, 0))) (hs : Sl w a m c (ints x)) (hm : m ≤ 30) (hx : ∀ s ∈ x, s < n) :
    Calls Tryd.prog 14 #[.agg #[.int .u8 65, .int .i64 (n : Int)], .slice (some ⟨p, 0, none⟩) 1 1] w fun e w' => ∃ tb o q, e = .returned (.tuple #[.pointer (some ⟨tb, 0, none⟩), .slice (some ⟨o, 0, none⟩) 1 q, .bool true]) ∧ o < w'.heap.size ∧ w'.cell? ⟨o, 0, none⟩ = some (.int .i64 (walkN (tabN n) 0 x : Int)) ∧ TblAt w' tb n (tabW n) (tabN n) ∧ Below w.heap.size w w' := by
  have hxl : x.length = m := by have := hs.len; simpa [ints] using this
  have HP := Lib.hid hp
  have HS := Lib.hid hs
  have HX := Lib.hid hx
  have HXL := Lib.hid hxl
  have ok := okT_n h1 h4
  have hK : 1 ≤ sizeN n ∧ sizeN n ≤ 120 := by unfold sizeN; repeat (split <;> try omega)
  have HOK := Lib.hid ok
  clear hp hs hx hxl ok
  go_enter Tryd.func14, Tryd.ntmps14
  go_wp2_with fail
  refine (mirrors_go _ n h1 h4).mono ?_
  rintro e w1 ⟨rfl, hb1⟩
  have q0 := persist (new_at w (.cells #[.int .u8 65, .int .i64 (n : Int)] 28)) hb1
  have c0 : w1.cell? ⟨w.heap.size, 0, none⟩ = some (.int .u8 65) := by rw [cells_at q0]; rfl
  have c1 : w1.cell? ⟨w.heap.size, 1, none⟩ = some (.int .i64 (n : Int)) := by rw [cells_at q0]; rfl
  have z0 := lt_of_block q0
  have HB1 := Lib.hid ((bal (Below.refl _ _) _).trans (hb1.mono (by simp)))
  clear hb1
  go_wp2_with fail
  refine (all_go _ n h1 h4).mono ?_
  rintro e w2 ⟨tb, rfl, hT, hb2⟩
  have HT := Lib.hid hT
  have q1 := persist (new_at w1 (.cells #[.int .i64 (n : Int)] 3)) hb2
  have c2 : w2.cell? ⟨w1.heap.size, 0, none⟩ = some (.int .i64 (n : Int)) := by rw [cells_at q1]; rfl
  have z1 := lt_of_block q1
  have HB2 := Lib.hid (show Below w.heap.size w w2 from (bal HB1.out _).trans (hb2.mono (by have := HB1.out.size; simp; omega)))
  have p1 := persist HP.out HB2.out
  have c3 := one_atB p1
  have z3 := lt_of_block p1
  have HS2 := Lib.hid (HS.out.mono HB2.out)
  clear hT hb2 c0 c1 z0 q0 q1 p1
  generalize w1.heap.size = y at *
  have HRC := Lib.hid (cfI_go w2 a m c (ints x) HS2.out 26 #[.pointer (some ⟨y, 0, none⟩)] (enters_of Tryd.func26 (by kernel_rfl) rfl) (fun i hi => by
    rw [nth_ints]
    exact rd_go w2 y n _ c2 z1 (HX.out _ (gn_memG (by rw [HXL.out]; exact hi)))))
  have HWK := Lib.hid (tour_go w2 tb n (sizeN n) (tabW n) (tabN n) HT.out HOK.out hK.2 0 (by omega) a m c x HS2.out HX.out hm h4)
  clear HB1
  go_wp2
  go_loopw [9, 20] (fun v t wr => (v = .slice none 0 0 ∧ t = .int .i64 0 ∧ w2 = wr) ∨ (t = .int .i64 1 ∧ ∃ o q, v = .slice (some ⟨o, 0, none⟩) 1 q ∧ o < wr.heap.size ∧ wr.cell? ⟨o, 0, none⟩ = some (.int .i64 (walkN (tabN n) 0 x : Int)) ∧ Hid (Below w2.heap.size w2 wr))) (fun _ t _ => 1 - (intOf t).toNat)
  case atStart => exact .inl ⟨rfl, rfl, rfl⟩
  case round =>
    rcases hrel with ⟨rfl, rfl, rfl⟩ | ⟨rfl, o, q, rfl, k1, k2, HB3⟩
    · go_wp2_with fail
      refine HRC.out.mono ?_
      rintro e w' ⟨rfl, rfl⟩
      go_wp2_with fail
      refine HWK.out.mono ?_
      rintro e w' ⟨rfl, rfl⟩
      generalize hz : walkN (tabN n) 0 x = z at *
      go_wp2_with (at_builtin; refine wpList_app rfl _ _ 23 rfl Tryd.underlying23 w2.heap.size (.slice none 0 0) 0 [] rfl ⟨rfl, .inl ⟨rfl, rfl⟩⟩ (some ⟨w2.heap.size, 0, none⟩) 1 1 [((z : Nat) : Int)] rfl (sl_one _ _) (by omega) (by simp) ?_; intro v' wn hown' hgrow)
      go_roundw
      case rel =>
        have hb3 : Below w2.heap.size w2 wn := ((Below.refl _ w2).alloc (Nat.le_refl _) _).grown hgrow (by simp) (fun k hk => by simp [Value.ownBlock] at hk)
        rcases hown'.2 with ⟨_, h0⟩ | ⟨g, cap, cur, rfl, hg0, hg, hnc, hcm, hcs, htake⟩
        · omega
        refine .inr ⟨by go_num, g, cap, rfl, lt_of_block hg, ?_, hb3⟩
        rw [cells_at hg]
        have h4 : ((([] : List Int) ++ [((z : Nat) : Int)]).map (Value.int .i64))[0]? = some (.int .i64 (z : Int)) := rfl
        rw [← htake, List.getElem?_take] at h4
        split at h4
        · rw [hz]; simpa using h4
        · cases h4
      case measure => simp [intOf]
    · go_wp2
      go_ret3
      exact ⟨tb, o, q, rfl, k1, k2, HT.out.mono HB3.out, HB2.out.trans (HB3.out.mono HB2.out.size)⟩
end Go.Proofs.YtiapngmallfelaaDoor
