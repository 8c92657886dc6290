
/- mirror: All, Falls. -/
import Derived.Test.YtiapngmallfelaaDoorJe
namespace Go.Proofs.YtiapngmallfelaaDoor
open Go.RowKit
set_option linter.unusedSimpArgs false
theorem sizeN_bd {n : Nat} : 1 ≤ sizeN n ∧ sizeN n ≤ 120 := by unfold sizeN; repeat (split <;> try omega)
theorem mall_go (w : World) (n : Nat) (h1 : 1 ≤ n) (h4 : n ≤ 4) : Calls Tryd.prog 5 #[.agg #[.int .u8 65, .int .i64 (n : Int)]] w fun e w' => ∃ a c, e = .returned (.tuple #[.slice a (sizeN n) c, .int .i64 0]) ∧ RwSl w' a (sizeN n) c ((tabW n).map ints) ∧ Below w.heap.size w w' := by
  have hK := @sizeN_bd n
  have HOK := Lib.hid (okT_n h1 h4)
  have HORD := Lib.hid (okOrd_n h1 h4)
  go_enter Tryd.func5, Tryd.ntmps5
  go_wp2_with fail
  refine (read0_go _ n h1 h4).mono ?_
  rintro e w1 ⟨tb, rfl, hT, hb1⟩
  have HT := Lib.hid hT
  have HB1 := Lib.hid ((bal (Below.refl _ _) _).trans (hb1.mono (by simp)))
  clear hT hb1
  go_wp2_with fail
  refine (numbers_go w1 tb n (sizeN n) (tabW n) (tabN n) HT.out HOK.out HORD.out hK.1 (by omega)).mono ?_
  rintro e w2 ⟨a, c, rfl, hs, hb2⟩
  have HS := Lib.hid hs
  have HB2 := Lib.hid hb2
  clear hs hb2
  go_wp2_with fail
  refine (list_go w2 tb n (sizeN n) (tabW n) (tabN n) (HT.out.mono HB2.out) HOK.out hK.2 a c HS.out).mono ?_
  rintro e w3 ⟨a', c', rfl, hr, hb3⟩
  have HR := Lib.hid hr
  have HB3 := Lib.hid hb3
  clear hr hb3
  go_wp2
  go_ret2
  exact ⟨a', c', rfl, HR.out, HB1.out.trans ((HB2.out.trans (HB3.out.mono HB2.out.size)).mono HB1.out.size)⟩
theorem mfalls_go (w : World) (n : Nat) (h1 : 1 ≤ n) (h4 : n ≤ 4) (a : Option Addr) (m c u : Nat) (hu : u < sizeN n) (x : List Nat) (hs : Sl w a m c (ints x)) (hm : m ≤ 30) (hx : ∀ s ∈ x, s < n) (hwk : walkN (tabN n) 0 x = u) : Calls Tryd.prog 6 #[.agg #[.int .u8 65, .int .i64 (n : Int)], .slice a m c] w fun e w' => e = .returned (.tuple #[.int .i64 (fallN (tabW n) (tabN n) u n : Int), .int .i64 0]) ∧ Below w.heap.size w w' := by
  have hK := @sizeN_bd n
  have HOK := Lib.hid (okT_n h1 h4)
  obtain ⟨w0, hw0⟩ : ∃ w0, (w.alloc (.cells #[.int .u8 65, .int .i64 (n : Int)] 28)).alloc (.cells #[.slice a m c] 23) = w0 := ⟨_, rfl⟩
  have hp : w0.heap[w.heap.size + 1]? = some (.cells #[.slice a m c] 23 (0, 0)) := by
    rw [← hw0]
    have := new_at (w.alloc (.cells #[.int .u8 65, .int .i64 (n : Int)] 28)) (.cells #[.slice a m c] 23)
    simpa using this
  have hb0 : Below w.heap.size w w0 := by rw [← hw0]; exact bal (bal (Below.refl _ _) _) _
  have HRD := Lib.hid (read1_go w0 n h1 h4 _ a m c x hp (hs.mono hb0) hm hx)
  rw [hwk] at HRD
  have HB0 := Lib.hid hb0
  clear hs hx hp hb0
  go_enter Tryd.func6, Tryd.ntmps6
  go_wp2_with fail
  refine HRD.out.mono ?_
  rintro e w1 ⟨tb, o, q, rfl, k1, k2, hT, hb1⟩
  have HB1 := Lib.hid (HB0.out.trans (hb1.mono HB0.out.size))
  have HF := Lib.hid (falls_go w1 tb n (sizeN n) (tabW n) (tabN n) hT HOK.out hK.2 u hu h4)
  clear hT hb1 HRD hw0
  generalize hz : fallN (tabW n) (tabN n) u n = z at *
  go_wp2_with fail
  refine HF.out.mono ?_
  rintro e w' ⟨rfl, rfl⟩
  go_wp2
  go_ret2
  refine ⟨?_, HB1.out⟩
  rw [hz]
  rfl
end Go.Proofs.YtiapngmallfelaaDoor
