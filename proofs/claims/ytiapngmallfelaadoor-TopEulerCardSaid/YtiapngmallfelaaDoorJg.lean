
/- rooks: the least case; slices.Equal. -/
import Derived.Test.YtiapngmallfelaaDoorEh
namespace Go.Proofs.YtiapngmallfelaaDoor
open Go.RowKit
set_option linter.unusedSimpArgs false
set_option maxHeartbeats 1000000 in
theorem equal_go (w : World) (a c : Option Addr) (n p m q : Nat) (l k : List Int) (hs : Sl w a n p l) (ht : Sl w c m q k) :
    Calls Tryd.prog 8 #[.slice a n p, .slice c m q] w fun e w' => e = .returned (.bool (decide (l = k))) ∧ ∃ m, w' = w.drewN m := by
  have hl := hs.len
  have hk := ht.len
  by_cases hnm : n = m
  · subst hnm
    have HL : Hid (l.length = n) := hl
    have HK : Hid (k.length = n) := hk
    have hmax : n ≤ 9223372036854775807 := by have := hs.2.1; have := hs.2.2.1; unfold maxLen at this; omega
    clear hl hk
    by_cases h0 : n = 0
    · subst h0
      go_enter Tryd.func8, Tryd.ntmps8
      go_wp2
      go_loop [13] (fun i => i = .int .i64 0) (fun _ => 0)
      case atStart => rfl
      case round =>
        subst hrel
        go_wp2
        go_ret
        exact ⟨ret_true (by rw [List.eq_nil_of_length_eq_zero HL.out, List.eq_nil_of_length_eq_zero HK.out]), 0, rfl⟩
    rcases hs.parts with ⟨_, rfl, _⟩ | ⟨b, off, rfl, hs2⟩
    · omega
    rcases ht.parts with ⟨_, h, _⟩ | ⟨b2, off2, rfl, ht2⟩
    · omega
    obtain ⟨hb, hc⟩ := hs2.cells (by omega)
    obtain ⟨hb2, hc2⟩ := ht2.cells (by omega)
    clear hs ht hs2 ht2
    go_enter Tryd.func8, Tryd.ntmps8
    go_wp2
    go_loopw [13] (fun i wr => ∃ j : Nat, j ≤ n ∧ i = .int .i64 j ∧ Hid (∃ m, wr = w.drewN m) ∧ Hid (∀ i, i < j → nth l i = nth k i)) (fun i _ => n - (intOf i).toNat)
    case atStart => exact ⟨0, by omega, rfl, ⟨0, rfl⟩, fun i hi => by omega⟩
    case round =>
      obtain ⟨j, hj, rfl, HW, HR⟩ := hrel
      by_cases hlt : j < n
      · have hck : wr.cell? ⟨b, off + j, none⟩ = some (.int .i64 (nth l j)) := by obtain ⟨m, rfl⟩ := HW.out; exact hc j hlt
        have hck2 : wr.cell? ⟨b2, off2 + j, none⟩ = some (.int .i64 (nth k j)) := by obtain ⟨m, rfl⟩ := HW.out; exact hc2 j hlt
        go_wp2
        go_quiet (fail)
        by_cases q : nth l j = nth k j
        · go_wp2
          go_roundw
          case rel =>
            refine ⟨j + 1, by omega, by go_num, ?_, fun i hi => ?_⟩
            · obtain ⟨m, rfl⟩ := HW.out; exact ⟨m + nq, by rw [World.drewN_drewN]⟩
            · rcases Nat.lt_or_ge i j with h | h
              · exact HR.out i h
              · obtain rfl : i = j := by omega
                exact q
          case measure => simp [intOf]; omega
        · go_wp2
          go_ret
          refine ⟨ret_false (fun e => q (by rw [e])), ?_⟩
          obtain ⟨m, rfl⟩ := HW.out; exact ⟨m + nq, by rw [World.drewN_drewN]⟩
      · go_wp2
        go_ret
        refine ⟨ret_true ?_, HW.out⟩
        have h1 := HL.out
        have h2 := HK.out
        exact List.ext_getElem (by omega) fun i hi hi2 => by
          have := HR.out i (by omega)
          rw [nth_of_lt hi, nth_of_lt hi2] at this; exact this
  · have hne : ((n : Int) != (m : Int)) = true := by rw [bne_iff_ne]; omega
    go_enter Tryd.func8, Tryd.ntmps8
    go_wp2
    go_ret
    exact ⟨ret_false (fun e => hnm (by rw [← hl, ← hk, e])), 0, rfl⟩

set_option maxHeartbeats 1000000 in
theorem places_go (w : World) (tab : Tab w) : Calls Tryd.prog 9 #[] w fun e w' => e = .returned (.bool true) ∧ Below w.heap.size w w' := by
  have hb0 : Below w.heap.size w (w.alloc (.cells #[.int .i64 1] 3)) := bal (Below.refl _ _) _
  have HR := Lib.hid (rooks1_go (w.alloc (.cells #[.int .i64 1] 3)) w.heap.size (new_at _ _) (tab.mono hb0.size (hb0.block 1 tab.1)))
  have HB0 := Lib.hid hb0
  clear tab hb0
  go_enter Tryd.func9, Tryd.ntmps9
  go_wp2_with fail
  refine HR.out.mono ?_
  rintro e w1 ⟨a, c, rfl, hs, hb1⟩
  have HB1 := Lib.hid (HB0.out.trans (hb1.mono HB0.out.size))
  have HS := Lib.hid hs
  clear hs hb1 HR
  go_wp2_with fail
  refine (equal_go _ a _ 2 c 2 _ [1, 1] [1, 1] (HS.out.mono (bal (Below.refl _ _) _)) ?_).mono ?_
  · refine ⟨rfl, Nat.le_refl _, by unfold maxLen; omega, .inr (.inr ⟨_, 0, rfl, lt_of_block (new_at _ _), fun i hi => ?_⟩)⟩
    rw [cells_at (new_at _ _)]
    have : i = 0 ∨ i = 1 := by omega
    rcases this with rfl | rfl <;> rfl
  · rintro e w' ⟨rfl, m, rfl⟩
    go_wp2
    go_ret
    exact ⟨rfl, drewN_below (bal HB1.out _)⟩
end Go.Proofs.YtiapngmallfelaaDoor
