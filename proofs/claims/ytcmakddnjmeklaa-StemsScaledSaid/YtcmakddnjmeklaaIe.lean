/- Chapter 9: slices.Equal of two lists of int. -/
import Derived.Test.YtcmakddnjmeklaaWr
namespace Go.Proofs.Ytcmakddnjmeklaa
open Go.RowKit
set_option linter.unusedSimpArgs false

set_option maxHeartbeats 400000 in
theorem ieq_nil (w : World) (a b : Option Addr) (c d : Nat) :
    Calls Try.prog 29 #[.slice a 0 c, .slice b 0 d] w fun e w' => e = .returned (.bool true) ∧ ∃ m, w' = w.drewN m := by
  go_enter Try.func29, Try.ntmps29
  go_wp2
  go_loop [13] (fun i => i = .int .i64 0) (fun _ => 0)
  case atStart => rfl
  case round =>
    subst hrel
    go_wp2
    go_ret
    exact ⟨rfl, 0, rfl⟩
set_option maxHeartbeats 400000 in
theorem ieq_go (w : World) (a c : Option Addr) (n p m q : Nat) (l k : List Int) (hs : Sl w a n p l) (ht : Sl w c m q k) :
    Calls Try.prog 29 #[.slice a n p, .slice c m q] w fun e w' => e = .returned (.bool (decide (l = k))) ∧ ∃ m, w' = w.drewN m := by
  have hl := hs.len
  have hk := ht.len
  by_cases hnm : n = m
  · subst hnm
    have HL := Lib.hid hl
    have HK := Lib.hid hk
    have hcp := hs.cap
    have hcq := ht.cap
    unfold maxLen at hcp hcq
    by_cases h0 : n = 0
    · subst h0
      refine (ieq_nil w a c p q).mono fun e w' h => ⟨?_, h.2⟩
      rw [h.1, List.eq_nil_of_length_eq_zero hl, List.eq_nil_of_length_eq_zero hk]
      rfl
    obtain ⟨b, off, rfl, hb, hc⟩ := hs.at (by omega)
    obtain ⟨b2, off2, rfl, hb2, hc2⟩ := ht.at (by omega)
    clear hs ht hl hk
    go_enter Try.func29, Try.ntmps29
    go_wp2
    go_loopw [13] (fun i wr => ∃ j : Nat, j ≤ n ∧ i = .int .i64 j ∧ Hid (∃ m, wr = w.drewN m) ∧ Hid (∀ i, i < j → nth l i = nth k i)) (fun i _ => n - (intOf i).toNat)
    case atStart => exact ⟨0, by omega, rfl, Lib.hid ⟨0, rfl⟩, Lib.hid fun i hi => by omega⟩
    case round =>
      obtain ⟨j, hj, rfl, HW, HR⟩ := hrel
      by_cases hlt : j < n
      · have hck : wr.cell? ⟨b, off + j, none⟩ = some (.int .i64 (nth l j)) := by obtain ⟨m, rfl⟩ := HW.out; exact hc j hlt
        have hck2 : wr.cell? ⟨b2, off2 + j, none⟩ = some (.int .i64 (nth k j)) := by obtain ⟨m, rfl⟩ := HW.out; exact hc2 j hlt
        go_wp2
        go_quiet (fail)
        by_cases q : nth l j = nth k j
        · go_wp2
          go_roundw
          case rel =>
            refine ⟨j + 1, by omega, by go_num, ?_, Lib.hid fun i hi => ?_⟩
            · obtain ⟨m, rfl⟩ := HW.out; exact Lib.hid ⟨m + nq, by rw [World.drewN_drewN]⟩
            · rcases Nat.lt_or_ge i j with h | h
              · exact HR.out i h
              · obtain rfl : i = j := by omega
                exact q
          case measure => simp [intOf]; omega
        · go_wp2
          go_ret
          rw [decide_eq_false fun e => q (by rw [e])]
          refine ⟨rfl, ?_⟩
          obtain ⟨m, rfl⟩ := HW.out; exact ⟨m + nq, by rw [World.drewN_drewN]⟩
      · obtain rfl : j = n := by omega
        go_wp2
        go_ret
        rw [decide_eq_true (show l = k from nth_ext (by rw [HL.out, HK.out]) fun i hi => HR.out i (by have := HL.out; omega))]
        exact ⟨rfl, HW.out⟩
  · have hne : ((n : Int) != (m : Int)) = true := by rw [bne_iff_ne]; omega
    go_enter Try.func29, Try.ntmps29
    go_wp2
    go_ret
    rw [decide_eq_false fun e => hnm (by rw [← hl, ← hk, e])]
    exact ⟨rfl, 0, rfl⟩
end Go.Proofs.Ytcmakddnjmeklaa
