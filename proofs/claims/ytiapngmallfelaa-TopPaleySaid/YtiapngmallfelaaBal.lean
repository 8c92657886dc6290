/- Walks: signs: count, balanced, Balanced. -/
import Derived.Test.YtiapngmallfelaaPalP
namespace Go.Proofs.Ytiapngmallfelaa
open Go.RowKit

theorem scount_go (w : World) (x : Nat) (h : x < 65536) :
    Calls Try.prog 43 #[.int .i64 x] w fun e w' => e = .returned (.int .i64 (pop x)) ∧ w = w' := by
  have hw := wrapu x h
  go_enter Try.func43, Try.ntmps43
  go_wp2_with (go_at_call 68; refine (ones_go _ _ h).mono ?_; rintro e w' ⟨rfl, rfl⟩)
  go_ret
  exact ⟨rfl, rfl⟩

set_option maxHeartbeats 1000000 in
theorem balanced_go (w : World) (a : Option Addr) (n cap : Nat) (h : List Nat) (hs : Sl w a n cap (ints h)) (h1 : 1 ≤ n) (hn : n ≤ 16) (hh : ∀ x ∈ h, x < 65536) (hb : ∀ i j, i < n → j < i → 2 * pop (gn h i ^^^ gn h j) = n) :
    Calls Try.prog 40 #[.slice a n cap] w fun e w' => e = .returned (.bool true) ∧ Below w.heap.size w w' := by
  rcases hs.parts with ⟨_, h0, _⟩ | ⟨b, off, rfl, hs2⟩
  · omega
  obtain ⟨hbz, hcell⟩ := hs2.icells h1
  have hcap : n ≤ cap := hs2.2.1
  have hcm : cap ≤ maxLen := hs2.2.2.1
  unfold maxLen at hcm
  have hlt := gn_lt hh (show 0 < 65536 by omega)
  have HC := Lib.hid hcell
  have HB := Lib.hid hb
  clear hs hs2 hcell hb
  go_enter Try.func40, Try.ntmps40
  go_wp2
  go_loopw [9] (fun t wr => ∃ i : Nat, i ≤ n ∧ t = .int .i64 i ∧ Below w.heap.size w wr) (fun t _ => n - (intOf t).toNat)
  case atStart => exact ⟨0, by omega, rfl, Below.refl _ _⟩
  case round =>
    obtain ⟨i, hi, rfl, hD⟩ := hrel
    by_cases hli : i < n
    · have hci : wr.cell? ⟨b, off + i, none⟩ = some (.int .i64 (gn h i)) := (hD.cell (p := ⟨b, off + i, none⟩) hbz).trans (HC.out i hli)
      have hz2 := Nat.lt_of_lt_of_le hbz hD.size
      have hxi := hlt i
      go_wp2
      obtain ⟨wz, rfl⟩ : ∃ wz : World, wz = wr := ⟨_, rfl⟩
      have HD := Lib.hid hD
      clear hD hci hz2
      go_loopw [18] (fun t wr => ∃ j : Nat, j ≤ i ∧ t = .int .i64 j ∧ Below w.heap.size w wr) (fun t _ => i - (intOf t).toNat)
      case atStart => exact ⟨0, by omega, rfl, HD.out⟩
      case round =>
        obtain ⟨j, hj, rfl, hD⟩ := hrel
        by_cases hlj : j < i
        · have hcj : wr.cell? ⟨b, off + j, none⟩ = some (.int .i64 (gn h j)) := (hD.cell (p := ⟨b, off + j, none⟩) hbz).trans (HC.out j (by omega))
          have hz2 := Nat.lt_of_lt_of_le hbz hD.size
          have hxj := hlt j
          have hx := i64_xor_nat (gn h i) (gn h j) (by omega) (by omega)
          have hxl : gn h i ^^^ gn h j < 65536 := Nat.xor_lt_two_pow (n := 16) hxi hxj
          have hq := HB.out i j hli hlj
          have hp2 : (2 : Int) * (pop (gn h i ^^^ gn h j) : Int) = (n : Int) := by omega
          have HP2 := Lib.hid hp2
          have t1 : ((2 : Int) * (pop (gn h i ^^^ gn h j) : Int) != (n : Int)) = false := by simp; omega
          have hpl : pop (gn h i ^^^ gn h j) ≤ 16 := by omega
          clear hp2 hq
          generalize gn h i ^^^ gn h j = x at *
          go_wp2_with fail
          refine (scount_go _ x hxl).mono ?_
          rintro e w2 ⟨rfl, rfl⟩
          go_wp2
          go_roundw
          case rel => exact ⟨j + 1, by omega, by go_num, hD⟩
          case measure => simp [intOf]; omega
        · obtain rfl : j = i := by omega
          go_wp2
          go_roundw
          case rel => exact ⟨j + 1, by omega, by go_num, hD⟩
          case measure => simp [intOf]; omega
    · obtain rfl : i = n := by omega
      go_wp2
      go_ret
      exact ⟨rfl, hD⟩

theorem Balanced_go (w : World) (a : Option Addr) (n cap : Nat) (h : List Nat) (hs : Sl w a n cap (ints h)) (h1 : 1 ≤ n) (hn : n ≤ 16) (hh : ∀ x ∈ h, x < 65536) (hG : ∀ i, i < n → gn h i < 2 ^ n) (hb : ∀ i j, i < n → j < i → 2 * pop (gn h i ^^^ gn h j) = n) :
    Calls Try.prog 13 #[.slice a n cap] w fun e w' => e = .returned (.tuple #[.bool true, .int .i64 0]) ∧ Below w.heap.size w w' := by
  go_enter Try.func13, Try.ntmps13
  go_wp2_with fail
  refine (sgvalid_go _ a n cap h 16 hs h1 hn hn hG).mono ?_
  rintro e w1 ⟨rfl, hb1⟩
  go_wp2_with fail
  refine (balanced_go _ a n cap h (hs.mono hb1) h1 hn hh hb).mono ?_
  rintro e w2 ⟨rfl, hb2⟩
  go_wp2
  go_ret2
  exact ⟨rfl, btr hb1 hb2⟩
end Go.Proofs.Ytiapngmallfelaa
