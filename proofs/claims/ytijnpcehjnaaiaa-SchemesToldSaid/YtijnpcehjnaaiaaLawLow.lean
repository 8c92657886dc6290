/- Walks: the law's own functions odd and size. -/
import Derived.Test.YtijnpcehjnaaiaaOdd
namespace Go.Proofs.Ytijnpcehjnaaiaa
open Go.RowKit

set_option maxHeartbeats 400000 in
theorem lsize_go (w : World) (x : Nat) (h1 : x < 65536) :
    Calls Try.prog 37 #[.int .i64 x] w fun e w' => e = .returned (.int .i64 (pop x)) ∧ w = w' := by
  go_enter Try.func37, Try.ntmps37
  go_wp2
  go_loop [0, 3] (fun s n => ∃ y k : Nat, y < 65536 ∧ s = .int .i64 y ∧ n = .int .i64 k ∧ k ≤ 16 ∧ Hid (k + pop y = pop x)) (fun s _ => (intOf s).toNat)
  case atStart => exact ⟨x, 0, h1, rfl, rfl, by omega, by show _ = _; omega⟩
  case round =>
    obtain ⟨y, k, hy, rfl, rfl, hk, HE⟩ := hrel
    by_cases hz : 0 < y
    · have hp := pop_low hy hz
      have hb := pop_le x
      have e := HE.out
      have ha : y &&& (y - 1) ≤ y - 1 := Nat.and_le_right
      have hr : bits .and .i64 (y : Int) ((y : Int) - 1) = ((y &&& (y - 1) : Nat) : Int) := by
        rw [show ((y : Int) - 1) = ((y - 1 : Nat) : Int) by omega]; exact i64_and_nat _ _ (by omega) (by omega)
      generalize y &&& (y - 1) = z at *
      have HP : Hid (pop z + 1 = pop y) := hp
      clear hp e
      go_wp2
      go_round
      case rel => exact ⟨z, k + 1, by omega, rfl, by go_num, by have := HP.out; have := HE.out; omega, by show _ = _; have := HP.out; have := HE.out; omega⟩
      case measure => simp [intOf]; omega
    · obtain rfl : y = 0 := by omega
      go_wp2
      go_ret
      exact ⟨ret_int (by have := HE.out; rw [pop_zero] at this; omega), rfl⟩


set_option maxHeartbeats 400000 in
theorem lodd_go (w : World) (a : Option Addr) (n cap : Nat) (G : List Nat) (hs : Sl w a n cap (ints G)) (hG : ∀ x ∈ G, x < 65536) (i j k : Nat) (hi : i < n) (hj : j < n) (hjs : j < 64) (hk : k < 64) :
    Calls Try.prog 36 #[.slice a n cap, .int .i64 i, .int .i64 j, .int .i64 k] w fun e w' => e = .returned (.bool (oddT G i j k)) ∧ ∃ m, w' = w.drewN m := by
  rcases hs.parts with ⟨_, rfl, _⟩ | ⟨b, off, rfl, hs2⟩
  · omega
  obtain ⟨hb, hc⟩ := hs2.icells (by omega)
  have hci := hc i hi
  have hcj := hc j hj
  have b1 := bits_bt (gn G i) j (by have := gn_lt hG (by omega) i; omega)
  have b2 := bits_bt (gn G i) k (by have := gn_lt hG (by omega) i; omega)
  have b3 := bits_bt (gn G j) k (by have := gn_lt hG (by omega) j; omega)
  have l1 := bt_le (gn G i) j
  have l2 := bt_le (gn G i) k
  have l3 := bt_le (gn G j) k
  have HO := Lib.hid (odd_sum G i j k)
  clear hs hs2 hc hG
  generalize bt (gn G i) j = A at *
  generalize bt (gn G i) k = B at *
  generalize bt (gn G j) k = C at *
  have w1 : IntKind.i64.wrap ((A : Int) + (B : Int)) = (A : Int) + (B : Int) := by rw [IntWalk.i64_left]; exact IntWalk.wrap64_in _ (by omega)
  have w2 : IntKind.i64.wrap ((A : Int) + (B : Int) + (C : Int)) = (A : Int) + (B : Int) + (C : Int) := by rw [IntWalk.i64_left]; exact IntWalk.wrap64_in _ (by omega)
  go_enter Try.func36, Try.ntmps36
  go_wp2
  go_quiet (fail)
  go_wp2
  go_ret
  refine ⟨?_, _, rfl⟩
  show Ending.returned (.bool _) = _
  rw [HO.out]
  apply ret_bool
  first
    | (rw [Int.tmod_eq_emod_of_nonneg (by omega)])
    | skip
  rw [Bool.eq_iff_iff]; simp; omega

end Go.Proofs.Ytijnpcehjnaaiaa
