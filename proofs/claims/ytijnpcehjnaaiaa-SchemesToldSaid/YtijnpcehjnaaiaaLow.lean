/- Walks: the small functions on sets and slices. -/
import Derived.Test.YtijnpcehjnaaiaaOnes
namespace Go.Proofs.Ytijnpcehjnaaiaa
open Go.RowKit

/-- A contract's ending of a function that only computes. -/
def Is (w : World) (v : Value) (e : Ending) (w' : World) : Prop := e = .returned v ∧ w = w'

set_option maxHeartbeats 400000 in
theorem ones64_go (w : World) (x : Nat) (h : x < 65536) :
    Calls Try.prog 82 #[.int .u64 x] w fun e w' => e = .returned (.int .i64 (pop x)) ∧ w = w' := by
  have b := oc_bounds h
  have r1 := oc1_go x (by omega)
  have r2 := oc2_go (oc1 x) (by omega)
  have r3 := oc3_go (oc2 (oc1 x)) (by omega)
  have r4 := oc4_go (oc3 (oc2 (oc1 x))) (by omega)
  have r5 := oc5_go (oc4 (oc3 (oc2 (oc1 x)))) (by omega)
  have r6 := oc6_go (oc5 (oc4 (oc3 (oc2 (oc1 x))))) (by omega)
  have bd : oc6 (oc5 (oc4 (oc3 (oc2 (oc1 x))))) < 16000000 := by
    have : oc6 (oc5 (oc4 (oc3 (oc2 (oc1 x))))) = oc5 (oc4 (oc3 (oc2 (oc1 x)))) + oc5 (oc4 (oc3 (oc2 (oc1 x)))) / 4294967296 := rfl
    omega
  have fin : oc6 (oc5 (oc4 (oc3 (oc2 (oc1 x))))) % 128 = pop x := oc_pop h
  have r7 : bits .and .i64 (wrap64 (oc6 (oc5 (oc4 (oc3 (oc2 (oc1 x))))) : Int)) 127 = (pop x : Int) := by
    rw [IntWalk.wrap64_in _ (by omega), i64_and127]; omega
  generalize oc6 (oc5 (oc4 (oc3 (oc2 (oc1 x))))) = o6 at *
  generalize oc5 (oc4 (oc3 (oc2 (oc1 x)))) = o5 at *
  generalize oc4 (oc3 (oc2 (oc1 x))) = o4 at *
  generalize oc3 (oc2 (oc1 x)) = o3 at *
  generalize oc2 (oc1 x) = o2 at *
  generalize oc1 x = o1 at *
  clear fin bd b
  go_enter Try.func82, Try.ntmps82
  go_wp2
  go_ret
  exact ⟨rfl, rfl⟩

theorem ones_go (w : World) (x : Nat) (h : x < 65536) :
    Calls Try.prog 80 #[.int .u64 x] w fun e w' => e = .returned (.int .i64 (pop x)) ∧ w = w' := by
  go_enter Try.func80, Try.ntmps80
  go_wp2_with (go_at_call 82; refine (ones64_go _ _ h).mono ?_; rintro e w' ⟨rfl, rfl⟩)
  go_ret
  exact ⟨rfl, rfl⟩

theorem wrapu (x : Nat) (h : x < 65536) : IntKind.u64.wrap (x : Int) = x := by rw [IntKind.wrap_u64]; omega

theorem count_go (w : World) (x : Nat) (h : x < 65536) :
    Calls Try.prog 74 #[.int .i64 x] w fun e w' => e = .returned (.int .i64 (pop x)) ∧ w = w' := by
  have hw := wrapu x h
  go_enter Try.func74, Try.ntmps74
  go_wp2_with (go_at_call 80; refine (ones_go _ _ h).mono ?_; rintro e w' ⟨rfl, rfl⟩)
  go_ret
  exact ⟨rfl, rfl⟩

set_option maxHeartbeats 400000 in
theorem size_go (w : World) (x : Nat) (h1 : x < 65536) :
    Calls Try.prog 56 #[.int .i64 x] w fun e w' => e = .returned (.int .i64 (pop x)) ∧ w = w' := by
  go_enter Try.func56, Try.ntmps56
  go_wp2
  go_loop [0, 3] (fun s n => ∃ y k : Nat, y < 65536 ∧ s = .int .i64 y ∧ n = .int .i64 k ∧ k ≤ 16 ∧ Hid (k + pop y = pop x)) (fun s _ => (intOf s).toNat)
  case atStart => exact ⟨x, 0, h1, rfl, rfl, by omega, by show _ = _; omega⟩
  case round =>
    obtain ⟨y, k, hy, rfl, rfl, hk, HE⟩ := hrel
    by_cases hz : 0 < y
    · have hp := pop_low hy hz
      have hb := pop_le x
      have e := HE.out
      have ha : y &&& (y - 1) ≤ y - 1 := Nat.and_le_right
      have hr : bits .and .i64 (y : Int) ((y : Int) - 1) = ((y &&& (y - 1) : Nat) : Int) := by
        rw [show ((y : Int) - 1) = ((y - 1 : Nat) : Int) by omega]; exact i64_and_nat _ _ (by omega) (by omega)
      generalize y &&& (y - 1) = z at *
      have HP : Hid (pop z + 1 = pop y) := hp
      clear hp e
      go_wp2
      go_round
      case rel => exact ⟨z, k + 1, by omega, rfl, by go_num, by have := HP.out; have := HE.out; omega, by show _ = _; have := HP.out; have := HE.out; omega⟩
      case measure => simp [intOf]; omega
    · obtain rfl : y = 0 := by omega
      go_wp2
      go_ret
      exact ⟨ret_int (by have := HE.out; rw [pop_zero] at this; omega), rfl⟩

end Go.Proofs.Ytijnpcehjnaaiaa
