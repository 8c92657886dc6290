/- Walks: how many sets of three are odd. -/
import Derived.Test.YtijnpcehjnaaiaaAlone
namespace Go.Proofs.Ytijnpcehjnaaiaa
open Go.RowKit

def oddT (G : List Nat) (i j k : Nat) : Bool := ((gn G i).testBit j != (gn G j).testBit k) != (gn G i).testBit k
def c1 (G : List Nat) (i j k : Nat) : Nat := sumTo k fun c => if oddT G i j c then 1 else 0
def c2 (G : List Nat) (i j : Nat) : Nat := sumTo j fun b => c1 G i b b
def c3 (G : List Nat) (i : Nat) : Nat := sumTo i fun a => c2 G a a
def oddN (G : List Nat) : Nat := c3 G G.length
theorem sumTo_bound {f : Nat → Nat} {c : Nat} : ∀ {n}, (∀ j, j < n → f j ≤ c) → sumTo n f ≤ n * c := by
  intro n; induction n with
  | zero => intro _; simp [sumTo]
  | succ n ih => intro h; have := ih (fun j hj => h j (by omega)); have := h n (by omega); simp only [sumTo, Nat.succ_mul]; omega
theorem c1_le (G : List Nat) (i j k : Nat) : c1 G i j k ≤ k := by
  have := sumTo_bound (n := k) (f := fun c => if oddT G i j c then 1 else 0) (c := 1) (fun c _ => by split <;> omega)
  unfold c1; omega
theorem c2_le (G : List Nat) (i : Nat) {j : Nat} (hj : j ≤ 16) : c2 G i j ≤ 256 := by
  have := sumTo_bound (n := j) (f := fun b => c1 G i b b) (c := 16) (fun b hb => by have := c1_le G i b b; omega)
  unfold c2; omega
theorem c3_le (G : List Nat) {i : Nat} (hi : i ≤ 16) : c3 G i ≤ 4096 := by
  have := sumTo_bound (n := i) (f := fun a => c2 G a a) (c := 256) (fun a ha => c2_le G a (by omega))
  unfold c3; omega
theorem c1_yes {G : List Nat} {i j k : Nat} (h : oddT G i j k = true) : c1 G i j (k + 1) = c1 G i j k + 1 := by simp [c1, sumTo, h]
theorem c1_no {G : List Nat} {i j k : Nat} (h : oddT G i j k = false) : c1 G i j (k + 1) = c1 G i j k := by simp [c1, sumTo, h]
theorem c2_step (G : List Nat) (i j : Nat) : c2 G i (j + 1) = c2 G i j + c1 G i j j := rfl
theorem c3_step (G : List Nat) (i : Nat) : c3 G (i + 1) = c3 G i + c2 G i i := rfl

theorem odd_bad (w : World) (a : Option Addr) (n cap : Nat) (l : List Int) (hs : Sl w a n cap l) (hv : ¬ VldP l) :
    Calls Try.prog 34 #[.slice a n cap] w fun e w' => e = .returned (.tuple #[.int .i64 0, .int .i64 2]) ∧ Below w.heap.size w w' := by
  have hd : decide (VldP l) = false := by simp [hv]
  go_enter Try.func34, Try.ntmps34
  go_wp2_with fail
  refine (valid_go _ _ _ _ _ hs).mono ?_
  rintro e w1 ⟨rfl, hw⟩
  have hb := drewB hw
  clear hw
  go_wp2
  go_ret2
  exact ⟨rfl, hb⟩

set_option maxHeartbeats 2000000 in
theorem odd_go (w : World) (a : Option Addr) (n cap : Nat) (G : List Nat) (hs : Sl w a n cap (ints G)) (hG : Gr G) :
    Calls Try.prog 34 #[.slice a n cap] w fun e w' => e = .returned (.tuple #[.int .i64 (oddN G), .int .i64 0]) ∧ Below w.heap.size w w' := by
  have hd : decide (VldP (ints G)) = true := by simp [vld_ints hG]
  have hn : G.length = n := by have := hs.len; rwa [ints_length] at this
  have hn16 : n ≤ 16 := by have := hG.2.1; omega
  have hsm := hG.small
  have HN := Lib.hid hn
  clear hn
  go_enter Try.func34, Try.ntmps34
  go_wp2_with fail
  refine (valid_go _ _ _ _ _ hs).mono ?_
  rintro e w1 ⟨rfl, hw⟩
  have hb := drewB hw
  have hs1 := hs.mono hb
  clear hw hs
  go_wp2
  go_loop [15, 5] (fun s o => ∃ i : Nat, i ≤ n ∧ s = .int .i64 i ∧ o = .int .i64 ((c3 G i : Nat) : Int)) (fun s _ => n - (intOf s).toNat)
  case atStart => exact ⟨0, by omega, rfl, rfl⟩
  case round =>
    obtain ⟨i, hi, rfl, rfl⟩ := hrel
    by_cases hli : i < n
    · go_wp2
      go_loop [19, 5] (fun s o => ∃ j : Nat, j ≤ i ∧ s = .int .i64 j ∧ o = .int .i64 ((c3 G i + c2 G i j : Nat) : Int)) (fun s _ => i - (intOf s).toNat)
      case atStart => exact ⟨0, by omega, rfl, rfl⟩
      case round =>
        obtain ⟨j, hj, rfl, rfl⟩ := hrel
        by_cases hlj : j < i
        · go_wp2
          go_loop [23, 5] (fun s o => ∃ k : Nat, k ≤ j ∧ s = .int .i64 k ∧ o = .int .i64 ((c3 G i + c2 G i j + c1 G i j k : Nat) : Int)) (fun s _ => j - (intOf s).toNat)
          case atStart => exact ⟨0, by omega, rfl, rfl⟩
          case round =>
            obtain ⟨k, hk, rfl, rfl⟩ := hrel
            by_cases hlk : k < j
            · have b3 := c3_le G (show i ≤ 16 by omega)
              have b2 := c2_le G i (show j ≤ 16 by omega)
              have b1 := c1_le G i j k
              have HO := Lib.hid (show oddT G i j k = (((gn G i).testBit j != (gn G j).testBit k) != (gn G i).testBit k) from rfl)
              go_wp2_with fail
              refine (near_go _ _ _ _ G hs1 hsm i j (by omega) (by omega)).mono ?_
              rintro e w2 ⟨rfl, rfl⟩
              go_wp2_with fail
              refine (near_go _ _ _ _ G hs1 hsm j k (by omega) (by omega)).mono ?_
              rintro e w2 ⟨rfl, rfl⟩
              go_wp2_with fail
              refine (near_go _ _ _ _ G hs1 hsm i k (by omega) (by omega)).mono ?_
              rintro e w2 ⟨rfl, rfl⟩
              cases e1 : (gn G i).testBit j <;> cases e2 : (gn G j).testBit k <;> cases e3 : (gn G i).testBit k
              all_goals
                go_wp2
                go_round
                case rel =>
                  first
                    | exact ⟨k + 1, by omega, by go_num, by rw [c1_yes (by rw [HO.out, e1, e2, e3]; rfl)]; go_num⟩
                    | exact ⟨k + 1, by omega, by go_num, by rw [c1_no (by rw [HO.out, e1, e2, e3]; rfl)]; go_num⟩
                case measure => simp [intOf]; omega
            · obtain rfl : k = j := by omega
              go_wp2
              go_round
              case rel => exact ⟨k + 1, by omega, by go_num, by rw [c2_step, Nat.add_assoc]⟩
              case measure => simp [intOf]; omega
        · obtain rfl : j = i := by omega
          go_wp2
          go_round
          case rel => exact ⟨j + 1, by omega, by go_num, by rw [c3_step]⟩
          case measure => simp [intOf]; omega
    · obtain rfl : i = n := by omega
      go_wp2
      go_ret2
      exact ⟨by unfold oddN; rw [HN.out]; rfl, hb⟩

theorem odd_sum (G : List Nat) (i j k : Nat) : oddT G i j k = decide ((bt (gn G i) j + bt (gn G i) k + bt (gn G j) k) % 2 = 1) := by
  rw [bt_test, bt_test, bt_test]; unfold oddT
  cases (gn G i).testBit j <;> cases (gn G j).testBit k <;> cases (gn G i).testBit k <;> rfl

set_option maxHeartbeats 400000 in
theorem isodd_go (w : World) (a : Option Addr) (n cap : Nat) (G : List Nat) (hs : Sl w a n cap (ints G)) (hG : ∀ x ∈ G, x < 65536) (i j k : Nat) (hi : i < n) (hj : j < n) (hjs : j < 64) (hk : k < 64) :
    Calls Try.prog 65 #[.slice a n cap, .int .i64 i, .int .i64 j, .int .i64 k] w fun e w' => e = .returned (.bool (oddT G i j k)) ∧ ∃ m, w' = w.drewN m := by
  rcases hs.parts with ⟨_, rfl, _⟩ | ⟨b, off, rfl, hs2⟩
  · omega
  obtain ⟨hb, hc⟩ := hs2.icells (by omega)
  have hci := hc i hi
  have hcj := hc j hj
  have b1 := bits_bt (gn G i) j (by have := gn_lt hG (by omega) i; omega)
  have b2 := bits_bt (gn G i) k (by have := gn_lt hG (by omega) i; omega)
  have b3 := bits_bt (gn G j) k (by have := gn_lt hG (by omega) j; omega)
  have l1 := bt_le (gn G i) j
  have l2 := bt_le (gn G i) k
  have l3 := bt_le (gn G j) k
  have HO := Lib.hid (odd_sum G i j k)
  clear hs hs2 hc hG
  generalize bt (gn G i) j = A at *
  generalize bt (gn G i) k = B at *
  generalize bt (gn G j) k = C at *
  have w1 : IntKind.i64.wrap ((A : Int) + (B : Int)) = (A : Int) + (B : Int) := by rw [IntWalk.i64_left]; exact IntWalk.wrap64_in _ (by omega)
  have w2 : IntKind.i64.wrap ((A : Int) + (B : Int) + (C : Int)) = (A : Int) + (B : Int) + (C : Int) := by rw [IntWalk.i64_left]; exact IntWalk.wrap64_in _ (by omega)
  go_enter Try.func65, Try.ntmps65
  go_wp2
  go_quiet (fail)
  go_wp2
  go_ret
  refine ⟨?_, _, rfl⟩
  show Ending.returned (.bool _) = _
  rw [HO.out]
  apply ret_bool
  first
    | (rw [Int.tmod_eq_emod_of_nonneg (by omega)])
    | skip
  rw [Bool.eq_iff_iff]; simp; omega


set_option maxHeartbeats 2000000 in
theorem rodd_go (w : World) (a : Option Addr) (n cap : Nat) (G : List Nat) (hs : Sl w a n cap (ints G)) (hG : Gr G) :
    Calls Try.prog 39 #[.slice a n cap] w fun e w' => e = .returned (.int .i64 (oddN G)) ∧ Below w.heap.size w w' := by
  have hn : G.length = n := by have := hs.len; rwa [ints_length] at this
  have hn16 : n ≤ 16 := by have := hG.2.1; omega
  have hsm := hG.small
  have HN := Lib.hid hn
  clear hn
  go_enter Try.func39, Try.ntmps39
  go_wp2
  go_loopw [9, 3] (fun s o wr => ∃ i : Nat, i ≤ n ∧ s = .int .i64 i ∧ o = .int .i64 ((c3 G i : Nat) : Int) ∧ Below w.heap.size w wr) (fun s _ _ => n - (intOf s).toNat)
  case atStart => exact ⟨0, by omega, rfl, rfl, Below.refl _ _⟩
  case round =>
    obtain ⟨i, hi, rfl, rfl, hbw⟩ := hrel
    by_cases hli : i < n
    · go_wp2
      obtain ⟨w2, rfl⟩ : ∃ w2 : World, w2 = wr := ⟨_, rfl⟩
      go_loopw [13, 3] (fun s o wr => ∃ j : Nat, j ≤ i ∧ s = .int .i64 j ∧ o = .int .i64 ((c3 G i + c2 G i j : Nat) : Int) ∧ Below w.heap.size w wr) (fun s _ _ => i - (intOf s).toNat)
      case atStart => exact ⟨0, by omega, rfl, rfl, hbw⟩
      case round =>
        clear hbw
        obtain ⟨j, hj, rfl, rfl, hbw⟩ := hrel
        by_cases hlj : j < i
        · go_wp2
          obtain ⟨w3, rfl⟩ : ∃ w3 : World, w3 = wr := ⟨_, rfl⟩
          go_loopw [17, 3] (fun s o wr => ∃ k : Nat, k ≤ j ∧ s = .int .i64 k ∧ o = .int .i64 ((c3 G i + c2 G i j + c1 G i j k : Nat) : Int) ∧ Below w.heap.size w wr) (fun s _ _ => j - (intOf s).toNat)
          case atStart => exact ⟨0, by omega, rfl, rfl, hbw⟩
          case round =>
            clear hbw
            obtain ⟨k, hk, rfl, rfl, hbw⟩ := hrel
            by_cases hlk : k < j
            · have b3 := c3_le G (show i ≤ 16 by omega)
              have b2 := c2_le G i (show j ≤ 16 by omega)
              have b1 := c1_le G i j k
              go_wp2_with fail
              refine (isodd_go _ _ _ _ G (hs.mono hbw) hsm i j k (by omega) (by omega) (by omega) (by omega)).mono ?_
              rintro e w4 ⟨rfl, hw⟩
              have hb4 := btr hbw (drewB hw)
              clear hbw hw
              cases e1 : oddT G i j k with
              | true =>
                go_wp2
                go_roundw
                case rel => exact ⟨k + 1, by omega, by go_num, by rw [c1_yes e1]; go_num, hb4⟩
                case measure => simp [intOf]; omega
              | false =>
                go_wp2
                go_roundw
                case rel => exact ⟨k + 1, by omega, by go_num, by rw [c1_no e1]; go_num, hb4⟩
                case measure => simp [intOf]; omega
            · obtain rfl : k = j := by omega
              go_wp2
              go_roundw
              case rel => exact ⟨k + 1, by omega, by go_num, by rw [c2_step, Nat.add_assoc], hbw⟩
              case measure => simp [intOf]; omega
        · obtain rfl : j = i := by omega
          go_wp2
          go_roundw
          case rel => exact ⟨j + 1, by omega, by go_num, by rw [c3_step], hbw⟩
          case measure => simp [intOf]; omega
    · obtain rfl : i = n := by omega
      go_wp2
      go_ret
      exact ⟨by unfold oddN; rw [HN.out]; rfl, hbw⟩

end Go.Proofs.Ytijnpcehjnaaiaa
