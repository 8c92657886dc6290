/- Chapter 9, the reference: frac of a divisor below 0. -/
import Derived.Test.YtcmakddnjmeklaaRf
namespace Go.Proofs.Ytcmakddnjmeklaa
open Go.RowKit

set_option maxHeartbeats 1000000 in
theorem rfrac_neg (w : World) (a b : Int) (ha : -4000000000000000000 ≤ a ∧ a ≤ 4000000000000000000) (hb0 : 0 < b) (hb : b ≤ 4000000000000000000) :
    Calls Try.prog 80 #[.int .i64 (-a), .int .i64 (-b)] w fun e w' => e = .returned (fv (toFr ((a : Rat) / (b : Rat)))) ∧ Below w.heap.size w w' := by
  have hn := frq_num (a := a) hb0
  have hd := frq_den (a := a) hb0
  have hs := frq_small (a := a) hb0
  have HV := Lib.hid (show fv (toFr ((a : Rat) / (b : Rat))) = .agg #[.int .i64 ((a : Rat) / (b : Rat)).num, .int .i64 (((a : Rat) / (b : Rat)).den : Int)] from rfl)
  have hg0 : (Int.gcd a b : Int) ≠ 0 := by
    have : Int.gcd a b ≠ 0 := fun h => by rw [Int.gcd_eq_zero_iff] at h; omega
    omega
  have hdp : 0 ≤ (((a : Rat) / (b : Rat)).den : Int) := by omega
  generalize ((a : Rat) / (b : Rat)).num = X at *
  generalize (((a : Rat) / (b : Rat)).den : Int) = Y at *
  have w1 : IntKind.i64.wrap X = X := wrap_i64j _ (by omega) (by omega)
  have w2 : IntKind.i64.wrap Y = Y := wrap_i64j _ (by omega) (by omega)
  have q1 : -b < 0 := by omega
  have q2 : IntKind.i64.wrap a = a := wrap_i64j _ (by omega) (by omega)
  have q3 : IntKind.i64.wrap b = b := wrap_i64j _ (by omega) (by omega)
  by_cases han : a < 0
  · go_enter Try.func80, Try.ntmps80
    go_wp2
    go_loopw [5, 6] (fun x y wr => ∃ p q : Int, x = .int .i64 p ∧ y = .int .i64 q ∧ Hid (Int.gcd p q = Int.gcd a b) ∧ (0 ≤ p ∧ p ≤ 4000000000000000000) ∧ (0 ≤ q ∧ q ≤ 4000000000000000000) ∧ Hid (∃ m, wr = (w.alloc (.cells #[.int .i64 0, .int .i64 0] 53)).drewN m)) (fun _ y _ => (intOf y).natAbs)
    case atStart => exact ⟨-a, b, rfl, rfl, Lib.hid (by simp), by omega, by omega, Lib.hid ⟨0, rfl⟩⟩
    case round =>
      clear ha
      obtain ⟨p, q, rfl, rfl, HG, hp, hq, HW⟩ := hrel
      by_cases h0 : q = 0
      · subst h0
        have hgp : p = (Int.gcd a b : Int) := by rw [← HG.out, Int.gcd_zero_right]; omega
        obtain ⟨m, rfl⟩ := HW.out
        subst hgp
        clear hp hq HG HW
        generalize (Int.gcd a b : Int) = g at *
        go_wp2
        go_region
        go_wp2
        rw [HV.out]
        exact bodyPost_ret (v := .agg #[.int .i64 X, .int .i64 Y]) (by simp [results, Try.results80, go_sem]) rfl ⟨rfl, below_store (below_store (drewN_below (bal (Below.refl _ _) _)) _) _⟩
      · have t1 : (q != 0) = true := by simpa using h0
        have hb := tmod_lt p q h0
        have hb2 : (p.tmod q).natAbs ≤ p.natAbs := by rw [Int.natAbs_tmod]; exact Nat.mod_le _ _
        have hb3 := Int.tmod_nonneg q hp.1
        have HG2 := Lib.hid (show Int.gcd q (p.tmod q) = Int.gcd a b by rw [gcd_step]; exact HG.out)
        obtain ⟨r, hr⟩ : ∃ r, p.tmod q = r := ⟨_, rfl⟩
        rw [hr] at hb hb2 hb3 HG2
        go_wp2
        go_region
        go_wp2
        go_roundw
        case rel =>
          go_light
          refine ⟨q, r, rfl, by first | rfl | rw [hr], HG2, hq, by omega, Lib.hid ?_⟩
          obtain ⟨m, rfl⟩ := HW.out
          exact ⟨m + 1, rfl⟩
        case measure => go_light; simp [intOf]; omega
  · go_enter Try.func80, Try.ntmps80
    go_wp2
    go_loopw [5, 6] (fun x y wr => ∃ p q : Int, x = .int .i64 p ∧ y = .int .i64 q ∧ Hid (Int.gcd p q = Int.gcd a b) ∧ (0 ≤ p ∧ p ≤ 4000000000000000000) ∧ (0 ≤ q ∧ q ≤ 4000000000000000000) ∧ Hid (∃ m, wr = (w.alloc (.cells #[.int .i64 0, .int .i64 0] 53)).drewN m)) (fun _ y _ => (intOf y).natAbs)
    case atStart => exact ⟨a, b, rfl, rfl, Lib.hid (by simp), by omega, by omega, Lib.hid ⟨0, rfl⟩⟩
    case round =>
      clear ha
      obtain ⟨p, q, rfl, rfl, HG, hp, hq, HW⟩ := hrel
      by_cases h0 : q = 0
      · subst h0
        have hgp : p = (Int.gcd a b : Int) := by rw [← HG.out, Int.gcd_zero_right]; omega
        obtain ⟨m, rfl⟩ := HW.out
        subst hgp
        clear hp hq HG HW
        generalize (Int.gcd a b : Int) = g at *
        go_wp2
        go_region
        go_wp2
        rw [HV.out]
        exact bodyPost_ret (v := .agg #[.int .i64 X, .int .i64 Y]) (by simp [results, Try.results80, go_sem]) rfl ⟨rfl, below_store (below_store (drewN_below (bal (Below.refl _ _) _)) _) _⟩
      · have t1 : (q != 0) = true := by simpa using h0
        have hb := tmod_lt p q h0
        have hb2 : (p.tmod q).natAbs ≤ p.natAbs := by rw [Int.natAbs_tmod]; exact Nat.mod_le _ _
        have hb3 := Int.tmod_nonneg q hp.1
        have HG2 := Lib.hid (show Int.gcd q (p.tmod q) = Int.gcd a b by rw [gcd_step]; exact HG.out)
        obtain ⟨r, hr⟩ : ∃ r, p.tmod q = r := ⟨_, rfl⟩
        rw [hr] at hb hb2 hb3 HG2
        go_wp2
        go_region
        go_wp2
        go_roundw
        case rel =>
          go_light
          refine ⟨q, r, rfl, by first | rfl | rw [hr], HG2, hq, by omega, Lib.hid ?_⟩
          obtain ⟨m, rfl⟩ := HW.out
          exact ⟨m + 1, rfl⟩
        case measure => go_light; simp [intOf]; omega
end Go.Proofs.Ytcmakddnjmeklaa
