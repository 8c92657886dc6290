/- Walks: arcs: mod, inverse. -/
import Derived.Test.YtiapngmallfelaaBase
import Derived.Maps.Own
import Derived.DeepKeys4
import Derived.Deep.Light
import Derived.Deep.RegionHeld3
import Derived.StillTailTactics
namespace Go.Proofs.Ytiapngmallfelaa
open Go.RowKit

theorem amod_val {n : Int} {p : Nat} (hp : p = 2 ∨ p = 3) : ((n.tmod p + p).tmod p) = n % p ∧ -3 ≤ n.tmod p ∧ n.tmod p ≤ 3 := by
  have h1 := Int.tmod_def n p
  have h2 : n.tmod p < p := Int.tmod_lt_of_pos _ (by omega)
  have h3 : -(p : Int) < n.tmod p := by
    have := Int.tmod_lt_of_pos (-n) (b := (p : Int)) (by omega)
    rw [Int.neg_tmod] at this
    omega
  rw [Int.tmod_eq_emod_of_nonneg (by omega)]
  refine ⟨?_, by omega, by omega⟩
  generalize n.tdiv p = q at *
  rcases hp with rfl | rfl
  · omega
  · omega
set_option maxHeartbeats 1000000 in
theorem amod_go (w : World) (pk p : Nat) (n : Int) (hk : w.cell? ⟨pk, 0, none⟩ = some (.int .i64 p)) (hp : p = 2 ∨ p = 3) (_hn : -1000 ≤ n ∧ n ≤ 1000) :
    Calls Try.prog 87 #[.pointer (some ⟨pk, 0, none⟩), .int .i64 n] w fun e w' => e = .returned (.int .i64 (n % p)) ∧ ∃ m, w' = w.drewN m := by
  have hv := amod_val (n := n) hp
  have HV := Lib.hid hv.1
  have hne : ¬ (p : Int) = 0 := by omega
  have hb := hv.2
  have hp3 : p ≤ 3 := by omega
  generalize hq : n.tmod (p : Int) = r at *
  clear hv
  have k1 : IntKind.i64.wrap r = r := by rw [IntWalk.i64_left]; exact IntWalk.wrap64_in _ (by omega)
  have k2 : IntKind.i64.wrap (r + p) = r + p := by rw [IntWalk.i64_left]; exact IntWalk.wrap64_in _ (by omega)
  have hm1 := Int.emod_nonneg n hne
  have hm2 := Int.emod_lt_of_pos n (b := (p : Int)) (by omega)
  have k3 : IntKind.i64.wrap ((r + p).tmod p) = (r + p).tmod p := by rw [HV.out, IntWalk.i64_left]; generalize n % (p : Int) = z at *; exact IntWalk.wrap64_in _ (by omega)
  have hkd : ∀ m, (w.drewN m).cell? ⟨pk, 0, none⟩ = some (.int .i64 p) := fun _ => hk
  go_enter Try.func87, Try.ntmps87
  go_wp2
  go_region
  go_wp2
  go_ret
  rw [← HV.out]
  exact ⟨rfl, 1, rfl⟩

theorem sl_at {w : World} {a : Option Addr} {n cap : Nat} {l : List Int} (h : Sl w a n cap l) (hn : 0 < n) : ∃ b off, a = some ⟨b, off, none⟩ ∧ b < w.heap.size ∧ (∀ i, i < n → w.cell? ⟨b, off + i, none⟩ = some (.int .i64 (nth l i))) ∧ n ≤ cap ∧ cap ≤ maxLen := by
  obtain ⟨h1, h2, h3, h4⟩ := h
  rcases h4 with ⟨_, h5, _⟩ | ⟨h5, _⟩ | ⟨b, off, rfl, hb, hc⟩
  · omega
  · omega
  · exact ⟨b, off, rfl, hb, hc, h2, h3⟩
theorem ainv_go (w : World) (pk p a : Nat) (hk : w.cell? ⟨pk, 0, none⟩ = some (.int .i64 p)) (hp : p = 2 ∨ p = 3) (ha : 1 ≤ a ∧ a < p) :
    Calls Try.prog 86 #[.pointer (some ⟨pk, 0, none⟩), .int .i64 a] w fun e w' => e = .returned (.int .i64 a) ∧ ∃ m, w' = w.drewN m := by
  have hkd : ∀ m, (w.drewN m).cell? ⟨pk, 0, none⟩ = some (.int .i64 p) := fun _ => hk
  have HK := Lib.hid hkd
  go_enter Try.func86, Try.ntmps86
  go_wp2
  go_loopw [5] (fun v wr => ∃ x m : Nat, 1 ≤ x ∧ x ≤ a ∧ v = .int .i64 x ∧ wr = w.drewN m) (fun v _ => a - (intOf v).toNat)
  case atStart => exact ⟨1, 0, by omega, by omega, rfl, rfl⟩
  case round =>
    obtain ⟨x, m, hx1, hxa, rfl, rfl⟩ := hrel
    have hc : (x = 1 ∧ a = 1) ∨ (x = 1 ∧ a = 2 ∧ p = 3) ∨ (x = 2 ∧ a = 2 ∧ p = 3) := by omega
    rcases hc with ⟨rfl, rfl⟩ | ⟨rfl, rfl, rfl⟩ | ⟨rfl, rfl, rfl⟩
    · go_wp2_with fail
      refine (amod_go _ pk p _ (HK.out m) hp (by decide)).mono ?_
      rintro e w' ⟨rfl, k, rfl⟩
      have h1 : (1 : Int) % (p : Int) = 1 := by rcases hp with rfl | rfl <;> rfl
      go_wp2
      go_ret
      exact ⟨rfl, m + k, by rfl⟩
    · go_wp2_with fail
      refine (amod_go _ pk 3 _ (HK.out m) (.inr rfl) (by decide)).mono ?_
      rintro e w' ⟨rfl, k, rfl⟩
      go_wp2
      go_roundw
      case rel => exact ⟨_, _, _, _, _, _, _, _, _, ⟨2, m + k, by omega, by omega, rfl, rfl⟩, rfl⟩
      case measure => simp [intOf]
    · go_wp2_with fail
      refine (amod_go _ pk 3 _ (HK.out m) (.inr rfl) (by decide)).mono ?_
      rintro e w' ⟨rfl, k, rfl⟩
      go_wp2
      go_ret
      exact ⟨rfl, m + k, by rfl⟩
/-- Where the first element lies that is not 0. -/
theorem lw1_go (w : World) (x : Int) : Calls Try.prog 85 #[.int .i64 x] w fun e w' => e = .returned (.bool (x != 0)) ∧ w = w' := by
  go_enter Try.func85, Try.ntmps85
  go_wp2
  go_ret
  exact ⟨rfl, rfl⟩
theorem cf_lw1 (args : Array Value) (w : World) : (callFunc 85 args).run Try.prog w = .ok (.enter 85 args) w := by kernel_rfl
theorem lwidx_go (w : World) (a : Option Addr) (n cap i : Nat) (l : List Int) (hs : Sl w a n cap l) (hn : n ≤ 16) (hi : i < n) (h0 : ∀ j, j < i → nth l j = 0) (h1 : nth l i ≠ 0) :
    Calls Try.prog 84 #[.slice a n cap, .func (Fn.func 85) #[] #[]] w fun e w' => e = .returned (.int .i64 i) ∧ w = w' := by
  have hcf := cf_lw1
  obtain ⟨b, off, rfl, hb, hc, hcap⟩ := sl_at hs (by omega)
  unfold maxLen at hcap
  have HC := Lib.hid hc
  clear hs hc
  go_enter Try.func84, Try.ntmps84
  go_wp2
  go_loopw [8] (fun v wr => ∃ j : Nat, j ≤ i ∧ v = .int .i64 j ∧ w = wr) (fun v _ => i - (intOf v).toNat)
  case atStart => exact ⟨0, by omega, rfl, rfl⟩
  case round =>
    obtain ⟨j, hj, rfl, rfl⟩ := hrel
    have e1 := HC.out j (by omega)
    by_cases hji : j = i
    · subst hji
      have hx : (nth l j != 0) = true := by simpa using h1
      generalize nth l j = x at *
      go_wp2_with fail
      refine (lw1_go _ x).mono ?_
      rintro e w' ⟨rfl, rfl⟩
      rw [hx]
      go_wp2
      go_ret
      exact ⟨rfl, rfl⟩
    · have hx := h0 j (by omega)
      rw [hx] at e1
      go_wp2_with fail
      refine (lw1_go _ 0).mono ?_
      rintro e w' ⟨rfl, rfl⟩
      go_wp2
      go_roundw
      case rel => go_light; exact ⟨j + 1, by omega, by go_num, by trivial⟩
      case measure => simp [intOf]; omega
end Go.Proofs.Ytiapngmallfelaa
