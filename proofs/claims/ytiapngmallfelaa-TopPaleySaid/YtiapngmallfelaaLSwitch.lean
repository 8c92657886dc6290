
/- Walks: Switch of the program; the statement SchemesSwitches. -/
import Derived.Test.YtiapngmallfelaaLawLow
namespace Go.Proofs.Ytiapngmallfelaa
open Go.RowKit

theorem switch_bad1 (w : World) (a : Option Addr) (n cap : Nat) (l : List Int) (s : Int) (hs : Sl w a n cap l) (hv : ¬ VldP l) :
    Calls Try.prog 12 #[.slice a n cap, .int .i64 s] w fun e w' => e = .returned (.tuple #[.slice none 0 0, .int .i64 2]) ∧ Below w.heap.size w w' := by
  have hd : decide (VldP l) = false := by simp [hv]
  go_enter Try.func12, Try.ntmps12
  go_wp2_with fail
  refine (valid_go _ _ _ _ _ hs).mono ?_
  rintro e w1 ⟨rfl, hw⟩
  have hb := drewB hw
  clear hw
  go_wp2
  go_ret2
  exact ⟨rfl, hb⟩

theorem switch_bad2 (w : World) (a : Option Addr) (n cap : Nat) (l : List Int) (s : Int) (hs : Sl w a n cap l) (hv : VldP l) (hb : s < 0) :
    Calls Try.prog 12 #[.slice a n cap, .int .i64 s] w fun e w' => e = .returned (.tuple #[.slice none 0 0, .int .i64 2]) ∧ Below w.heap.size w w' := by
  have hd : decide (VldP l) = true := by simp [hv]
  go_enter Try.func12, Try.ntmps12
  go_wp2_with fail
  refine (valid_go _ _ _ _ _ hs).mono ?_
  rintro e w1 ⟨rfl, hw⟩
  have hb := drewB hw
  clear hw
  go_wp2
  go_ret2
  exact ⟨rfl, hb⟩

theorem switch_bad3 (w : World) (a : Option Addr) (n cap : Nat) (l : List Int) (s : Int) (hs : Sl w a n cap l) (hv : VldP l) (h0 : 0 ≤ s) (hb : ((2 ^ n : Nat) : Int) ≤ s) :
    Calls Try.prog 12 #[.slice a n cap, .int .i64 s] w fun e w' => e = .returned (.tuple #[.slice none 0 0, .int .i64 2]) ∧ Below w.heap.size w w' := by
  have hd : decide (VldP l) = true := by simp [hv]
  have hn16 : n ≤ 16 := by have := hs.len; have := hv.2.1; omega
  have i0 : ¬ s < 0 := by omega
  have i1 : (full n : Int) < s := by unfold full; have := Nat.one_le_two_pow (n := n); omega
  clear hb
  go_enter Try.func12, Try.ntmps12
  go_wp2_with fail
  refine (valid_go _ _ _ _ _ hs).mono ?_
  rintro e w1 ⟨rfl, hw⟩
  have hb := drewB hw
  clear hw
  go_wp2_with fail
  refine (all_go _ _ _ _ hn16).mono ?_
  rintro e w2 ⟨rfl, rfl⟩
  rw [show 2 ^ n - 1 = full n from rfl]
  go_wp2
  go_ret2
  exact ⟨rfl, hb⟩

theorem switch_go (w : World) (a : Option Addr) (n cap : Nat) (G : List Nat) (s : Nat) (hs : Sl w a n cap (ints G)) (hG : Gr G) (hlt : s < 2 ^ n) :
    Calls Try.prog 12 #[.slice a n cap, .int .i64 s] w (GivesSlE w (ints (swL G s)) 0) := by
  have hd : decide (VldP (ints G)) = true := by simp [vld_ints hG]
  have hn16 : n ≤ 16 := by have := hs.len; rw [ints_length] at this; have := hG.2.1; omega
  have i0 : ¬ (s : Int) < 0 := by omega
  have i1 : ¬ (full n : Int) < s := by unfold full; omega
  have hs16 : s < 65536 := by have : 2 ^ n ≤ 2 ^ 16 := Nat.pow_le_pow_right (by omega) hn16; omega
  clear hlt
  go_enter Try.func12, Try.ntmps12
  go_wp2_with fail
  refine (valid_go _ _ _ _ _ hs).mono ?_
  rintro e w1 ⟨rfl, hw⟩
  have hb := drewB hw
  clear hw
  go_wp2_with fail
  refine (all_go _ _ _ _ hn16).mono ?_
  rintro e w2 ⟨rfl, rfl⟩
  rw [show 2 ^ n - 1 = full n from rfl]
  go_wp2_with fail
  refine (switched_go _ _ _ _ G s (hs.mono hb) hG.small hs16 hn16).mono ?_
  rintro e w3 ⟨a3, n3, p3, rfl, ho3, hb3⟩
  go_wp2
  go_ret2
  exact ⟨a3, n3, p3, rfl, own_base ho3 hb.size, btr hb hb3⟩

end Go.Proofs.Ytiapngmallfelaa
