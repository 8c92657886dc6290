/- Walks: Alone, of the program and of the reference. -/
import Derived.Test.YtijnpcehjnaaiaaSame
namespace Go.Proofs.Ytijnpcehjnaaiaa
open Go.RowKit

/-- x without its bit v, the higher ones moved down. -/
def dropBit (x v : Nat) : Nat := (x &&& (2 ^ v - 1)) ||| (x / 2 ^ (v + 1) * 2 ^ v)
def aloneTo (G : List Nat) (v k : Nat) : List Nat := ((List.range k).filter (fun i => i != v)).map fun i => dropBit (gn (swL G (gn G v)) i) v
def aloneL (G : List Nat) (v : Nat) : List Nat := aloneTo G v G.length
theorem alone_hit {G : List Nat} {v k : Nat} (h : k ≠ v) : aloneTo G v (k + 1) = aloneTo G v k ++ [dropBit (gn (swL G (gn G v)) k) v] := by simp [aloneTo, List.range_succ, h]
theorem alone_miss {G : List Nat} {v k : Nat} (h : k = v) : aloneTo G v (k + 1) = aloneTo G v k := by simp [aloneTo, List.range_succ, h]
theorem alone_len (G : List Nat) (v k : Nat) : (aloneTo G v k).length ≤ k := by
  unfold aloneTo; rw [List.length_map]; exact Nat.le_trans (List.length_filter_le _ _) (by simp)

/-- What the walk computes of one row. -/
theorem drop_facts {x v : Nat} (hx : x < 65536) (hv : v < 16) : ∃ M A C B : Nat, dropBit x v = A ||| B ∧ M < 65536 ∧ A < 65536 ∧ C < 65536 ∧ B < 65536 ∧
    (2 : Int) ^ v - 1 = (M : Int) ∧ IntKind.i64.wrap (2 ^ v) = 2 ^ v ∧ IntKind.i64.wrap (M : Int) = M ∧ bits .and .i64 (x : Int) (M : Int) = (A : Int) ∧ IntKind.i64.wrap ((v : Int) + 1) = (v : Int) + 1 ∧ ((v : Int) + 1).toNat = v + 1 ∧
    (x : Int) / 2 ^ (v + 1) = (C : Int) ∧ (C : Int) * 2 ^ v = (B : Int) ∧ IntKind.i64.wrap (B : Int) = B ∧ bits .or .i64 (A : Int) (B : Int) = ((A ||| B : Nat) : Int) := by
  have hp := pow16 hv
  have h1 := Nat.one_le_two_pow (n := v)
  have hC : x / 2 ^ (v + 1) * 2 ^ v ≤ x := by
    have : x / 2 ^ (v + 1) * 2 ^ (v + 1) ≤ x := Nat.div_mul_le_self _ _
    have h2 : x / 2 ^ (v + 1) * 2 ^ v ≤ x / 2 ^ (v + 1) * 2 ^ (v + 1) := Nat.mul_le_mul_left _ (Nat.pow_le_pow_right (by omega) (by omega))
    omega
  have hA : x &&& (2 ^ v - 1) ≤ x := Nat.and_le_left
  have hC2 : x / 2 ^ (v + 1) ≤ x := Nat.div_le_self _ _
  refine ⟨2 ^ v - 1, x &&& (2 ^ v - 1), x / 2 ^ (v + 1), x / 2 ^ (v + 1) * 2 ^ v, rfl, by omega, by omega, by omega, by omega, ?_, ?_, wrap_i64n _ (by omega), i64_and_nat _ _ (by omega) (by omega), ?_, by omega, ?_, ?_, wrap_i64n _ (by omega), i64_or_nat _ _ (by omega) (by omega)⟩
  · rw [Int.natCast_sub h1]; simp
  · rw [IntWalk.i64_left]; exact wrap_pow (by omega)
  · rw [IntWalk.i64_left]; exact IntWalk.wrap64_in _ (by omega)
  · rw [Int.natCast_ediv]; simp
  · rw [Int.natCast_mul]; simp

set_option maxHeartbeats 1000000 in
theorem ralone_go (w : World) (a : Option Addr) (n cap : Nat) (G : List Nat) (v : Nat) (hs : Sl w a n cap (ints G)) (hG : Gr G) (hv : v < n) :
    Calls Try.prog 30 #[.slice a n cap, .int .i64 v] w (GivesSl w (ints (aloneL G v))) := by
  have hn : G.length = n := by have := hs.len; rwa [ints_length] at this
  have hn16 : n ≤ 16 := by have := hG.2.1; omega
  rcases hs.parts with ⟨_, rfl, _⟩ | ⟨b, off, rfl, hs2⟩
  · omega
  obtain ⟨hb, hc⟩ := hs2.icells (by omega)
  have hcv := hc v hv
  have hv16 := gn_lt hG.small (by omega) v
  have hsm := gn_lt (sw_gr hG (gn G v)).small (by omega)
  have HN := Lib.hid hn
  clear hn hs hc
  go_enter Try.func30, Try.ntmps30
  go_wp2_with fail
  refine (rswitch_go _ _ _ _ G (gn G v) hs2 hG hv16).mono ?_
  rintro e w1 ⟨a1, n1, p1, rfl, ho1, hb1⟩
  have hn1 : n1 = n := by have := (own_sl ho1).len; rw [ints_length, swL_length, HN.out] at this; exact this.symm
  subst hn1
  rcases (own_sl ho1).parts with ⟨_, h0, _⟩ | ⟨b1, off1, rfl, hsC⟩
  · omega
  obtain ⟨hbC, hcC⟩ := hsC.icells (by omega)
  clear ho1
  go_wp2
  go_loopw [15, 5] (fun i o wr => ∃ k m : Nat, k ≤ n1 ∧ i = .int .i64 k ∧ m ≤ k ∧ wr.ownsRow w1.heap.size 3 1 o m ((ints (aloneTo G v k)).map (Value.int .i64)) ∧ Below w1.heap.size w1 wr) (fun i _ _ => n1 - (intOf i).toNat)
  case atStart => exact ⟨0, 0, by omega, rfl, Nat.le_refl _, World.ownsRow_nil _ _ _ _, Below.refl _ _⟩
  case round =>
    obtain ⟨k, m, hk, rfl, hm, hown, hbw⟩ := hrel
    by_cases hlt : k < n1
    · have hck : wr.cell? ⟨b1, off1 + k, none⟩ = some (.int .i64 (gn (swL G (gn G v)) k)) := (hbw.cell hbC).trans (hcC k hlt)
      by_cases hkv : k = v
      · have tk : ((k : Int) != (v : Int)) = false := by rw [hkv]; simp
        have HKV := Lib.hid hkv
        clear hkv
        go_wp2
        go_roundw
        case rel => exact ⟨k + 1, m, by omega, by go_num, by omega, by rw [alone_miss HKV.out]; exact hown, hbw⟩
        case measure => simp [intOf]; omega
      · have tk : ((k : Int) != (v : Int)) = true := by simp; omega
        obtain ⟨M, A, C, B, hdb, hM, hA, hC, hB, r1, r2, r3, r4, r5, r6, r7, r8, r9, r10⟩ := drop_facts (hsm k) (show v < 16 by omega)
        have HDB := Lib.hid hdb
        have hsz := hbw.size
        clear hdb
        go_wp2
        go_region_law (refine step_app rfl _ _ 22 rfl Try.underlying22 w1.heap.size u5 m _ rfl (hown.alloc _).drew (some ⟨wr.heap.size, 0, none⟩) 1 1 [((A ||| B : Nat) : Int)] rfl (sl_one _ _).drew (by omega) (by simp; omega) ?_; intro v' wn hown' hgrow)
        go_wp2
        go_roundw
        case rel =>
          have hb1 : Below w1.heap.size w1 wn := own_grown hown hbw _ (show (wr.alloc _).grownBy _ _ from ⟨hgrow.os, hgrow.tape, hgrow.output, hgrow.size, hgrow.block⟩)
          refine ⟨k + 1, m + 1, by omega, by go_num, by omega, ?_, hb1⟩
          rw [alone_hit hkv, HDB.out, ints_append, ints_one]
          exact hown'
        case measure => simp [intOf]; omega
    · obtain rfl : k = n1 := by omega
      go_wp2
      go_ret
      have hm2 : aloneTo G v k = aloneL G v := by unfold aloneL; rw [HN.out]
      rw [hm2] at hown
      exact own_gives (own_base hown hb1.size) (btr hb1 hbw)

theorem alone_bad1 (w : World) (a : Option Addr) (n cap : Nat) (l : List Int) (v : Int) (hs : Sl w a n cap l) (hv : ¬ VldP l) :
    Calls Try.prog 29 #[.slice a n cap, .int .i64 v] w fun e w' => e = .returned (.tuple #[.slice none 0 0, .int .i64 2]) ∧ Below w.heap.size w w' := by
  have hd : decide (VldP l) = false := by simp [hv]
  go_enter Try.func29, Try.ntmps29
  go_wp2_with fail
  refine (valid_go _ _ _ _ _ hs).mono ?_
  rintro e w1 ⟨rfl, hw⟩
  have hb := drewB hw
  clear hw
  go_wp2
  go_ret2
  exact ⟨rfl, hb⟩

theorem alone_bad2 (w : World) (a : Option Addr) (n cap : Nat) (l : List Int) (v : Int) (hs : Sl w a n cap l) (hv : VldP l) (hb : v < 0) :
    Calls Try.prog 29 #[.slice a n cap, .int .i64 v] w fun e w' => e = .returned (.tuple #[.slice none 0 0, .int .i64 2]) ∧ Below w.heap.size w w' := by
  have hd : decide (VldP l) = true := by simp [hv]
  go_enter Try.func29, Try.ntmps29
  go_wp2_with fail
  refine (valid_go _ _ _ _ _ hs).mono ?_
  rintro e w1 ⟨rfl, hw⟩
  have hb := drewB hw
  clear hw
  go_wp2
  go_ret2
  exact ⟨rfl, hb⟩

theorem alone_bad3 (w : World) (a : Option Addr) (n cap : Nat) (l : List Int) (v : Int) (hs : Sl w a n cap l) (hv : VldP l) (hb : (n : Int) ≤ v) :
    Calls Try.prog 29 #[.slice a n cap, .int .i64 v] w fun e w' => e = .returned (.tuple #[.slice none 0 0, .int .i64 2]) ∧ Below w.heap.size w w' := by
  have hd : decide (VldP l) = true := by simp [hv]
  have h0 : ¬ v < 0 := by omega
  go_enter Try.func29, Try.ntmps29
  go_wp2_with fail
  refine (valid_go _ _ _ _ _ hs).mono ?_
  rintro e w1 ⟨rfl, hw⟩
  have hb := drewB hw
  clear hw
  go_wp2
  go_ret2
  exact ⟨rfl, hb⟩

theorem alone_bad4 (w : World) (a : Option Addr) (n cap : Nat) (l : List Int) (v : Int) (hs : Sl w a n cap l) (hv : VldP l) (h0 : ¬ v < 0) (h1 : ¬ (n : Int) ≤ v) (hb : n < 2) :
    Calls Try.prog 29 #[.slice a n cap, .int .i64 v] w fun e w' => e = .returned (.tuple #[.slice none 0 0, .int .i64 2]) ∧ Below w.heap.size w w' := by
  have hd : decide (VldP l) = true := by simp [hv]
  go_enter Try.func29, Try.ntmps29
  go_wp2_with fail
  refine (valid_go _ _ _ _ _ hs).mono ?_
  rintro e w1 ⟨rfl, hw⟩
  have hb := drewB hw
  clear hw
  go_wp2
  go_ret2
  exact ⟨rfl, hb⟩

set_option maxHeartbeats 1000000 in
theorem alone_go (w : World) (a : Option Addr) (n cap : Nat) (G : List Nat) (v : Nat) (hs : Sl w a n cap (ints G)) (hG : Gr G) (hv : v < n) (h2n : 2 ≤ n) :
    Calls Try.prog 29 #[.slice a n cap, .int .i64 v] w (GivesSlE w (ints (aloneL G v)) 0) := by
  have hn : G.length = n := by have := hs.len; rwa [ints_length] at this
  have hn16 : n ≤ 16 := by have := hG.2.1; omega
  rcases hs.parts with ⟨_, rfl, _⟩ | ⟨b, off, rfl, hs2⟩
  · omega
  obtain ⟨hb, hc⟩ := hs2.icells (by omega)
  have hcv := hc v hv
  have i0 : ¬ (v : Int) < 0 := by omega
  have i1 : ¬ (n : Int) ≤ v := by omega
  have i2 : ¬ n < 2 := by omega
  have hv16 := gn_lt hG.small (by omega) v
  have hsm := gn_lt (sw_gr hG (gn G v)).small (by omega)
  have HN := Lib.hid hn
  clear hn hs hc
  go_enter Try.func29, Try.ntmps29
  have hd : decide (VldP (ints G)) = true := by simp [vld_ints hG]
  go_wp2_with fail
  refine (valid_go _ _ _ _ _ hs2).mono ?_
  rintro e w0 ⟨rfl, hw⟩
  have hb0 := drewB hw
  have hcv := (hb0.cell hb).trans hcv
  clear hw
  go_wp2_with fail
  refine (switched_go _ _ _ _ G (gn G v) (hs2.mono hb0) hG.small hv16 hn16).mono ?_
  rintro e w1 ⟨a1, n1, p1, rfl, ho1, hb1⟩
  replace hb1 := btr hb0 hb1
  clear hcv hb0
  have hn1 : n1 = n := by have := (own_sl ho1).len; rw [ints_length, swL_length, HN.out] at this; exact this.symm
  subst hn1
  rcases (own_sl ho1).parts with ⟨_, h0, _⟩ | ⟨b1, off1, rfl, hsC⟩
  · omega
  obtain ⟨hbC, hcC⟩ := hsC.icells (by omega)
  clear ho1
  go_wp2
  go_loopw [36, 7] (fun i o wr => ∃ k m : Nat, k ≤ n1 ∧ i = .int .i64 k ∧ m ≤ k ∧ wr.ownsRow w1.heap.size 3 1 o m ((ints (aloneTo G v k)).map (Value.int .i64)) ∧ Below w1.heap.size w1 wr) (fun i _ _ => n1 - (intOf i).toNat)
  case atStart => exact ⟨0, 0, by omega, rfl, Nat.le_refl _, World.ownsRow_nil _ _ _ _, Below.refl _ _⟩
  case round =>
    obtain ⟨k, m, hk, rfl, hm, hown, hbw⟩ := hrel
    by_cases hlt : k < n1
    · have hck : wr.cell? ⟨b1, off1 + k, none⟩ = some (.int .i64 (gn (swL G (gn G v)) k)) := (hbw.cell hbC).trans (hcC k hlt)
      by_cases hkv : k = v
      · have tk : ((k : Int) != (v : Int)) = false := by rw [hkv]; simp
        have HKV := Lib.hid hkv
        clear hkv
        go_wp2
        go_roundw
        case rel => exact ⟨k + 1, m, by omega, by go_num, by omega, by rw [alone_miss HKV.out]; exact hown, hbw⟩
        case measure => simp [intOf]; omega
      · have tk : ((k : Int) != (v : Int)) = true := by simp; omega
        obtain ⟨M, A, C, B, hdb, hM, hA, hC, hB, r1, r2, r3, r4, r5, r6, r7, r8, r9, r10⟩ := drop_facts (hsm k) (show v < 16 by omega)
        have HDB := Lib.hid hdb
        have hsz := hbw.size
        clear hdb
        go_wp2
        go_region_law (refine step_app rfl _ _ 22 rfl Try.underlying22 w1.heap.size u7 m _ rfl (hown.alloc _).drew (some ⟨wr.heap.size, 0, none⟩) 1 1 [((A ||| B : Nat) : Int)] rfl (sl_one _ _).drew (by omega) (by simp; omega) ?_; intro v' wn hown' hgrow)
        go_wp2
        go_roundw
        case rel =>
          have hb1 : Below w1.heap.size w1 wn := own_grown hown hbw _ (show (wr.alloc _).grownBy _ _ from ⟨hgrow.os, hgrow.tape, hgrow.output, hgrow.size, hgrow.block⟩)
          refine ⟨k + 1, m + 1, by omega, by go_num, by omega, ?_, hb1⟩
          rw [alone_hit hkv, HDB.out, ints_append, ints_one]
          exact hown'
        case measure => simp [intOf]; omega
    · obtain rfl : k = n1 := by omega
      go_wp2
      go_ret2
      have hm2 : aloneTo G v k = aloneL G v := by unfold aloneL; rw [HN.out]
      rw [hm2] at hown
      exact own_givesE (own_base hown hb1.size) (btr hb1 hbw)

end Go.Proofs.Ytijnpcehjnaaiaa
