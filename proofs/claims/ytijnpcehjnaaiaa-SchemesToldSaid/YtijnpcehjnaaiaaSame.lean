/- Walks: Same, of the program and of the reference; plain: they answer alike. -/
import Derived.Test.YtijnpcehjnaaiaaSwr
namespace Go.Proofs.Ytijnpcehjnaaiaa
open Go.RowKit

/-! ### plain -/
theorem full_bit (n j : Nat) : (full n).testBit j = decide (j < n) := by unfold full; exact Nat.testBit_two_pow_sub_one n j
theorem full_lt_pow (n : Nat) : full n < 2 ^ n := by have := Nat.one_le_two_pow (n := n); unfold full; omega
theorem xor_bits {a b j : Nat} : (a ^^^ b).testBit j = (a.testBit j != b.testBit j) := by rw [Nat.testBit_xor]
theorem gn_ext {A B : List Nat} (h : A.length = B.length) (g : ∀ i, i < A.length → gn A i = gn B i) : A = B :=
  List.ext_getElem h fun i h1 h2 => by have := g i h1; rwa [gn_of_lt h1, gn_of_lt h2] at this
theorem sw_bit {G : List Nat} (hG : Gr G) {s i j : Nat} (hi : i < G.length) (hj : j < G.length) : (gn (swL G s) i).testBit j = ((gn G i).testBit j != (s.testBit i != s.testBit j)) := by
  rw [sw_gn hG hi, flipTo_bit]; simp [hj]
theorem sw_lt {G : List Nat} (_hG : Gr G) {s i : Nat} (hi : i < G.length) : gn (swL G s) i < 2 ^ G.length := by
  have e : gn (swL G s) i = setTo (fun q => decide (i ≠ q) && nearSw G s i q) G.length := by simp [gn, swL, madeL, hi]
  rw [e]; exact setTo_lt _ _
/-- A switched graph is a graph. -/
theorem sw_gr {G : List Nat} (hG : Gr G) (s : Nat) : Gr (swL G s) := by
  refine ⟨by rw [swL_length]; exact hG.1, by rw [swL_length]; exact hG.2.1, fun i hi => ?_⟩
  rw [swL_length] at hi ⊢
  obtain ⟨h1, h2, h3⟩ := hG.2.2 i hi
  refine ⟨sw_lt hG hi, by rw [sw_bit hG hi hi, h2]; simp, fun j hj => ?_⟩
  rw [sw_bit hG hi hj, sw_bit hG hj hi, h3 j hj]
  cases (gn G j).testBit i <;> cases s.testBit i <;> cases s.testBit j <;> rfl
/-- Two sets that part the nodes alike switch alike. -/
theorem sw_congr {G : List Nat} (hG : Gr G) {s t : Nat} (h : ∀ i j, i < G.length → j < G.length → (s.testBit i != s.testBit j) = (t.testBit i != t.testBit j)) : swL G s = swL G t := by
  refine gn_ext (by rw [swL_length, swL_length]) fun i hi => ?_
  rw [swL_length] at hi
  apply Nat.eq_of_testBit_eq
  intro j
  by_cases hj : j < G.length
  · rw [sw_bit hG hi hj, sw_bit hG hi hj, h i j hi hj]
  · have hp : 2 ^ G.length ≤ 2 ^ j := Nat.pow_le_pow_right (by omega) (by omega)
    rw [Nat.testBit_lt_two_pow (Nat.lt_of_lt_of_le (sw_lt hG hi) hp), Nat.testBit_lt_two_pow (Nat.lt_of_lt_of_le (sw_lt hG hi) hp)]
/-- The set that Same tries. -/
def trySet (G H : List Nat) : Nat := min (gn G 0 ^^^ gn H 0) (andn (full G.length) (gn G 0 ^^^ gn H 0))
theorem nat_bits_ext {a b n : Nat} (ha : a < 2 ^ n) (hb : b < 2 ^ n) (h : ∀ j, j < n → a.testBit j = b.testBit j) : a = b := by
  apply Nat.eq_of_testBit_eq
  intro j
  by_cases hj : j < n
  · exact h j hj
  · have hp : 2 ^ n ≤ 2 ^ j := Nat.pow_le_pow_right (by omega) (by omega)
    rw [Nat.testBit_lt_two_pow (Nat.lt_of_lt_of_le ha hp), Nat.testBit_lt_two_pow (Nat.lt_of_lt_of_le hb hp)]
theorem xor_lt {G H : List Nat} (hG : Gr G) (hH : Gr H) (hl : G.length = H.length) : gn G 0 ^^^ gn H 0 < 2 ^ G.length :=
  Nat.xor_lt_two_pow (hG.2.2 0 hG.1).1 (by rw [hl]; exact (hH.2.2 0 hH.1).1)
/-- A set by which switching makes H of G is the one that Same tries, or its complement. -/
theorem sw_cases {G H : List Nat} (hG : Gr G) (hH : Gr H) (hl : G.length = H.length) {s : Nat} (hs : s < 2 ^ G.length) (h : swL G s = H) :
    s = gn G 0 ^^^ gn H 0 ∨ s = andn (full G.length) (gn G 0 ^^^ gn H 0) := by
  have hb : ∀ j, j < G.length → (s.testBit 0 != s.testBit j) = ((gn G 0).testBit j != (gn H 0).testBit j) := fun j hj => by
    have := sw_bit hG (s := s) hG.1 hj
    rw [h] at this
    rw [this]; cases (gn G 0).testBit j <;> cases s.testBit 0 <;> cases s.testBit j <;> rfl
  have g0 := (hG.2.2 0 hG.1).2.1
  have h0 := (hH.2.2 0 hH.1).2.1
  cases e : s.testBit 0 with
  | false =>
    left
    refine nat_bits_ext hs (xor_lt hG hH hl) fun j hj => ?_
    have := hb j hj
    rw [e] at this
    rw [xor_bits, ← this]; simp
  | true =>
    right
    refine nat_bits_ext hs (andn_lt (full_lt_pow _)) fun j hj => ?_
    have := hb j hj
    rw [e] at this
    rw [andn_bit, full_bit, xor_bits, ← this]; simp [hj]
theorem sw_compl {G : List Nat} (hG : Gr G) (x : Nat) : swL G (andn (full G.length) x) = swL G x :=
  sw_congr hG fun i j hi hj => by
    rw [andn_bit, andn_bit, full_bit, full_bit]; simp only [hi, hj, decide_true, Bool.true_and]
    cases x.testBit i <;> cases x.testBit j <;> rfl
theorem try_sw {G H : List Nat} (hG : Gr G) : swL G (trySet G H) = swL G (gn G 0 ^^^ gn H 0) := by
  unfold trySet
  rcases Nat.le_total (gn G 0 ^^^ gn H 0) (andn (full G.length) (gn G 0 ^^^ gn H 0)) with h | h
  · rw [Nat.min_eq_left h]
  · rw [Nat.min_eq_right h, sw_compl hG]
theorem try_lt {G H : List Nat} (hG : Gr G) (hH : Gr H) (hl : G.length = H.length) : trySet G H < 2 ^ G.length :=
  Nat.lt_of_le_of_lt (Nat.min_le_left _ _) (xor_lt hG hH hl)
/-- Whatever set makes H of G, the one that is tried does, and it is no greater. -/
theorem try_least {G H : List Nat} (hG : Gr G) (hH : Gr H) (hl : G.length = H.length) {s : Nat} (hs : s < 2 ^ G.length) (h : swL G s = H) : swL G (trySet G H) = H ∧ trySet G H ≤ s := by
  rw [try_sw hG]
  rcases sw_cases hG hH hl hs h with rfl | rfl
  · exact ⟨h, Nat.min_le_left _ _⟩
  · rw [sw_compl hG] at h
    exact ⟨h, Nat.min_le_right _ _⟩

theorem ints_inj {A B : List Nat} (h : ints A = ints B) : A = B := by
  have hl : A.length = B.length := by rw [← ints_length A, ← ints_length B, h]
  refine gn_ext hl fun i hi => ?_
  have := congrArg (fun l => nth l i) h
  simp only [nth_ints] at this
  omega

/-! ### walks -/
/-- What Same answers. -/
noncomputable def sameV (G H : List Nat) : Int := if swL G (trySet G H) = H then (trySet G H : Int) else 0
noncomputable def sameE (G H : List Nat) : Int := if swL G (trySet G H) = H then 0 else 4

theorem same_bad1 (w : World) (a : Option Addr) (n cap : Nat) (l : List Int) (a2 : Option Addr) (n2 cap2 : Nat) (hs : Sl w a n cap l) (hv : ¬ VldP l) :
    Calls Try.prog 27 #[.slice a n cap, .slice a2 n2 cap2] w fun e w' => e = .returned (.tuple #[.int .i64 0, .int .i64 2]) ∧ Below w.heap.size w w' := by
  have hd : decide (VldP l) = false := by simp [hv]
  go_enter Try.func27, Try.ntmps27
  go_wp2_with fail
  refine (valid_go _ _ _ _ _ hs).mono ?_
  rintro e w1 ⟨rfl, hw⟩
  have hb := drewB hw
  clear hw
  go_wp2
  go_ret2
  exact ⟨rfl, hb⟩
theorem same_bad2 (w : World) (a : Option Addr) (n cap : Nat) (l : List Int) (a2 : Option Addr) (n2 cap2 : Nat) (l2 : List Int) (hs : Sl w a n cap l) (hs2 : Sl w a2 n2 cap2 l2) (hv : VldP l) (hv2 : ¬ VldP l2) :
    Calls Try.prog 27 #[.slice a n cap, .slice a2 n2 cap2] w fun e w' => e = .returned (.tuple #[.int .i64 0, .int .i64 2]) ∧ Below w.heap.size w w' := by
  have hd : decide (VldP l) = true := by simp [hv]
  have hd2 : decide (VldP l2) = false := by simp [hv2]
  go_enter Try.func27, Try.ntmps27
  go_wp2_with fail
  refine (valid_go _ _ _ _ _ hs).mono ?_
  rintro e w1 ⟨rfl, hw⟩
  have hb := drewB hw
  clear hw
  go_wp2_with fail
  refine (valid_go _ _ _ _ _ (hs2.mono hb)).mono ?_
  rintro e w2 ⟨rfl, hw⟩
  have hb2 := btr hb (drewB hw)
  clear hw hb
  go_wp2
  go_ret2
  exact ⟨rfl, hb2⟩
theorem same_bad3 (w : World) (a : Option Addr) (n cap : Nat) (l : List Int) (a2 : Option Addr) (n2 cap2 : Nat) (l2 : List Int) (hs : Sl w a n cap l) (hs2 : Sl w a2 n2 cap2 l2) (hv : VldP l) (hv2 : VldP l2) (hl : n ≠ n2) :
    Calls Try.prog 27 #[.slice a n cap, .slice a2 n2 cap2] w fun e w' => e = .returned (.tuple #[.int .i64 0, .int .i64 2]) ∧ Below w.heap.size w w' := by
  have hd : decide (VldP l) = true := by simp [hv]
  have hd2 : decide (VldP l2) = true := by simp [hv2]
  have hne : ((n : Int) != (n2 : Int)) = true := by rw [bne_iff_ne]; omega
  go_enter Try.func27, Try.ntmps27
  go_wp2_with fail
  refine (valid_go _ _ _ _ _ hs).mono ?_
  rintro e w1 ⟨rfl, hw⟩
  have hb := drewB hw
  clear hw
  go_wp2_with fail
  refine (valid_go _ _ _ _ _ (hs2.mono hb)).mono ?_
  rintro e w2 ⟨rfl, hw⟩
  have hb2 := btr hb (drewB hw)
  clear hw hb
  go_wp2
  go_ret2
  exact ⟨rfl, hb2⟩

set_option maxHeartbeats 1000000 in
theorem same_go (w : World) (a : Option Addr) (n cap : Nat) (G : List Nat) (a2 : Option Addr) (cap2 : Nat) (H : List Nat) (hs : Sl w a n cap (ints G)) (hs2 : Sl w a2 n cap2 (ints H)) (hG : Gr G) (hH : Gr H) :
    Calls Try.prog 27 #[.slice a n cap, .slice a2 n cap2] w fun e w' => e = .returned (.tuple #[.int .i64 (sameV G H), .int .i64 (sameE G H)]) ∧ Below w.heap.size w w' := by
  have hd : decide (VldP (ints G)) = true := by simp [vld_ints hG]
  have hd2 : decide (VldP (ints H)) = true := by simp [vld_ints hH]
  have hnG : G.length = n := by have := hs.len; rwa [ints_length] at this
  have hnH : H.length = n := by have := hs2.len; rwa [ints_length] at this
  have hn16 : n ≤ 16 := by have := hG.2.1; omega
  have h1n : 1 ≤ n := by have := hG.1; omega
  rcases hs.parts with ⟨_, rfl, _⟩ | ⟨b, off, rfl, hsA⟩
  · omega
  rcases hs2.parts with ⟨_, h0, _⟩ | ⟨b2, off2, rfl, hsB⟩
  · omega
  clear hs hs2
  have g16 := gn_lt hG.small (by omega) 0
  have h16 := gn_lt hH.small (by omega) 0
  have hx := i64_xor_nat (gn G 0) (gn H 0) (by omega) (by omega)
  have hxl : gn G 0 ^^^ gn H 0 < 65536 := Nat.xor_lt_two_pow (n := 16) g16 h16
  have hfl := full_lt hn16
  have ha := i64_andNot_nat (full n) (gn G 0 ^^^ gn H 0) (by omega) (by omega)
  have hal : andn (full n) (gn G 0 ^^^ gn H 0) < 65536 := andn_lt (n := 16) hfl
  have htry : trySet G H = min (gn G 0 ^^^ gn H 0) (andn (full n) (gn G 0 ^^^ gn H 0)) := by rw [← hnG]; rfl
  have HT := Lib.hid htry
  have HNG := Lib.hid hnG
  have HNH := Lib.hid hnH
  clear htry hnG hnH
  go_enter Try.func27, Try.ntmps27
  go_wp2_with fail
  refine (valid_go _ _ _ _ _ hsA).mono ?_
  rintro e w1 ⟨rfl, hw⟩
  have hb := drewB hw
  clear hw
  go_wp2_with fail
  refine (valid_go _ _ _ _ _ (hsB.mono hb)).mono ?_
  rintro e w2 ⟨rfl, hw⟩
  have hB2 := btr hb (drewB hw)
  clear hw hb
  obtain ⟨hbA, hcA⟩ := (hsA.mono hB2).icells h1n
  obtain ⟨hbB, hcB⟩ := (hsB.mono hB2).icells h1n
  have c1 := hcA 0 h1n
  have c2 := hcB 0 h1n
  rw [Nat.add_zero] at c1 c2
  clear hcA hcB
  go_wp2
  go_quiet (fail)
  have hB3 := drewN_below (n := nq) hB2
  clear hB2 c1 c2
  generalize w2.drewN nq = w3 at *
  have key : ∀ (sv : Nat), sv < 65536 → trySet G H = sv → Calls Try.prog 62 #[.slice (some ⟨b, off, none⟩) n cap, .int .i64 sv] w3 (GivesSl w3 (ints (swL G (trySet G H)))) := fun sv h e => by
    rw [e]; exact switched_go _ _ _ _ _ _ (hsA.mono hB3) hG.small h hn16
  have KEY := Lib.hid key
  clear key
  by_cases hle : gn G 0 ^^^ gn H 0 ≤ andn (full n) (gn G 0 ^^^ gn H 0)
  · have et : trySet G H = gn G 0 ^^^ gn H 0 := by rw [HT.out, Nat.min_eq_left hle]
    have ET := Lib.hid et
    clear et
    go_wp2_with (go_at_call 55; refine (all_go _ _ _ _ hn16).mono ?_; rintro e w' ⟨rfl, rfl⟩; rw [show 2 ^ n - 1 = full n from rfl])
    refine (KEY.out _ hxl ET.out).mono ?_
    rintro e w4 ⟨a4, n4, p4, rfl, ho4, hb4⟩
    have hB4 := btr hB3 hb4
    clear hb4
    go_wp2_with fail
    refine (equalg_go _ _ _ _ _ _ _ _ _ (own_sl ho4) (hsB.mono hB4)).mono ?_
    rintro e w5 ⟨rfl, hw⟩
    have hB5 := btr hB4 (drewB hw)
    clear hw hB4 ho4
    by_cases hEq : swL G (trySet G H) = H
    · have hdec : decide (ints (swL G (trySet G H)) = ints H) = true := by rw [hEq]; simp
      have HEQ := Lib.hid hEq
      clear hEq
      go_wp2
      go_ret2
      refine ⟨?_, hB5⟩
      rw [sameV, sameE, if_pos HEQ.out, if_pos HEQ.out, ET.out]; rfl
    · have hdec : decide (ints (swL G (trySet G H)) = ints H) = false := by simp only [decide_eq_false_iff_not]; exact fun e => hEq (ints_inj e)
      have HEQ := Lib.hid hEq
      clear hEq
      go_wp2
      go_ret2
      refine ⟨?_, hB5⟩
      rw [sameV, sameE, if_neg HEQ.out, if_neg HEQ.out]; rfl
  · have et : trySet G H = andn (full n) (gn G 0 ^^^ gn H 0) := by rw [HT.out, Nat.min_eq_right (by omega)]
    have ET := Lib.hid et
    clear et
    go_wp2_with (go_at_call 55; refine (all_go _ _ _ _ hn16).mono ?_; rintro e w' ⟨rfl, rfl⟩; rw [show 2 ^ n - 1 = full n from rfl])
    refine (KEY.out _ hal ET.out).mono ?_
    rintro e w4 ⟨a4, n4, p4, rfl, ho4, hb4⟩
    have hB4 := btr hB3 hb4
    clear hb4
    go_wp2_with fail
    refine (equalg_go _ _ _ _ _ _ _ _ _ (own_sl ho4) (hsB.mono hB4)).mono ?_
    rintro e w5 ⟨rfl, hw⟩
    have hB5 := btr hB4 (drewB hw)
    clear hw hB4 ho4
    by_cases hEq : swL G (trySet G H) = H
    · have hdec : decide (ints (swL G (trySet G H)) = ints H) = true := by rw [hEq]; simp
      have HEQ := Lib.hid hEq
      clear hEq
      go_wp2
      go_ret2
      refine ⟨?_, hB5⟩
      rw [sameV, sameE, if_pos HEQ.out, if_pos HEQ.out, ET.out]; rfl
    · have hdec : decide (ints (swL G (trySet G H)) = ints H) = false := by simp only [decide_eq_false_iff_not]; exact fun e => hEq (ints_inj e)
      have HEQ := Lib.hid hEq
      clear hEq
      go_wp2
      go_ret2
      refine ⟨?_, hB5⟩
      rw [sameV, sameE, if_neg HEQ.out, if_neg HEQ.out]; rfl

def AgreeTo (A H : List Nat) (j : Nat) : Prop := ∀ i, i < j → gn A i = gn H i
instance (A H : List Nat) (j : Nat) : Decidable (AgreeTo A H j) := by unfold AgreeTo; infer_instance
theorem agree_step {A H : List Nat} {j : Nat} : AgreeTo A H (j + 1) ↔ AgreeTo A H j ∧ gn A j = gn H j := by
  constructor
  · intro h; exact ⟨fun i hi => h i (by omega), h j (by omega)⟩
  · rintro ⟨h, e⟩ i hi
    rcases Nat.lt_or_ge i j with h' | h'
    · exact h i h'
    · obtain rfl : i = j := by omega
      exact e

set_option maxHeartbeats 1000000 in
theorem rsame_go (w : World) (a : Option Addr) (n cap : Nat) (G : List Nat) (a2 : Option Addr) (cap2 : Nat) (H : List Nat) (hs : Sl w a n cap (ints G)) (hs2 : Sl w a2 n cap2 (ints H)) (hG : Gr G) (hH : Gr H) :
    Calls Try.prog 28 #[.slice a n cap, .slice a2 n cap2] w fun e w' => e = .returned (.tuple #[.int .i64 (sameV G H), .int .i64 (sameE G H)]) ∧ Below w.heap.size w w' := by
  have hnG : G.length = n := by have := hs.len; rwa [ints_length] at this
  have hnH : H.length = n := by have := hs2.len; rwa [ints_length] at this
  have hn16 : n ≤ 16 := by have := hG.2.1; omega
  have h1n : 1 ≤ n := by have := hG.1; omega
  rcases hs2.parts with ⟨_, h0, _⟩ | ⟨b2, off2, rfl, hsB⟩
  · omega
  obtain ⟨hbB, hcB⟩ := hsB.icells h1n
  have hwn := wrap_pow hn16
  have hpn : 2 ^ n ≤ 65536 := Nat.pow_le_pow_right (n := 2) (by omega) hn16
  have hpe := (pow_cast n).symm
  have HNG := Lib.hid hnG
  have HNH := Lib.hid hnH
  have HL := Lib.hid (show G.length = H.length by omega)
  clear hnG hnH hs2
  generalize hN : 2 ^ n = N at *
  have HNN := Lib.hid hN
  clear hN
  go_enter Try.func28, Try.ntmps28
  go_wp2
  go_loopw [13] (fun i wr => ∃ k : Nat, k ≤ N ∧ i = .int .i64 k ∧ Below w.heap.size w wr ∧ Hid (∀ t, t < k → swL G t ≠ H)) (fun i _ => N - (intOf i).toNat)
  case atStart => exact ⟨0, by omega, rfl, Below.refl _ _, fun t ht => by omega⟩
  case round =>
    obtain ⟨k, hk, rfl, hbw, HK⟩ := hrel
    by_cases hlt : k < N
    · go_wp2_with fail
      refine (rswitch_go _ _ _ _ _ k (hs.mono hbw) hG (by omega)).mono ?_
      rintro e w3 ⟨a3, n3, p3, rfl, ho3, hb3⟩
      have hB3 := btr hbw hb3
      have hn3 : n3 = n := by have := (own_sl ho3).len; rw [ints_length, swL_length, HNG.out] at this; exact this.symm
      subst hn3
      rcases (own_sl ho3).parts with ⟨_, h0, _⟩ | ⟨b3, off3, rfl, hsC⟩
      · omega
      clear hbw hb3 ho3
      obtain ⟨hbC, hcC⟩ := hsC.icells h1n
      go_wp2
      go_loopw [20, 7] (fun i o wr => ∃ j : Nat, j ≤ n3 ∧ i = .int .i64 j ∧ o = .bool (decide (AgreeTo (swL G k) H j)) ∧ Below w3.heap.size w3 wr) (fun i _ _ => n3 - (intOf i).toNat)
      case atStart => exact ⟨0, by omega, rfl, by rw [decide_eq_true (show AgreeTo (swL G k) H 0 from fun i hi => by omega)], Below.refl _ _⟩
      case round =>
        obtain ⟨j, hj, rfl, rfl, hb4⟩ := hrel
        by_cases hlj : j < n3
        · have c3 : wr.cell? ⟨b3, off3 + j, none⟩ = some (.int .i64 (gn (swL G k) j)) := (hb4.cell hbC).trans (hcC j hlj)
          have c2 : wr.cell? ⟨b2, off2 + j, none⟩ = some (.int .i64 (gn H j)) := ((btr hB3 hb4).cell hbB).trans (hcB j hlj)
          by_cases hag : AgreeTo (swL G k) H j
          · have d1 : decide (AgreeTo (swL G k) H j) = true := by simp [hag]
            by_cases heq : gn (swL G k) j = gn H j
            · have d2 : ((gn (swL G k) j : Int) == (gn H j : Int)) = true := by rw [heq]; simp
              have HA := Lib.hid (agree_step.2 ⟨hag, heq⟩)
              clear heq hag
              go_wp2
              go_roundw
              case rel => exact ⟨j + 1, by omega, by go_num, by rw [decide_eq_true HA.out], hb4⟩
              case measure => simp [intOf]; omega
            · have d2 : ((gn (swL G k) j : Int) == (gn H j : Int)) = false := by simp; omega
              have HA := Lib.hid (show ¬ AgreeTo (swL G k) H (j + 1) from fun h => heq (agree_step.1 h).2)
              clear heq hag
              go_wp2
              go_roundw
              case rel => exact ⟨j + 1, by omega, by go_num, by rw [decide_eq_false HA.out], hb4⟩
              case measure => simp [intOf]; omega
          · have d1 : decide (AgreeTo (swL G k) H j) = false := by simp [hag]
            have HA := Lib.hid (show ¬ AgreeTo (swL G k) H (j + 1) from fun h => hag (agree_step.1 h).1)
            clear hag
            go_wp2
            go_roundw
            case rel => exact ⟨j + 1, by omega, by go_num, by rw [decide_eq_false HA.out], hb4⟩
            case measure => simp [intOf]; omega
        · obtain rfl : j = n3 := by omega
          by_cases hag : AgreeTo (swL G k) H j
          · have d1 : decide (AgreeTo (swL G k) H j) = true := by simp [hag]
            have heq : swL G k = H := gn_ext (by rw [swL_length, HL.out]) (fun i hi => hag i (by rw [swL_length, HNG.out] at hi; exact hi))
            have hle := try_least hG hH HL.out (s := k) (by rw [HNG.out, HNN.out]; exact hlt) heq
            have hTK : trySet G H = k := by
              rcases Nat.lt_or_ge (trySet G H) k with h | h
              · exact absurd hle.1 (HK.out _ h)
              · omega
            have HTK := Lib.hid hTK
            have HEQ := Lib.hid heq
            clear hTK hle heq
            go_wp2
            go_ret2
            refine ⟨?_, btr hB3 hb4⟩
            rw [sameV, sameE, HTK.out, if_pos HEQ.out, if_pos HEQ.out]; rfl
          · have d1 : decide (AgreeTo (swL G k) H j) = false := by simp [hag]
            have HNE := Lib.hid (show swL G k ≠ H from fun h => hag (by rw [h]; exact fun i _ => rfl))
            go_wp2
            go_roundw
            case rel =>
              refine ⟨k + 1, by omega, by go_num, btr hB3 hb4, fun t ht => ?_⟩
              rcases Nat.lt_or_ge t k with h | h
              · exact HK.out t h
              · obtain rfl : t = k := by omega
                exact HNE.out
            case measure => simp [intOf]; omega
    · obtain rfl : k = N := by omega
      have hno : swL G (trySet G H) ≠ H := HK.out _ (by have := try_lt hG hH HL.out; rw [HNG.out, HNN.out] at this; exact this)
      have HNO := Lib.hid hno
      clear hno
      go_wp2
      go_ret2
      refine ⟨?_, hbw⟩
      rw [sameV, sameE, if_neg HNO.out, if_neg HNO.out]; rfl
end Go.Proofs.Ytijnpcehjnaaiaa
