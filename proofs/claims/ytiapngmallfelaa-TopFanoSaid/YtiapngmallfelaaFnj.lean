/- TopFano, plain: turned matrices, their sets, the plane; walk: the third column. -/
import Derived.Test.YtiapngmallfelaaFni
namespace Go.Proofs.Ytiapngmallfelaa
open Go.RowKit
open Go.Maps
set_option linter.unusedSimpArgs false

/-! ### turned matrices -/
def trnE (B : List Nat) (c : Nat) (rb : Nat → Bool) (i : Nat) : Nat := if rb i then (gn B i ^^^ c) ^^^ 255 else gn B i ^^^ c
def trnTo (B : List Nat) (c : Nat) (rb : Nat → Bool) (k : Nat) : List Nat := (List.range 8).map fun i => if i < k then trnE B c rb i else gn B i
theorem trn_len {B : List Nat} {c : Nat} {rb : Nat → Bool} {k : Nat} : (trnTo B c rb k).length = 8 := by simp [trnTo]
theorem trn_at {B : List Nat} {c : Nat} {rb : Nat → Bool} {k i : Nat} (h : i < 8) : gn (trnTo B c rb k) i = if i < k then trnE B c rb i else gn B i := by simp [trnTo, gn, h]
theorem trn_zero {B : List Nat} (hB : B.length = 8) (c : Nat) (rb : Nat → Bool) : trnTo B c rb 0 = B := by
  refine List.ext_getElem (by rw [trn_len, hB]) fun i h1 h2 => ?_
  simp [trnTo, gn, h2]
theorem trn_succ {B : List Nat} {c : Nat} {rb : Nat → Bool} {k : Nat} : trnTo B c rb (k + 1) = (trnTo B c rb k).set k (trnE B c rb k) := by
  refine List.ext_getElem (by simp [trnTo]) fun i h1 h2 => ?_
  rw [List.getElem_set]
  simp only [trnTo, List.getElem_map, List.getElem_range]
  by_cases e : k = i
  · subst e; rw [if_pos rfl, if_pos (by omega)]
  · rw [if_neg e]
    by_cases q : i < k
    · rw [if_pos q, if_pos (by omega)]
    · rw [if_neg q, if_neg (by omega)]
theorem xor4 (a b c : Nat) : (a ^^^ c) ^^^ (b ^^^ c) = a ^^^ b := by
  apply Nat.eq_of_testBit_eq
  intro i
  simp only [Nat.testBit_xor]
  cases a.testBit i <;> cases b.testBit i <;> cases c.testBit i <;> rfl
theorem xor_l (a b e : Nat) : (a ^^^ e) ^^^ b = (a ^^^ b) ^^^ e := by
  apply Nat.eq_of_testBit_eq
  intro i
  simp only [Nat.testBit_xor]
  cases a.testBit i <;> cases b.testBit i <;> cases e.testBit i <;> rfl
theorem xor_r (a b e : Nat) : a ^^^ (b ^^^ e) = (a ^^^ b) ^^^ e := by
  apply Nat.eq_of_testBit_eq
  intro i
  simp only [Nat.testBit_xor]
  cases a.testBit i <;> cases b.testBit i <;> cases e.testBit i <;> rfl
theorem trn_xor (B : List Nat) (c : Nat) (rb : Nat → Bool) (i j : Nat) : trnE B c rb i ^^^ trnE B c rb j = gn B i ^^^ gn B j ∨ trnE B c rb i ^^^ trnE B c rb j = (gn B i ^^^ gn B j) ^^^ 255 := by
  unfold trnE
  cases rb i <;> cases rb j
  · exact .inl (xor4 _ _ _)
  · right
    show (gn B i ^^^ c) ^^^ ((gn B j ^^^ c) ^^^ 255) = _
    rw [xor_r, xor4]
  · right
    show ((gn B i ^^^ c) ^^^ 255) ^^^ (gn B j ^^^ c) = _
    rw [xor_l, xor4]
  · left
    show ((gn B i ^^^ c) ^^^ 255) ^^^ ((gn B j ^^^ c) ^^^ 255) = _
    rw [xor4, xor4]
theorem trn_lt {B : List Nat} {c : Nat} {rb : Nat → Bool} (hB : ∀ i, gn B i < 256) (hc : c < 256) (i : Nat) : trnE B c rb i < 256 := by
  unfold trnE
  split
  · exact Nat.xor_lt_two_pow (n := 8) (Nat.xor_lt_two_pow (n := 8) (hB i) hc) (by omega)
  · exact Nat.xor_lt_two_pow (n := 8) (hB i) hc
theorem nrm_255 : ∀ x, x < 256 → nrm (x ^^^ 255) = nrm x := by
  have h : ∀ x : Fin 256, nrm (x.val ^^^ 255) = nrm x.val := by decide +kernel
  exact fun x hx => h ⟨x, hx⟩
theorem desL_trn {B : List Nat} {c : Nat} {rb : Nat → Bool} (hl : B.length = 8) (hB : ∀ i, gn B i < 256) : desL (trnTo B c rb 8) = desL B := by
  unfold desL
  have : nrmL (trnTo B c rb 8) = nrmL B := by
    refine List.ext_getElem (by simp [nrmL, trn_len, hl]) fun i h1 h2 => ?_
    have hi : i < 8 := by simpa [nrmL, hl] using h2
    have e1 : (nrmL (trnTo B c rb 8))[i] = nrm (gn (trnTo B c rb 8) i ^^^ gn (trnTo B c rb 8) 0) := by simp [nrmL, gn, trn_len, hi]
    have e2 : (nrmL B)[i] = nrm (gn B i ^^^ gn B 0) := by simp [nrmL, gn, hl, hi]
    refine e1.trans (Eq.trans ?_ e2.symm)
    rw [trn_at hi, trn_at (by omega), if_pos hi, if_pos (by omega)]
    rcases trn_xor B c rb i 0 with h | h
    · rw [h]
    · rw [h, nrm_255 _ (Nat.xor_lt_two_pow (n := 8) (hB i) (hB 0))]
  rw [this]
structure MatB (B S : List Nat) : Prop where
  len : B.length = 8
  lt : ∀ x ∈ B, x < 256
  bal : ∀ i j, i < 8 → j < i → 2 * pop (gn B i ^^^ gn B j) = 8 ∧ 2 * pop ((gn B i ^^^ gn B j) ^^^ 255) = 8
  des : desL B = S
def S0 : List Nat := [42, 25, 76, 7, 82, 97, 52]
def S1 : List Nat := [104, 81, 35, 70, 13, 26, 52]
theorem mat0 : MatB (mdL 8 dblN) S0 := by
  have e : mdL 8 dblN = [0, 170, 204, 102, 240, 90, 60, 150] := by decide +kernel
  rw [e]
  refine ⟨rfl, by decide, ?_, by decide +kernel⟩
  have h : ∀ i j : Fin 8, j.val < i.val → 2 * pop (gn [0, 170, 204, 102, 240, 90, 60, 150] i.val ^^^ gn [0, 170, 204, 102, 240, 90, 60, 150] j.val) = 8 ∧ 2 * pop ((gn [0, 170, 204, 102, 240, 90, 60, 150] i.val ^^^ gn [0, 170, 204, 102, 240, 90, 60, 150] j.val) ^^^ 255) = 8 := by decide +kernel
  exact fun i j hi hj => h ⟨i, hi⟩ ⟨j, by omega⟩ hj
theorem mat1 : MatB (mdL 8 nearS) S1 := by
  have e : mdL 8 nearS = [0, 209, 163, 71, 141, 27, 53, 105] := by decide +kernel
  rw [e]
  refine ⟨rfl, by decide, ?_, by decide +kernel⟩
  have h : ∀ i j : Fin 8, j.val < i.val → 2 * pop (gn [0, 209, 163, 71, 141, 27, 53, 105] i.val ^^^ gn [0, 209, 163, 71, 141, 27, 53, 105] j.val) = 8 ∧ 2 * pop ((gn [0, 209, 163, 71, 141, 27, 53, 105] i.val ^^^ gn [0, 209, 163, 71, 141, 27, 53, 105] j.val) ^^^ 255) = 8 := by decide +kernel
  exact fun i j hi hj => h ⟨i, hi⟩ ⟨j, by omega⟩ hj
theorem MatB.trn {B S : List Nat} (h : MatB B S) {c : Nat} (hc : c < 256) (rb : Nat → Bool) : (∀ x ∈ trnTo B c rb 8, x < 256) ∧ (∀ i j, i < 8 → j < i → 2 * pop (gn (trnTo B c rb 8) i ^^^ gn (trnTo B c rb 8) j) = 8) ∧ desL (trnTo B c rb 8) = S := by
  have hB := gn_lt h.lt (by omega)
  refine ⟨fun x hx => ?_, fun i j hi hj => ?_, by rw [desL_trn h.len hB, h.des]⟩
  · unfold trnTo at hx
    obtain ⟨i, hi, rfl⟩ := List.mem_map.1 hx
    rw [if_pos (List.mem_range.1 hi)]
    exact trn_lt hB hc i
  · rw [trn_at hi, trn_at (by omega), if_pos hi, if_pos (by omega)]
    rcases trn_xor B c rb i j with e | e
    · rw [e]; exact (h.bal i j hi hj).1
    · rw [e]; exact (h.bal i j hi hj).2
/-! ### the third column -/
structure ThirdB (S : List Nat) (a b c t : Nat) : Prop where
  lt : a < 7 ∧ b < 7 ∧ c < 7 ∧ t < 7
  set : gn S t = 2 ^ a ||| 2 ^ b ||| 2 ^ c
  has : (gn S t).testBit a = true ∧ (gn S t).testBit b = true
  ne : c ≠ a ∧ c ≠ b
  no : ∀ t', t' < t → ((gn S t').testBit a && (gn S t').testBit b) = false
  nc : ∀ c', c' < c → (gn S t == (2 ^ a ||| 2 ^ b ||| 2 ^ c')) = false
theorem pow7 {a : Nat} (h : a < 7) : 2 ^ a < 128 := by
  have : 2 ^ a < 2 ^ 7 := Nat.pow_lt_pow_right (by omega) h
  omega
set_option maxHeartbeats 4000000 in
theorem third_go (w : World) (q : Nat) (sa : Option Addr) (scap : Nat) (S : List Nat) (hbox : w.heap[q]? = some (.cells #[.slice sa 7 scap] 22 (0, 0))) (hs : Sl w sa 7 scap (ints S)) (hS : ∀ i, gn S i < 128) (a b c t : Nat) (hT : ThirdB S a b c t) :
    Calls Try.prog 18 #[.int .i64 a, .int .i64 b, .pointer (some ⟨q, 0, none⟩)] w fun e w' => e = .returned (.int .i64 c) ∧ Below w.heap.size w w' := by
  obtain ⟨sb, so, rfl, hsb, hc, hcap⟩ := sl_at hs (by omega)
  unfold maxLen at hcap
  have HC := Lib.hid hc
  have HS := Lib.hid hS
  obtain ⟨⟨ha, hb, hcc, ht⟩, hset, hhas, hne, hno, hnc⟩ := hT
  have HSET := Lib.hid hset
  have HHAS := Lib.hid hhas
  have HNO := Lib.hid hno
  have HNC := Lib.hid hnc
  have HNE := Lib.hid hne
  have e0 := one_atB hbox
  have z0 := lt_of_block hbox
  clear hs hc hS hset hhas hno hnc hbox hne
  have pa := pow7 ha
  have pb := pow7 hb
  have wa : IntKind.i64.wrap ((2 : Int) ^ a) = (2 : Int) ^ a := by rw [IntWalk.i64_left]; exact wrap_pow (by omega)
  have wb : IntKind.i64.wrap ((2 : Int) ^ b) = (2 : Int) ^ b := by rw [IntWalk.i64_left]; exact wrap_pow (by omega)
  have o1 := i64_or_nat (2 ^ a) (2 ^ b) (by omega) (by omega)
  rw [pow_cast, pow_cast] at o1
  have ol : 2 ^ a ||| 2 ^ b < 128 := Nat.or_lt_two_pow (n := 7) pa pb
  obtain ⟨y, hy⟩ : ∃ y, 2 ^ a ||| 2 ^ b = y := ⟨_, rfl⟩
  rw [hy] at o1 ol HSET HNC
  go_enter Try.func18, Try.ntmps18
  go_wp2
  go_loopw [11] (fun v wr => ∃ t' : Nat, t' ≤ t ∧ v = .int .i64 t' ∧ w = wr) (fun v _ => t - (intOf v).toNat)
  case atStart => exact ⟨0, by omega, rfl, rfl⟩
  case round =>
    obtain ⟨t', ht', rfl, rfl⟩ := hrel
    have e1 := HC.out t' (by omega)
    rw [nth_ints] at e1
    have hx := HS.out t'
    have b1 := bits_bt (gn S t') a (by omega)
    have b2 := bits_bt (gn S t') b (by omega)
    have b3 := bt_test (gn S t') a
    have b4 := bt_test (gn S t') b
    by_cases htt : t' = t
    · subst htt
      rw [HHAS.out.1] at b3
      rw [HHAS.out.2] at b4
      have HST := Lib.hid HSET.out
      have HNC2 := Lib.hid HNC.out
      clear HSET HNC HNO HHAS
      generalize gn S t' = x at *
      have hx7 : (x : Int) / 128 = 0 := by omega
      have hx72 : (x : Int) / 2 ^ 7 = 0 := by omega
      go_wp2
      go_loopw [32] (fun v wr => ∃ c' : Nat, c' ≤ c ∧ v = .int .i64 c' ∧ Hid (Below w.heap.size w wr)) (fun v _ => c - (intOf v).toNat)
      case atStart => exact ⟨0, by omega, rfl, Lib.hid (Below.refl _ _)⟩
      case round =>
        obtain ⟨c', hc', rfl, HB⟩ := hrel
        have pc := pow7 (a := c') (by omega)
        have wc : IntKind.i64.wrap ((2 : Int) ^ c') = (2 : Int) ^ c' := by rw [IntWalk.i64_left]; exact wrap_pow (by omega)
        have o2 := i64_or_nat y (2 ^ c') (by omega) (by omega)
        rw [pow_cast] at o2
        obtain ⟨z, hz⟩ : ∃ z, y ||| 2 ^ c' = z := ⟨_, rfl⟩
        rw [hz] at o2
        have hxz : ((x : Int) == (z : Int)) = (x == z) := by rw [Bool.eq_iff_iff, beq_iff_eq, beq_iff_eq]; omega
        by_cases hcc' : c' = c
        · subst hcc'
          have h1 : (x == z) = true := by rw [← hz, ← HST.out]; simp
          have h2 : (c' == a) = false := by rw [beq_eq_false_iff_ne]; exact HNE.out.1
          have h3 : (c' == b) = false := by rw [beq_eq_false_iff_ne]; exact HNE.out.2
          have h4 : ((c' : Int) != (a : Int)) = true := by have := HNE.out.1; simp; omega
          have h5 : ((c' : Int) != (b : Int)) = true := by have := HNE.out.2; simp; omega
          rw [h1] at hxz
          clear hz hy
          go_wp2
          go_quiet (fail)
          go_wp2
          go_ret
          exact ⟨rfl, drewN_below HB.out⟩
        · have h1 : (x == z) = false := by rw [← hz]; exact HNC2.out c' (by omega)
          rw [h1] at hxz
          clear hz hy
          go_wp2
          go_quiet (fail)
          have HB2 := Lib.hid (drewN_below (n := nq) HB.out)
          go_wp2
          go_roundw
          case rel => go_light; exact ⟨c' + 1, by omega, by go_num, HB2⟩
          case measure => simp [intOf]; omega
    · have hn := HNO.out t' (by omega)
      generalize gn S t' = x at *
      cases hta : x.testBit a with
      | false =>
        rw [hta] at b3
        clear hn hy
        go_wp2
        go_roundw
        case rel => go_light; exact ⟨t' + 1, by omega, by go_num, by trivial⟩
        case measure => simp [intOf]; omega
      | true =>
        rw [hta, Bool.true_and] at hn
        rw [hta] at b3
        rw [hn] at b4
        clear hn hy
        go_wp2
        go_roundw
        case rel => go_light; exact ⟨t' + 1, by omega, by go_num, by trivial⟩
        case measure => simp [intOf]; omega
end Go.Proofs.Ytiapngmallfelaa
