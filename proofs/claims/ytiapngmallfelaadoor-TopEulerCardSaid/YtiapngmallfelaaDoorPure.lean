
/- Plain lemmas: Go's bit operations on small naturals; how many elements a set has; graphs as lists of sets. -/
import Derived.Test.YtiapngmallfelaaDoorBase
namespace Go.Proofs.YtiapngmallfelaaDoor
open Go.RowKit

/-! ### bit operations of int on naturals -/
theorem ofInt_i64n (a : Nat) (ha : a < 9223372036854775808) : (BitVec.ofInt 64 (a : Int)).toNat = a := by
  rw [BitVec.ofInt_natCast, BitVec.toNat_ofNat]; exact Nat.mod_eq_of_lt (by omega)
theorem wrap_i64n (a : Nat) (ha : a < 9223372036854775808) : IntKind.i64.wrap (a : Int) = a := by
  rw [IntWalk.i64_left]; exact IntWalk.wrap64_in _ (by omega)

theorem i64_and_nat (a b : Nat) (ha : a < 9223372036854775808) (hb : b < 9223372036854775808) : bits .and .i64 (a : Int) (b : Int) = ((a &&& b : Nat) : Int) := by
  have hx : a &&& b < 9223372036854775808 := Nat.lt_of_le_of_lt Nat.and_le_left ha
  show IntKind.i64.wrap ((BitVec.ofInt 64 (a : Int) &&& BitVec.ofInt 64 (b : Int)).toNat : Int) = _
  rw [BitVec.toNat_and, ofInt_i64n a ha, ofInt_i64n b hb, wrap_i64n _ hx]
theorem i64_or_nat (a b : Nat) (ha : a < 9223372036854775808) (hb : b < 9223372036854775808) : bits .or .i64 (a : Int) (b : Int) = ((a ||| b : Nat) : Int) := by
  have hx : a ||| b < 2 ^ 63 := Nat.or_lt_two_pow ha hb
  show IntKind.i64.wrap ((BitVec.ofInt 64 (a : Int) ||| BitVec.ofInt 64 (b : Int)).toNat : Int) = _
  rw [BitVec.toNat_or, ofInt_i64n a ha, ofInt_i64n b hb, wrap_i64n _ hx]
theorem i64_xor_nat (a b : Nat) (ha : a < 9223372036854775808) (hb : b < 9223372036854775808) : bits .xor .i64 (a : Int) (b : Int) = ((a ^^^ b : Nat) : Int) := by
  have hx : a ^^^ b < 2 ^ 63 := Nat.xor_lt_two_pow ha hb
  show IntKind.i64.wrap ((BitVec.ofInt 64 (a : Int) ^^^ BitVec.ofInt 64 (b : Int)).toNat : Int) = _
  rw [BitVec.toNat_xor, ofInt_i64n a ha, ofInt_i64n b hb, wrap_i64n _ hx]

/-- a without the elements of b. -/
def andn (a b : Nat) : Nat := a ^^^ (a &&& b)
theorem andn_bit (a b j : Nat) : (andn a b).testBit j = (a.testBit j && !b.testBit j) := by
  unfold andn; rw [Nat.testBit_xor, Nat.testBit_and]; cases a.testBit j <;> cases b.testBit j <;> rfl
theorem andn_lt {a b n : Nat} (h : a < 2 ^ n) : andn a b < 2 ^ n := by
  apply Nat.lt_pow_two_of_testBit
  intro i hi
  rw [andn_bit, Nat.testBit_lt_two_pow (Nat.lt_of_lt_of_le h (Nat.pow_le_pow_right (by omega) hi))]; rfl
theorem i64_andNot_nat (a b : Nat) (ha : a < 9223372036854775808) (_hb : b < 9223372036854775808) : bits .andNot .i64 (a : Int) (b : Int) = ((andn a b : Nat) : Int) := by
  have hx : andn a b < 2 ^ 63 := andn_lt (n := 63) ha
  show IntKind.i64.wrap ((BitVec.ofInt 64 (a : Int) &&& ~~~BitVec.ofInt 64 (b : Int)).toNat : Int) = _
  have e : BitVec.ofInt 64 (a : Int) &&& ~~~BitVec.ofInt 64 (b : Int) = BitVec.ofNat 64 (andn a b) := by
    apply BitVec.eq_of_getLsbD_eq
    intro i hi
    rw [BitVec.getLsbD_and, BitVec.getLsbD_not, BitVec.ofInt_natCast, BitVec.ofInt_natCast, BitVec.getLsbD_ofNat, BitVec.getLsbD_ofNat, BitVec.getLsbD_ofNat, andn_bit]
    simp [hi]
  rw [e, BitVec.toNat_ofNat, Nat.mod_eq_of_lt (by omega), wrap_i64n _ hx]

/-- bit j of x as a number. -/
def bt (x j : Nat) : Nat := x / 2 ^ j % 2
theorem bt_test (x j : Nat) : bt x j = if x.testBit j then 1 else 0 := by
  unfold bt; rw [Nat.testBit_eq_decide_div_mod_eq]
  rcases Nat.mod_two_eq_zero_or_one (x / 2 ^ j) with h | h <;> simp [h]
theorem bt_le (x j : Nat) : bt x j ≤ 1 := by unfold bt; omega
theorem pow_cast (j : Nat) : ((2 ^ j : Nat) : Int) = (2 : Int) ^ j := by simp
theorem bits_bt (x j : Nat) (h : x < 9223372036854775808) : bits .and .i64 ((x : Int) / 2 ^ j) 1 = (bt x j : Int) := by
  rw [← pow_cast, ← Int.natCast_ediv, show (1 : Int) = ((1 : Nat) : Int) from rfl, i64_and_nat _ 1 (Nat.lt_of_le_of_lt (Nat.div_le_self _ _) h) (by omega)]
  unfold bt; rw [Nat.and_one_is_mod]

/-! ### how many elements a set below 65536 has -/
def popF : Nat → Nat → Nat
  | 0, _ => 0
  | n + 1, x => x % 2 + popF n (x / 2)
def pop (x : Nat) : Nat := popF 16 x

/-- Without its least element a set has one less. -/
theorem popF_low : ∀ n x, x < 2 ^ n → 0 < x → popF n (x &&& (x - 1)) + 1 = popF n x := by
  intro n; induction n with
  | zero => intro x h h0; simp at h; omega
  | succ n ih =>
    intro x h h0
    have e2 : (x &&& (x - 1)) / 2 = x / 2 &&& (x - 1) / 2 := by simpa using Nat.and_div_two_pow (a := x) (b := x - 1) (n := 1)
    have e1 : (x &&& (x - 1)) % 2 = (x % 2 &&& (x - 1) % 2) := by simpa using Nat.and_mod_two_pow (a := x) (b := x - 1) (n := 1)
    simp only [popF, e1, e2]
    rcases Nat.mod_two_eq_zero_or_one x with p | p
    · have q : (x - 1) / 2 = x / 2 - 1 := by omega
      have := ih (x / 2) (by rw [Nat.pow_succ] at h; omega) (by omega)
      rw [p, q]; simp; omega
    · have q : (x - 1) / 2 = x / 2 := by omega
      have r : (x - 1) % 2 = 0 := by omega
      rw [p, q, r, Nat.and_self]; simp; omega
theorem pop_low {x : Nat} (h : x < 65536) (h0 : 0 < x) : pop (x &&& (x - 1)) + 1 = pop x := popF_low 16 x h h0
theorem pop_zero : pop 0 = 0 := by decide
theorem popF_le : ∀ n x, popF n x ≤ n := by
  intro n; induction n with
  | zero => intro x; simp [popF]
  | succ n ih => intro x; have := ih (x / 2); simp only [popF]; omega
theorem pop_le (x : Nat) : pop x ≤ 16 := popF_le 16 x

end Go.Proofs.YtiapngmallfelaaDoor
