
/- The library's way to count the elements of a set, held against the plain one at every set below 65536. -/
import Derived.Test.YtiapngmallfelaaPure
namespace Go.Proofs.Ytiapngmallfelaa
open Go.RowKit

/-- f of the number x, reckoned out first. -/
def forced (x : Nat) (f : Nat → Bool) : Bool := match x with
  | 0 => f 0
  | n + 1 => f (n + 1)
theorem forced_eq (x : Nat) (f : Nat → Bool) : forced x f = f x := by cases x <;> rfl
/-- Asks f of the 2^d numbers from a on, in halves. -/
def allFrom (f : Nat → Bool) : Nat → Nat → Bool
  | 0, a => f a
  | d + 1, a => allFrom f d a && forced (a + 2 ^ d) (allFrom f d)
theorem allFrom_spec (f : Nat → Bool) : ∀ d a, allFrom f d a = true → ∀ x, a ≤ x → x < a + 2 ^ d → f x = true := by
  intro d
  induction d with
  | zero => intro a h x h1 h2; have : x = a := by simp at h2; omega
            subst this; exact h
  | succ d ih =>
    intro a h x h1 h2
    simp only [allFrom, Bool.and_eq_true, forced_eq] at h
    by_cases hx : x < a + 2 ^ d
    · exact ih a h.1 x h1 hx
    · exact ih _ h.2 x (by omega) (by rw [Nat.pow_succ] at h2; omega)

/-- The library's way to count, step by step. -/
def oc1 (x : Nat) : Nat := (x / 2 &&& 6148914691236517205) + (x &&& 6148914691236517205)
def oc2 (x : Nat) : Nat := (x / 4 &&& 3689348814741910323) + (x &&& 3689348814741910323)
def oc3 (x : Nat) : Nat := (x / 16 + x) &&& 1085102592571150095
def oc4 (x : Nat) : Nat := x + x / 256
def oc5 (x : Nat) : Nat := x + x / 65536
def oc6 (x : Nat) : Nat := x + x / 4294967296
def oc (x : Nat) : Nat := oc6 (oc5 (oc4 (oc3 (oc2 (oc1 x))))) % 128
def popS (x : Nat) : Nat := x % 2 + (x / 2 % 2 + (x / 4 % 2 + (x / 8 % 2 + (x / 16 % 2 + (x / 32 % 2 + (x / 64 % 2 + (x / 128 % 2 + (x / 256 % 2 + (x / 512 % 2 +
  (x / 1024 % 2 + (x / 2048 % 2 + (x / 4096 % 2 + (x / 8192 % 2 + (x / 16384 % 2 + x / 32768 % 2))))))))))))))
theorem pop_popS (x : Nat) : pop x = popS x := by
  simp only [pop, popF, popS, Nat.div_div_eq_div_mul, Nat.reduceMul, Nat.add_zero]
def ocTest (x : Nat) : Bool :=
  forced (oc1 x) fun a => forced (oc2 a) fun a => forced (oc3 a) fun a => forced (oc4 a) fun a => forced (oc5 a) fun a => Nat.beq (oc6 a % 128) (popS x)
theorem oc_all : allFrom ocTest 16 0 = true := by decide +kernel
theorem oc_pop {x : Nat} (h : x < 65536) : oc x = pop x := by
  have := allFrom_spec _ 16 0 oc_all x (by omega) (by omega)
  simp only [ocTest, forced_eq, Nat.beq_eq] at this
  rw [pop_popS]; exact this

theorem oc1_go (x : Nat) (h : x < 4611686018427387904) :
    IntKind.u64.wrap (bits .and .u64 ((x : Int) / 2) 6148914691236517205 + bits .and .u64 (x : Int) 6148914691236517205) = (oc1 x : Int) := by
  have e : bits .and .u64 ((x : Int) / 2) 6148914691236517205 = ((x / 2 &&& 6148914691236517205 : Nat) : Int) := by
    have := u64_and_nat (x / 2) 6148914691236517205 (by omega) (by omega); simpa using this
  have e2 : bits .and .u64 (x : Int) 6148914691236517205 = ((x &&& 6148914691236517205 : Nat) : Int) := by
    have := u64_and_nat x 6148914691236517205 (by omega) (by omega); simpa using this
  have b1 : x / 2 &&& 6148914691236517205 ≤ x / 2 := Nat.and_le_left
  have b2 : x &&& 6148914691236517205 ≤ x := Nat.and_le_left
  rw [e, e2, IntKind.wrap_u64]; unfold oc1; omega
theorem oc2_go (x : Nat) (h : x < 4611686018427387904) :
    IntKind.u64.wrap (bits .and .u64 ((x : Int) / 4) 3689348814741910323 + bits .and .u64 (x : Int) 3689348814741910323) = (oc2 x : Int) := by
  have e : bits .and .u64 ((x : Int) / 4) 3689348814741910323 = ((x / 4 &&& 3689348814741910323 : Nat) : Int) := by
    have := u64_and_nat (x / 4) 3689348814741910323 (by omega) (by omega); simpa using this
  have e2 : bits .and .u64 (x : Int) 3689348814741910323 = ((x &&& 3689348814741910323 : Nat) : Int) := by
    have := u64_and_nat x 3689348814741910323 (by omega) (by omega); simpa using this
  have b1 : x / 4 &&& 3689348814741910323 ≤ x / 4 := Nat.and_le_left
  have b2 : x &&& 3689348814741910323 ≤ x := Nat.and_le_left
  rw [e, e2, IntKind.wrap_u64]; unfold oc2; omega
theorem oc3_go (x : Nat) (h : x < 4611686018427387904) :
    bits .and .u64 (IntKind.u64.wrap ((x : Int) / 16 + (x : Int))) 1085102592571150095 = (oc3 x : Int) := by
  have e0 : IntKind.u64.wrap ((x : Int) / 16 + (x : Int)) = ((x / 16 + x : Nat) : Int) := by rw [IntKind.wrap_u64]; omega
  have e : bits .and .u64 ((x / 16 + x : Nat) : Int) 1085102592571150095 = ((x / 16 + x &&& 1085102592571150095 : Nat) : Int) :=
    u64_and_nat (x / 16 + x) 1085102592571150095 (by omega) (by omega)
  rw [e0, e]; rfl
theorem oc4_go (x : Nat) (h : x < 4611686018427387904) : IntKind.u64.wrap ((x : Int) + (x : Int) / 256) = (oc4 x : Int) := by
  rw [IntKind.wrap_u64]; unfold oc4; omega
theorem oc5_go (x : Nat) (h : x < 4611686018427387904) : IntKind.u64.wrap ((x : Int) + (x : Int) / 65536) = (oc5 x : Int) := by
  rw [IntKind.wrap_u64]; unfold oc5; omega
theorem oc6_go (x : Nat) (h : x < 4611686018427387904) : IntKind.u64.wrap ((x : Int) + (x : Int) / 4294967296) = (oc6 x : Int) := by
  rw [IntKind.wrap_u64]; unfold oc6; omega
theorem oc_bounds {x : Nat} (h : x < 65536) : oc1 x < 1000000 ∧ oc2 (oc1 x) < 1000000 ∧ oc3 (oc2 (oc1 x)) < 2000000 ∧ oc4 (oc3 (oc2 (oc1 x))) < 4000000 ∧ oc5 (oc4 (oc3 (oc2 (oc1 x)))) < 8000000 := by
  have h1 : oc1 x ≤ x / 2 + x := Nat.add_le_add Nat.and_le_left Nat.and_le_left
  have h2 : oc2 (oc1 x) ≤ oc1 x / 4 + oc1 x := Nat.add_le_add Nat.and_le_left Nat.and_le_left
  have h3 : oc3 (oc2 (oc1 x)) ≤ oc2 (oc1 x) / 16 + oc2 (oc1 x) := Nat.and_le_left
  have h4 : oc4 (oc3 (oc2 (oc1 x))) = oc3 (oc2 (oc1 x)) + oc3 (oc2 (oc1 x)) / 256 := rfl
  have h5 : oc5 (oc4 (oc3 (oc2 (oc1 x)))) = oc4 (oc3 (oc2 (oc1 x))) + oc4 (oc3 (oc2 (oc1 x))) / 65536 := rfl
  omega
end Go.Proofs.Ytiapngmallfelaa
