/- Walks: signs: is, valid. -/
import Derived.Test.YtiapngmallfelaaRegP
namespace Go.Proofs.Ytiapngmallfelaa
open Go.RowKit

theorem one_atB {w : World} {p : Nat} {a : Value} {E : TypeId} (h : w.heap[p]? = some (.cells #[a] E (0, 0))) : w.cell? ⟨p, 0, none⟩ = some a := by rw [cells_at h]; rfl
theorem below9 {w w' : World} {o : Obj} (hb : Below (w.alloc o).heap.size (w.alloc o) w') : Below w.heap.size w w' :=
  btr (bal (Below.refl _ _) o) hb
theorem is_go (w : World) (a : Option Addr) (n cap : Nat) (G : List Nat) (hs : Sl w a n cap (ints G)) (hG : ∀ x ∈ G, x < 65536) (i j : Nat) (hi : i < n) (hj : j < 64) :
    Calls Try.prog 33 #[.slice a n cap, .int .i64 i, .int .i64 j] w fun e w' => e = .returned (.bool ((gn G i).testBit j)) ∧ w = w' := by
  rcases hs.parts with ⟨_, rfl, _⟩ | ⟨b, off, rfl, hs2⟩
  · omega
  obtain ⟨hb, hc⟩ := hs2.icells (by omega)
  have hci := hc i hi
  have hlt := gn_lt hG (by omega) i
  have hbit := bits_bt (gn G i) j (by omega)
  have hcap : n ≤ cap := hs2.2.1
  have hcm : cap ≤ maxLen := hs2.2.2.1
  clear hs hs2 hc
  generalize gn G i = x at *
  cases hb2 : x.testBit j with
  | true =>
    have t1 : ((bt x j : Int) == 1) = true := by rw [bt_test, hb2]; rfl
    clear hb2
    go_enter Try.func33, Try.ntmps33
    go_wp2
    go_ret
    exact ⟨rfl, rfl⟩
  | false =>
    have t1 : ((bt x j : Int) == 1) = false := by rw [bt_test, hb2]; rfl
    clear hb2
    go_enter Try.func33, Try.ntmps33
    go_wp2
    go_ret
    exact ⟨rfl, rfl⟩

theorem sgv1_go (w : World) (p n x : Nat) (hx : w.heap[p]? = some (.cells #[.int .i64 n] 3 (0, 0))) (hn : n ≤ 16) (hlt : x < 2 ^ n) :
    Calls Try.prog 61 #[.int .i64 x, .pointer (some ⟨p, 0, none⟩)] w fun e w' => e = .returned (.bool false) ∧ Below w.heap.size w w' := by
  have hc := one_atB hx
  have hw := wrap_pow hn
  have hz := lt_of_block hx
  have h1 : ¬ ((2 : Int) ^ n ≤ (x : Int)) := by
    have e : ((2 ^ n : Nat) : Int) = (2:Int)^n := by simp
    omega
  have h2 : decide ((2 : Int) ^ n ≤ (x : Int)) = false := by simpa using h1
  have h3 : ¬ (x : Int) < 0 := by omega
  go_enter Try.func61, Try.ntmps61
  go_wp2
  go_ret
  exact ⟨rfl, Below.refl _ _⟩

theorem cf_sgv1 (args : Array Value) (w : World) : (callFunc 61 args).run Try.prog w = .ok (.enter 61 args) w := by kernel_rfl

theorem sgidx_go (w : World) (a : Option Addr) (n cap p : Nat) (G : List Nat) (hs : Sl w a n cap (ints G)) (hn : n ≤ 16) (hG : ∀ i, i < n → gn G i < 2 ^ n) (hx : w.heap[p]? = some (.cells #[.int .i64 n] 3 (0, 0))) :
    Calls Try.prog 80 #[.slice a n cap, .func (Fn.func 61) #[] #[.pointer (some ⟨p, 0, none⟩)]] w fun e w' => e = .returned (.int .i64 (-1)) ∧ Below w.heap.size w w' := by
  have hcf := cf_sgv1
  have HX := Lib.hid hx
  have HS := Lib.hid hs
  clear hx
  rcases hs.parts with ⟨_, rfl, _⟩ | ⟨b, off, rfl, hs2⟩
  · go_enter Try.func80, Try.ntmps80
    go_wp2
    go_loopw [8] (fun t wr => t = .int .i64 (0 : Nat) ∧ Below w.heap.size w wr) (fun _ _ => 1)
    case atStart => exact ⟨rfl, Below.refl _ _⟩
    case round =>
      obtain ⟨rfl, hB⟩ := hrel
      go_wp2
      go_ret
      exact ⟨rfl, hB⟩
  · have hcap : n ≤ cap := hs2.2.1
    have hcm : cap ≤ maxLen := hs2.2.2.1
    clear hs hs2
    go_enter Try.func80, Try.ntmps80
    go_wp2
    go_loopw [8] (fun t wr => ∃ i : Nat, i ≤ n ∧ t = .int .i64 i ∧ Below w.heap.size w wr) (fun t _ => n - (intOf t).toNat)
    case atStart => exact ⟨0, by omega, rfl, Below.refl _ _⟩
    case round =>
      obtain ⟨i, hi, rfl, hB⟩ := hrel
      by_cases hl : i < n
      · obtain ⟨hbz, hc⟩ := (HS.out.mono hB).icells (by omega)
        have hci := hc i hl
        have hlt := hG i hl
        clear hc
        generalize gn G i = x at *
        go_wp2_with fail
        refine (sgv1_go _ p n x (persist HX.out hB) hn hlt).mono ?_
        rintro e w2 ⟨rfl, hb⟩
        go_wp2
        go_roundw
        case rel => exact ⟨i + 1, by omega, by go_num, btr hB hb⟩
        case measure => simp [intOf]; omega
      · obtain rfl : i = n := by omega
        go_wp2
        go_ret
        exact ⟨rfl, hB⟩

theorem sgcf_go (w : World) (a : Option Addr) (n cap p : Nat) (G : List Nat) (hs : Sl w a n cap (ints G)) (hn : n ≤ 16) (hG : ∀ i, i < n → gn G i < 2 ^ n) (hx : w.heap[p]? = some (.cells #[.int .i64 n] 3 (0, 0))) :
    Calls Try.prog 60 #[.slice a n cap, .func (Fn.func 61) #[] #[.pointer (some ⟨p, 0, none⟩)]] w fun e w' => e = .returned (.bool false) ∧ Below w.heap.size w w' := by
  go_enter Try.func60, Try.ntmps60
  go_wp2_with fail
  refine (sgidx_go _ a n cap p G hs hn hG hx).mono ?_
  rintro e w' ⟨rfl, hb⟩
  go_wp2
  go_ret
  exact ⟨rfl, hb⟩

/-- A matrix is valid. -/
theorem sgvalid_go (w : World) (a : Option Addr) (n cap : Nat) (G : List Nat) (most : Nat) (hs : Sl w a n cap (ints G)) (h1 : 1 ≤ n) (hm : n ≤ most) (hn : n ≤ 16) (hG : ∀ i, i < n → gn G i < 2 ^ n) :
    Calls Try.prog 30 #[.slice a n cap, .int .i64 most] w fun e w' => e = .returned (.bool true) ∧ Below w.heap.size w w' := by
  have hmf : ∀ (fn : Fn) (first cap : Array Value) (w : World), (Instr.makeFunc fn first cap).run Try.prog w = .ok (.func fn first cap) w := fun _ _ _ _ => rfl
  have d1 : decide ((1 : Int) ≤ (n : Int)) = true := by simp; omega
  have d2 : decide ((n : Int) ≤ (most : Int)) = true := by simp; omega
  go_enter Try.func30, Try.ntmps30
  go_wp2_with fail
  refine (sgcf_go _ a n cap w.heap.size G (hs.mono (bal (Below.refl _ _) _)) hn hG (new_at _ _)).mono ?_
  rintro e w' ⟨rfl, hb⟩
  go_wp2
  go_ret
  exact ⟨rfl, below9 hb⟩
end Go.Proofs.Ytiapngmallfelaa
