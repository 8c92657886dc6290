/- Walks: the search for a pivot. -/
import Derived.Test.YtiapngmallfelaaMat
namespace Go.Proofs.Ytiapngmallfelaa
open Go.RowKit

theorem det1_go (w : World) (g n cap pk k : Nat) (x : Int) (hk : k < n) (_hn : n ≤ cap) (hc : w.cell? ⟨g, k, none⟩ = some (.int .i64 x)) (_hg : g < w.heap.size)
    (hp : w.heap[pk]? = some (.cells #[.int .i64 k] 3 (0, 0))) (_hn16 : n ≤ 16) :
    Calls Try.prog 67 #[.slice (some ⟨g, 0, none⟩) n cap, .pointer (some ⟨pk, 0, none⟩)] w fun e w' => e = .returned (.bool (x != 0)) ∧ Below w.heap.size w w' := by
  have c1 := one_atB hp
  have z1 := lt_of_block hp
  go_enter Try.func67, Try.ntmps67
  go_wp2
  go_ret
  exact ⟨rfl, Below.refl _ _⟩

theorem cf_det1 (args : Array Value) (w : World) : (callFunc 67 args).run Try.prog w = .ok (.enter 67 args) w := by kernel_rfl

set_option maxHeartbeats 400000 in
theorem pividx_go (w : World) (B A n pk k p : Nat) (blk cap : Nat → Nat) (f : Nat → Nat → Int) (hm : MatAt w B A n blk cap f) (hn16 : n ≤ 16) (hk : k < n) (hp : w.heap[pk]? = some (.cells #[.int .i64 k] 3 (0, 0)))
    (hpn : k + p < n) (hyes : f (k + p) k ≠ 0) (hno : ∀ r, r < p → f (k + r) k = 0) :
    Calls Try.prog 66 #[.slice (some ⟨A, k, none⟩) (n - k) (n - k), .func (Fn.func 67) #[] #[.pointer (some ⟨pk, 0, none⟩)]] w fun e w' => e = .returned (.int .i64 p) ∧ Below w.heap.size w w' := by
  have hcf := cf_det1
  have HM := Lib.hid hm
  have HP := Lib.hid hp
  have HY := Lib.hid hyes
  have HN := Lib.hid hno
  clear hm hp hyes hno
  obtain ⟨q, hq⟩ : ∃ q, n - k = q := ⟨_, rfl⟩
  rw [hq]
  have HQ := Lib.hid hq
  have hpq : p < q := by omega
  have hq16 : q ≤ 16 := by omega
  clear hq
  go_enter Try.func66, Try.ntmps66
  go_wp2
  go_loopw [8] (fun t wr => ∃ i : Nat, i ≤ p ∧ t = .int .i64 i ∧ Below w.heap.size w wr) (fun t _ => p + 1 - (intOf t).toNat)
  case atStart => exact ⟨0, by omega, rfl, Below.refl _ _⟩
  case round =>
    obtain ⟨i, hi, rfl, hB⟩ := hrel
    have hM := HM.out.mono hB
    have hki : k + i < n := by have := HQ.out; omega
    obtain ⟨m1, m2, m3, m4, m5, m6⟩ := hM
    have c1 := (m3 (k + i) hki).1
    obtain ⟨_, b2, _, b4, b5⟩ := m4 (k + i) hki
    have c2 := (m5 (k + i) k hki hk).1
    have hP := persist HP.out hB
    obtain ⟨x, hx⟩ : ∃ x, f (k + i) k = x := ⟨_, rfl⟩
    have HX := Lib.hid hx
    rw [hx] at c2
    have hiq : i < q := by omega
    clear hx m1 m3 m4 m5 m6
    generalize blk (k + i) = g at *
    generalize cap (k + i) = cp at *
    go_wp2_with fail
    refine (det1_go _ g n cp pk k x hk b4 c2 b2 hP hn16).mono ?_
    rintro e w2 ⟨rfl, hb⟩
    cases hx0 : (x != 0) with
    | true =>
      have hip : i = p := by
        apply Nat.le_antisymm hi
        apply Nat.le_of_not_lt; intro hlt
        have := HN.out i hlt
        rw [HX.out] at this
        rw [this] at hx0; simp at hx0
      subst hip
      go_wp2
      go_ret
      exact ⟨rfl, btr hB hb⟩
    | false =>
      have hip : i < p := by
        rcases Nat.lt_or_eq_of_le hi with q1 | q1
        · exact q1
        · subst q1
          exfalso
          have := HY.out
          rw [HX.out] at this
          simp at hx0
          exact this hx0
      clear hx0
      go_wp2
      go_roundw
      case rel => exact ⟨i + 1, by omega, by go_num, btr hB hb⟩
      case measure => simp [intOf]; omega
end Go.Proofs.Ytiapngmallfelaa
