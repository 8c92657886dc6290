/- Walks: sums of two squares. -/
import Derived.Test.YtijnpcehjnaaiaaSolvR
namespace Go.Proofs.Ytijnpcehjnaaiaa
open Go.RowKit

theorem sq2_iff (n : Nat) : sq2 n = true ↔ ∃ a b : Nat, a * a + b * b = n := by
  unfold sq2
  simp only [List.any_eq_true, List.mem_range, beq_iff_eq]
  constructor
  · rintro ⟨a, _, b, _, h⟩; exact ⟨a, b, h⟩
  · rintro ⟨a, b, h⟩
    have h1 : a ≤ a * a := Nat.le_mul_self a
    have h2 : b ≤ b * b := Nat.le_mul_self b
    exact ⟨a, by omega, b, by omega, h⟩

set_option maxHeartbeats 400000 in
theorem twosq_go (w : World) (n : Nat) (hn : n ≤ 100) :
    Calls Try.prog 77 #[.int .i64 n] w fun e w' => e = .returned (.bool (sq2 n)) ∧ Below w.heap.size w w' := by
  go_enter Try.func77, Try.ntmps77
  go_wp2
  go_loopw [3] (fun t wr => ∃ a : Nat, t = .int .i64 a ∧ a ≤ 11 ∧ Hid (∀ c, c < a → ¬ ∃ b, c * c + b * b = n) ∧ Below w.heap.size w wr) (fun t _ => 102 - (intOf t).toNat)
  case atStart => exact ⟨0, rfl, by omega, Lib.hid (fun c hc => by omega), Below.refl _ _⟩
  case round =>
    obtain ⟨a, rfl, ha, HA, hB⟩ := hrel
    · have hm := mul_cast a
      have hmb : a * a ≤ 121 := Nat.mul_le_mul ha ha
      have h10 : a * a ≤ 100 → a ≤ 10 := fun h => by
        apply Nat.le_of_not_lt; intro hlt
        have := Nat.mul_le_mul (show 11 ≤ a by omega) (show 11 ≤ a by omega)
        omega
      have h1 : a ≤ a * a := Nat.le_mul_self a
      generalize hq : a * a = q at *
      have HQ := Lib.hid hq
      clear hq
      by_cases hl : q ≤ n
      · have ha10 := h10 (by omega)
        clear h10
        have hsub : (n : Int) - (q : Int) = ((n - q : Nat) : Int) := by omega
        go_wp2_with fail
        refine (root_go _ (n - q) (by omega)).mono ?_
        rintro e w' ⟨d, hd, rfl, hb⟩
        have hB2 := btr hB hb
        cases hdd : (d * d == n - q) with
        | true =>
          have hs : sq2 n = true := (sq2_iff n).2 ⟨a, d, by rw [HQ.out]; have := beq_iff_eq.1 hdd; omega⟩
          have HS := Lib.hid hs
          clear hs
          go_wp2
          go_ret
          exact ⟨by rw [HS.out]; rfl, hB2⟩
        | false =>
          have hno : Hid (∀ c, c < a + 1 → ¬ ∃ b, c * c + b * b = n) := Lib.hid (fun c hc => by
            by_cases e : c = a
            · subst e
              rintro ⟨b, hb⟩
              rw [HQ.out] at hb
              have hnb : n - q = b * b := by omega
              rw [hnb] at hd hdd
              have := rt_sq hd
              rw [this] at hdd
              simp at hdd
            · exact HA.out c (by omega))
          clear hd
          go_wp2
          go_roundw
          case rel => exact ⟨a + 1, by go_num, by omega, hno, hB2⟩
          case measure => simp [intOf]; omega
      · clear h10
        have hs : sq2 n = false := by
          cases h : sq2 n with
          | false => rfl
          | true =>
            obtain ⟨x, y, hxy⟩ := (sq2_iff n).1 h
            exfalso
            by_cases hx : x < a
            · exact HA.out x hx ⟨y, hxy⟩
            · have := Nat.mul_le_mul (show a ≤ x by omega) (show a ≤ x by omega)
              have := HQ.out
              omega
        have HS := Lib.hid hs
        clear hs
        go_wp2
        go_ret
        exact ⟨by rw [HS.out]; rfl, hB⟩

set_option maxHeartbeats 400000 in
theorem rsq_go (w : World) (n : Nat) (hn : n ≤ 100) :
    Calls Try.prog 71 #[.int .i64 n] w fun e w' => e = .returned (.bool (sq2 n)) ∧ Below w.heap.size w w' := by
  go_enter Try.func71, Try.ntmps71
  go_wp2
  go_loopw [7] (fun t wr => ∃ a : Nat, t = .int .i64 a ∧ a ≤ n + 1 ∧ Hid (∀ c, c < a → ∀ b, b ≤ c → ¬ c * c + b * b = n) ∧ Below w.heap.size w wr) (fun t _ => n + 1 - (intOf t).toNat)
  case atStart => exact ⟨0, rfl, by omega, Lib.hid (fun c hc => by omega), Below.refl _ _⟩
  case round =>
    obtain ⟨a, rfl, ha, HA, hB⟩ := hrel
    by_cases hl : a < n + 1
    · have hd1 : decide ((a : Int) < (n : Int) + 1) = true := by simp; omega
      have hma := mul_cast a
      have hmab : a * a ≤ 100 * 100 := Nat.mul_le_mul (by omega) (by omega)
      obtain ⟨p, hp⟩ : ∃ p, a * a = p := ⟨_, rfl⟩
      have HP := Lib.hid hp
      rw [hp] at hma hmab
      clear hp
      go_wp2
      go_loopw [12] (fun t wr => ∃ b : Nat, t = .int .i64 b ∧ b ≤ a + 1 ∧ Hid (∀ d, d < b → ¬ a * a + d * d = n) ∧ Below w.heap.size w wr) (fun t _ => a + 1 - (intOf t).toNat)
      case atStart => exact ⟨0, rfl, by omega, Lib.hid (fun c hc => by omega), hB⟩
      case round =>
        clear hB
        obtain ⟨b, rfl, hb, HB, hB⟩ := hrel
        by_cases hlb : b < a + 1
        · have hmb := mul_cast b
          have hmbb : b * b ≤ 100 * 100 := Nat.mul_le_mul (by omega) (by omega)
          obtain ⟨q, hq⟩ : ∃ q, b * b = q := ⟨_, rfl⟩
          have HQ := Lib.hid hq
          rw [hq] at hmb hmbb
          clear hq
          by_cases e : p + q = n
          · have hs : sq2 n = true := (sq2_iff n).2 ⟨a, b, by rw [HP.out, HQ.out]; exact e⟩
            have HS := Lib.hid hs
            have e2 : (p : Int) + (q : Int) = (n : Int) := by omega
            clear hs
            go_wp2
            go_ret
            exact ⟨by rw [HS.out]; rfl, hB⟩
          · have e2 : ¬ (p : Int) + (q : Int) = (n : Int) := by omega
            have hno : Hid (∀ d, d < b + 1 → ¬ a * a + d * d = n) := Lib.hid (fun d hd => by
              by_cases e3 : d = b
              · subst e3; rw [HP.out, HQ.out]; exact e
              · exact HB.out d (by omega))
            go_wp2
            go_roundw
            case rel => exact ⟨b + 1, by go_num, by omega, hno, hB⟩
            case measure => simp [intOf]; omega
        · have hno : Hid (∀ c, c < a + 1 → ∀ b, b ≤ c → ¬ c * c + b * b = n) := Lib.hid (fun c hc x hx => by
            by_cases e3 : c = a
            · subst e3; exact HB.out x (by omega)
            · exact HA.out c (by omega) x hx)
          go_wp2
          go_roundw
          case rel => exact ⟨a + 1, by go_num, by omega, hno, hB⟩
          case measure => simp [intOf]; omega
    · have hs : sq2 n = false := by
        cases h : sq2 n with
        | false => rfl
        | true =>
          obtain ⟨x, y, hxy⟩ := (sq2_iff n).1 h
          exfalso
          have h1 : x ≤ x * x := Nat.le_mul_self x
          have h2 : y ≤ y * y := Nat.le_mul_self y
          by_cases hx : y ≤ x
          · exact HA.out x (by omega) y hx hxy
          · exact HA.out y (by omega) x (by omega) (by omega)
      have HS := Lib.hid hs
      clear hs
      go_wp2
      go_ret
      exact ⟨by rw [HS.out]; rfl, hB⟩
end Go.Proofs.Ytijnpcehjnaaiaa
