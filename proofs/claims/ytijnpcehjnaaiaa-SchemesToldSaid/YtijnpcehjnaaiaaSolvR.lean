/- Walks: Asked, roots, Solve of the reference. -/
import Derived.Test.YtijnpcehjnaaiaaSolvP
namespace Go.Proofs.Ytijnpcehjnaaiaa
open Go.RowKit

theorem rasked_go (w : World) (N K L M : Int) :
    Calls Try.prog 44 #[agg4 N K L M] w fun e w' => e = .returned (.bool (decide (Ask N K L M))) ∧ Below w.heap.size w w' := by
  by_cases ha : Ask N K L M
  · have hd : decide (Ask N K L M) = true := by simp [ha]
    obtain ⟨a1, a2, a3, a4, a5, a6, a7, a8⟩ := ha
    go_enter Try.func44, Try.ntmps44
    go_wp2
    go_ret
    exact ⟨by rw [hd]; first | rfl | exact congrArg (fun b => Ending.returned (Value.bool b)) (decide_eq_true a8), bal (Below.refl _ _) _⟩
  · have hd : decide (Ask N K L M) = false := by simp [ha]
    unfold Ask at ha
    go_enter Try.func44, Try.ntmps44
    go_wp2
    all_goals (go_ret; refine ⟨?_, bal (Below.refl _ _) _⟩)
    all_goals (try rw [hd])
    all_goals first | rfl | (refine congrArg (fun b => Ending.returned (Value.bool b)) (decide_eq_false (fun hq => ha ?_)); refine ⟨?_, ?_, ?_, ?_, ?_, ?_, ?_, ?_⟩ <;> omega)

set_option maxHeartbeats 400000 in
theorem roots_some (w : World) (N K L M R S : Int) (ha : Ask N K L M) (h : Roots K L M R S) :
    Calls Try.prog 70 #[agg4 N K L M] w fun e w' => e = .returned (.tuple #[.int .i64 R, .int .i64 S, .bool true]) ∧ Below w.heap.size w w' := by
  obtain ⟨b1, b2, b3, b4⟩ := roots_bounds ha h
  have HR := Lib.hid h
  obtain ⟨a1, a2, a3, a4, a5, a6, a7, a8⟩ := ha
  go_enter Try.func70, Try.ntmps70
  go_wp2
  have hx := new_at w (.cells #[.int .i64 N, .int .i64 K, .int .i64 L, .int .i64 M] 32)
  have hB := bal (Below.refl w.heap.size w) (.cells #[.int .i64 N, .int .i64 K, .int .i64 L, .int .i64 M] 32)
  generalize w.alloc _ = w1 at *
  go_loopw [5] (fun t wr => ∃ r : Int, t = .int .i64 r ∧ -100 ≤ r ∧ r ≤ R ∧ wr.heap[w.heap.size]? = some (.cells #[.int .i64 N, .int .i64 K, .int .i64 L, .int .i64 M] 32 (0, 0)) ∧ Below w.heap.size w wr) (fun t _ => (101 - intOf t).toNat)
  case atStart => exact ⟨-100, rfl, by omega, by omega, hx, hB⟩
  case round =>
    clear hx hB
    obtain ⟨r, rfl, hr1, hr2, hx, hB⟩ := hrel
    obtain ⟨z, c0, c1, c2, c3, _, _, _, _⟩ := four_at hx
    have h100 : r ≤ 100 := by omega
    by_cases e : r = R
    · subst e
      have hs : L - M - r = S := by have := HR.out.2.1; omega
      have hp : r * S = M - K := HR.out.2.2
      have hle : S ≤ r := by have := HR.out.1; omega
      go_wp2
      exact bodyPost_ret (v := .tuple #[.int .i64 r, .int .i64 S, .bool true]) (by simp [results, Try.results70, go_sem]) rfl ⟨rfl, hB⟩
    · obtain ⟨s, hs⟩ : ∃ s, L - M - r = s := ⟨_, rfl⟩
      obtain ⟨p1, p2⟩ := mul_le2 (a := r) (b := s) (A := 100) (B := 300) (by omega) (by omega) (by omega) (by omega) (by omega)
      by_cases q : s ≤ r
      · have hne : ¬ r * s = M - K := fun he => e (roots_unique HR.out hs.symm q he).1
        go_wp2
        go_roundw
        case rel => exact ⟨r + 1, by go_num, by omega, by omega, hx, hB⟩
        case measure => simp [intOf]; omega
      · go_wp2
        go_roundw
        case rel => exact ⟨r + 1, by go_num, by omega, by omega, hx, hB⟩
        case measure => simp [intOf]; omega

set_option maxHeartbeats 400000 in
theorem roots_none (w : World) (N K L M : Int) (ha : Ask N K L M) (h : ¬ ∃ R S, Roots K L M R S) :
    Calls Try.prog 70 #[agg4 N K L M] w fun e w' => e = .returned (.tuple #[.int .i64 0, .int .i64 0, .bool false]) ∧ Below w.heap.size w w' := by
  have HN := Lib.hid h
  have HA := Lib.hid ha
  obtain ⟨a1, a2, a3, a4, a5, a6, a7, a8⟩ := ha
  clear h
  go_enter Try.func70, Try.ntmps70
  go_wp2
  have hx := new_at w (.cells #[.int .i64 N, .int .i64 K, .int .i64 L, .int .i64 M] 32)
  have hB := bal (Below.refl w.heap.size w) (.cells #[.int .i64 N, .int .i64 K, .int .i64 L, .int .i64 M] 32)
  generalize w.alloc _ = w1 at *
  go_loopw [5] (fun t wr => ∃ r : Int, t = .int .i64 r ∧ -100 ≤ r ∧ r ≤ 101 ∧ wr.heap[w.heap.size]? = some (.cells #[.int .i64 N, .int .i64 K, .int .i64 L, .int .i64 M] 32 (0, 0)) ∧ Below w.heap.size w wr) (fun t _ => (101 - intOf t).toNat)
  case atStart => exact ⟨-100, rfl, by omega, by omega, hx, hB⟩
  case round =>
    clear hx hB
    obtain ⟨r, rfl, hr1, hr2, hx, hB⟩ := hrel
    obtain ⟨z, c0, c1, c2, c3, _, _, _, _⟩ := four_at hx
    by_cases e : r ≤ 100
    · obtain ⟨s, hs⟩ : ∃ s, L - M - r = s := ⟨_, rfl⟩
      obtain ⟨p1, p2⟩ := mul_le2 (a := r) (b := s) (A := 100) (B := 300) (by omega) (by omega) (by omega) (by omega) (by omega)
      by_cases q : s ≤ r
      · have hne : ¬ r * s = M - K := by
          intro he
          rcases Int.lt_or_eq_of_le q with q | q
          · exact HN.out ⟨r, s, q, by omega, he⟩
          · subst q
            have := HA.out
            have hz : (0 : Int) ≤ s * s := sq_nn s
            have hd : (0 : Int) * 0 = Dsc K L M := by
              have e1 : L - M = 2 * s := by omega
              unfold Dsc; rw [e1]
              have : 2 * s * (2 * s) = 4 * (s * s) := by rw [Int.mul_assoc, Int.mul_left_comm s 2 s, ← Int.mul_assoc]; omega
              rw [this]; omega
            obtain ⟨R, S, hR, _⟩ := dsc_roots HA.out (Int.le_refl 0) hd
            exact HN.out ⟨R, S, hR⟩
        go_wp2
        go_roundw
        case rel => exact ⟨r + 1, by go_num, by omega, by omega, hx, hB⟩
        case measure => simp [intOf]; omega
      · go_wp2
        go_roundw
        case rel => exact ⟨r + 1, by go_num, by omega, by omega, hx, hB⟩
        case measure => simp [intOf]; omega
    · go_wp2
      exact bodyPost_ret (v := .tuple #[.int .i64 0, .int .i64 0, .bool false]) (by simp [results, Try.results70, go_sem]) rfl ⟨rfl, hB⟩

theorem rsolve_none (w : World) (N K L M : Int) (ha : Ask N K L M) (h : ¬ ∃ R S, Roots K L M R S) :
    Calls Try.prog 45 #[agg4 N K L M] w fun e w' => e = .returned (.tuple #[agg4 0 0 0 0, .int .i64 5]) ∧ Below w.heap.size w w' := by
  go_enter Try.func45, Try.ntmps45
  go_wp2_with fail
  refine (roots_none _ N K L M ha h).mono ?_
  rintro e w' ⟨rfl, hb⟩
  obtain ⟨hx, hy⟩ := persist2 hb
  obtain ⟨z, c0, c1, c2, c3, _, _, _, _⟩ := four_at hx
  obtain ⟨z2, d0, d1, d2, d3, f0, f1, f2, f3⟩ := four_at hy
  have hB := below00 hb
  go_wp2
  exact bodyPost_ret (v := .tuple #[agg4 0 0 0 0, .int .i64 5]) (by simp [results, Try.results45, go_sem, *]) rfl ⟨rfl, below_set4 hB (by omega) _ _ _ _⟩

set_option maxHeartbeats 1000000 in
theorem rsolve_some (w : World) (N K L M R S : Int) (ha : Ask N K L M) (h : Roots K L M R S) :
    Calls Try.prog 45 #[agg4 N K L M] w fun e w' => e = .returned (.tuple #[solA N K (some (R, S)), .int .i64 (solE N K (some (R, S)))]) ∧ Below w.heap.size w w' := by
  obtain ⟨b1, b2, b3, b4⟩ := roots_bounds ha h
  have hlt := h.1
  have HA := Lib.hid ha
  have HR := Lib.hid h
  obtain ⟨a1, a2, a3, a4, a5, a6, a7, a8⟩ := ha
  clear h
  go_enter Try.func45, Try.ntmps45
  go_wp2_with fail
  refine (roots_some _ N K L M R S HA.out HR.out).mono ?_
  rintro e w' ⟨rfl, hb⟩
  obtain ⟨hx, hy⟩ := persist2 hb
  obtain ⟨z, c0, c1, c2, c3, _, _, _, _⟩ := four_at hx
  have hB := below00 hb
  go_wp2
  clear c0 c1 c2 c3 z hb
  go_loopw [20] (fun t wr => ∃ f : Int, t = .int .i64 f ∧ 0 ≤ f ∧ f ≤ N ∧ Hid (∀ q, 0 ≤ q → q < f → ¬ q * (R - S) = topF N K S) ∧ wr.heap[w.heap.size]? = some (.cells #[.int .i64 N, .int .i64 K, .int .i64 L, .int .i64 M] 32 (0, 0)) ∧ wr.heap[w.heap.size + 1]? = some (.cells #[.int .i64 0, .int .i64 0, .int .i64 0, .int .i64 0] 58 (0, 0)) ∧ Below w.heap.size w wr) (fun t _ => (N - intOf t).toNat)
  case atStart => exact ⟨0, rfl, by omega, by omega, Lib.hid (fun q h1 h2 => by omega), hx, hy, hB⟩
  case round =>
    clear hx hy hB
    obtain ⟨f, rfl, hf0, hfN, hno, hx, hy, hB⟩ := hrel
    obtain ⟨z, c0, c1, c2, c3, _, _, _, _⟩ := four_at hx
    obtain ⟨z2, d0, d1, d2, d3, f0, f1, f2, f3⟩ := four_at hy
    by_cases hl : f < N
    · obtain ⟨g, hg⟩ : ∃ g, N - 1 - f = g := ⟨_, rfl⟩
      obtain ⟨p1, p2⟩ := mul_le2 (a := f) (b := R) (A := 100) (B := 98) (by omega) (by omega) (by omega) (by omega) (by omega)
      obtain ⟨p3, p4⟩ := mul_le2 (a := g) (b := S) (A := 100) (B := 98) (by omega) (by omega) (by omega) (by omega) (by omega)
      have HT := Lib.hid (top_eq N K R S f)
      by_cases hit : K + f * R + g * S = 0
      · have ht : f * (R - S) = topF N K S := HT.out.1 (by rw [hg]; exact hit)
        have hs : okS N K R S = true := (okS_iff hlt).2 ⟨f, hf0, by omega, ht⟩
        have hF : fF N K R S = f := fF_of hlt ht
        have hA : solA N K (some (R, S)) = agg4 R S f g := by simp [solA, hs, hF, hg]
        have hE : solE N K (some (R, S)) = 0 := by simp [solE, hs]
        have HA2 := Lib.hid hA
        have HE2 := Lib.hid hE
        clear hs hF hA hE ht hno
        go_wp2
        exact bodyPost_ret (v := .tuple #[agg4 R S f g, .int .i64 0]) (by simp [results, Try.results45, go_sem, *]) rfl ⟨by rw [HA2.out, HE2.out], below_set4 hB (by omega) _ _ _ _⟩
      · have hno2 : Hid (∀ q, 0 ≤ q → q < f + 1 → ¬ q * (R - S) = topF N K S) := Lib.hid (fun q h1 h2 => by
          by_cases e : q = f
          · subst e; intro he; exact hit (by have := HT.out.2 he; rw [hg] at this; exact this)
          · exact hno.out q h1 (by omega))
        clear hno
        go_wp2
        go_roundw
        case rel => exact ⟨f + 1, by go_num, by omega, by omega, hno2, hx, hy, hB⟩
        case measure => simp [intOf]; omega
    · have hfe : f = N := by omega
      have hs : okS N K R S = false := by
        cases h : okS N K R S with
        | false => rfl
        | true => obtain ⟨q, h1, h2, h3⟩ := (okS_iff hlt).1 h; exact absurd h3 (hno.out q h1 (by omega))
      have hA : solA N K (some (R, S)) = agg4 0 0 0 0 := by simp [solA, hs]
      have hE : solE N K (some (R, S)) = 4 := by simp [solE, hs]
      have HA2 := Lib.hid hA
      have HE2 := Lib.hid hE
      clear hs hA hE hno hfe
      go_wp2
      exact bodyPost_ret (v := .tuple #[agg4 0 0 0 0, .int .i64 4]) (by simp [results, Try.results45, go_sem, *]) rfl ⟨by rw [HA2.out, HE2.out], below_set4 hB (by omega) _ _ _ _⟩

/-- Solve of the reference, by the solutions. -/
theorem rsolve_go (w : World) (N K L M : Int) (o : Option (Int × Int)) (ha : Ask N K L M) (h : RO K L M o) :
    Calls Try.prog 45 #[agg4 N K L M] w fun e w' => e = .returned (.tuple #[solA N K o, .int .i64 (solE N K o)]) ∧ Below w.heap.size w w' := by
  match o, h with
  | none, h => exact rsolve_none w N K L M ha h
  | some (R, S), h => exact rsolve_some w N K L M R S ha h
end Go.Proofs.Ytijnpcehjnaaiaa
