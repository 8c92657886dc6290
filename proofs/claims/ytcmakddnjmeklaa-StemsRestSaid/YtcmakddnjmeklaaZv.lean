/- Chapter 9, walks: is an act valid? -/
import Derived.Test.YtcmakddnjmeklaaZs
namespace Go.Proofs.Ytcmakddnjmeklaa
open Go.RowKit

def vOdds (l : List Int) : Bool := l.all fun x => decide (0 ≤ x) && decide (x ≤ 3)
def vAc (n : Nat) (x : Ac) : Bool := decide (-9 ≤ x.g) && decide (x.g ≤ 9) && decide (x.o.length = n) && vOdds x.o && decide (0 < isum x.o)
def vAcs (n : Nat) (A : List Ac) : Bool := decide (1 ≤ A.length) && decide (A.length ≤ 3) && A.all (vAc n)
def vWd (W : Wd) : Bool := decide (1 ≤ W.acts.length) && decide (W.acts.length ≤ 4) && decide (1 ≤ W.a) && decide (W.a < W.b) && decide (W.b ≤ 4) && W.acts.all (vAcs W.acts.length)

theorem vOdds_iff {l : List Int} : vOdds l = true ↔ ∀ x ∈ l, 0 ≤ x ∧ x ≤ 3 := by simp [vOdds]

def MinIs (l : List Int) (m : Int) : Prop := m ∈ l ∧ ∀ x ∈ l, m ≤ x
def MaxIs (l : List Int) (m : Int) : Prop := m ∈ l ∧ ∀ x ∈ l, x ≤ m
theorem take_one {l : List Int} (h : 0 < l.length) : l.take 1 = [nth l 0] := by
  have := take_nth (l := l) (k := 0) h
  simpa using this
theorem minIs_one {l : List Int} (h : 0 < l.length) : MinIs (l.take 1) (nth l 0) := by rw [take_one h]; exact ⟨by simp, by simp⟩
theorem maxIs_one {l : List Int} (h : 0 < l.length) : MaxIs (l.take 1) (nth l 0) := by rw [take_one h]; exact ⟨by simp, by simp⟩
theorem minIs_lo {l : List Int} {k : Nat} {m : Int} (h : MinIs (l.take k) m) (hk : k < l.length) (hm : m ≤ nth l k) : MinIs (l.take (k + 1)) m := by
  rw [take_nth hk]
  refine ⟨by simp [h.1], fun x hx => ?_⟩
  rcases List.mem_append.1 hx with hx | hx
  · exact h.2 x hx
  · simp at hx; subst hx; exact hm
theorem minIs_hi {l : List Int} {k : Nat} {m : Int} (h : MinIs (l.take k) m) (hk : k < l.length) (hm : nth l k ≤ m) : MinIs (l.take (k + 1)) (nth l k) := by
  rw [take_nth hk]
  refine ⟨by simp, fun x hx => ?_⟩
  rcases List.mem_append.1 hx with hx | hx
  · have := h.2 x hx; omega
  · simp at hx; subst hx; exact Int.le_refl _
theorem maxIs_lo {l : List Int} {k : Nat} {m : Int} (h : MaxIs (l.take k) m) (hk : k < l.length) (hm : nth l k ≤ m) : MaxIs (l.take (k + 1)) m := by
  rw [take_nth hk]
  refine ⟨by simp [h.1], fun x hx => ?_⟩
  rcases List.mem_append.1 hx with hx | hx
  · exact h.2 x hx
  · simp at hx; subst hx; exact hm
theorem maxIs_hi {l : List Int} {k : Nat} {m : Int} (h : MaxIs (l.take k) m) (hk : k < l.length) (hm : m ≤ nth l k) : MaxIs (l.take (k + 1)) (nth l k) := by
  rw [take_nth hk]
  refine ⟨by simp, fun x hx => ?_⟩
  rcases List.mem_append.1 hx with hx | hx
  · have := h.2 x hx; omega
  · simp at hx; subst hx; exact Int.le_refl _

def GivesMin (P : Int → Prop) (w : World) (e : Ending) (w' : World) : Prop := ∃ m, P m ∧ e = .returned (.int .i64 m) ∧ w = w'

set_option maxHeartbeats 400000 in
theorem min_go (w : World) (a : Option Addr) (n c : Nat) (l : List Int) (hs : Sl w a n c l) (hn : 1 ≤ n) :
    Calls Try.prog 59 #[.slice a n c] w (GivesMin (MinIs l) w) := by
  have hlen := hs.len
  obtain ⟨b, off, rfl, hb, hc⟩ := hs.at (by omega)
  have HC := Lib.hid hc
  have HN := Lib.hid hlen
  have h0 := hc 0 (by omega)
  have hcap := hs.cap
  unfold maxLen at hcap
  rw [Nat.add_zero] at h0
  have HM := Lib.hid (minIs_one (l := l) (by omega))
  clear hs hc hlen
  go_enter Try.func59, Try.ntmps59
  go_wp2
  clear h0
  go_loop [3, 4] (fun s t => ∃ (k : Nat) (m : Int), 1 ≤ k ∧ k ≤ n ∧ t = .int .i64 k ∧ s = .int .i64 m ∧ Hid (MinIs (l.take k) m)) (fun _ t => n - (intOf t).toNat)
  case atStart => exact ⟨1, _, by omega, by omega, rfl, rfl, HM⟩
  case round =>
    clear HM
    obtain ⟨k, m, hk1, hk, rfl, rfl, HM⟩ := hrel
    by_cases hlk : k < n
    · have hck := HC.out k hlk
      have hkl := Lib.hid (show k < l.length by rw [HN.out]; exact hlk)
      obtain ⟨x, hx⟩ : ∃ x, nth l k = x := ⟨_, rfl⟩
      have HX := Lib.hid hx
      rw [hx] at hck
      clear hx
      go_wp2
      go_round
      case rel =>
        go_light
        refine ⟨k + 1, _, by omega, by omega, by go_num, rfl, Lib.hid ?_⟩
        have h1 := HM.out
        have h2 := HX.out
        split
        · rw [← h2]; exact minIs_hi h1 hkl.out (by omega)
        · exact minIs_lo h1 hkl.out (by omega)
      case measure => simp [intOf]; omega
    · obtain rfl : k = n := by omega
      go_wp2
      go_ret
      have h1 := HM.out
      rw [List.take_of_length_le (by rw [HN.out]; omega)] at h1
      exact ⟨m, h1, rfl, rfl⟩
set_option maxHeartbeats 400000 in
theorem max_go (w : World) (a : Option Addr) (n c : Nat) (l : List Int) (hs : Sl w a n c l) (hn : 1 ≤ n) :
    Calls Try.prog 60 #[.slice a n c] w (GivesMin (MaxIs l) w) := by
  have hlen := hs.len
  obtain ⟨b, off, rfl, hb, hc⟩ := hs.at (by omega)
  have HC := Lib.hid hc
  have HN := Lib.hid hlen
  have h0 := hc 0 (by omega)
  have hcap := hs.cap
  unfold maxLen at hcap
  rw [Nat.add_zero] at h0
  have HM := Lib.hid (maxIs_one (l := l) (by omega))
  clear hs hc hlen
  go_enter Try.func60, Try.ntmps60
  go_wp2
  clear h0
  go_loop [3, 4] (fun s t => ∃ (k : Nat) (m : Int), 1 ≤ k ∧ k ≤ n ∧ t = .int .i64 k ∧ s = .int .i64 m ∧ Hid (MaxIs (l.take k) m)) (fun _ t => n - (intOf t).toNat)
  case atStart => exact ⟨1, _, by omega, by omega, rfl, rfl, HM⟩
  case round =>
    clear HM
    obtain ⟨k, m, hk1, hk, rfl, rfl, HM⟩ := hrel
    by_cases hlk : k < n
    · have hck := HC.out k hlk
      have hkl := Lib.hid (show k < l.length by rw [HN.out]; exact hlk)
      obtain ⟨x, hx⟩ : ∃ x, nth l k = x := ⟨_, rfl⟩
      have HX := Lib.hid hx
      rw [hx] at hck
      clear hx
      go_wp2
      go_round
      case rel =>
        go_light
        refine ⟨k + 1, _, by omega, by omega, by go_num, rfl, Lib.hid ?_⟩
        have h1 := HM.out
        have h2 := HX.out
        split
        · rw [← h2]; exact maxIs_hi h1 hkl.out (by omega)
        · exact maxIs_lo h1 hkl.out (by omega)
      case measure => simp [intOf]; omega
    · obtain rfl : k = n := by omega
      go_wp2
      go_ret
      have h1 := HM.out
      rw [List.take_of_length_le (by rw [HN.out]; omega)] at h1
      exact ⟨m, h1, rfl, rfl⟩

theorem vAc_gain {n : Nat} {g : Int} {l : List Int} (h : ¬ (-9 ≤ g ∧ g ≤ 9)) : vAc n ⟨g, l⟩ = false := by
  unfold vAc
  by_cases h1 : -9 ≤ g
  · have h2 : ¬ g ≤ 9 := fun h2 => h ⟨h1, h2⟩
    simp [h2]
  · simp [h1]
theorem vAc_len {n : Nat} {g : Int} {l : List Int} (h : l.length ≠ n) : vAc n ⟨g, l⟩ = false := by unfold vAc; simp [h]
theorem vAc_odds {n : Nat} {g : Int} {l : List Int} (h : ∃ x ∈ l, x < 0 ∨ 3 < x) : vAc n ⟨g, l⟩ = false := by
  have : vOdds l = false := by
    obtain ⟨x, hx, h⟩ := h
    rw [Bool.eq_false_iff]
    intro q
    have := vOdds_iff.1 q x hx
    omega
  unfold vAc; simp [this]
theorem vAc_sum {n : Nat} {g : Int} {l : List Int} (h1 : -9 ≤ g) (h2 : g ≤ 9) (h3 : l.length = n) (h4 : ∀ x ∈ l, 0 ≤ x ∧ x ≤ 3) : vAc n ⟨g, l⟩ = decide (0 < isum l) := by
  have := vOdds_iff.2 h4
  unfold vAc; simp [h1, h2, h3, this]

set_option maxHeartbeats 1000000 in
theorem avalid_go (w : World) (g : Int) (a : Option Addr) (m c n : Nat) (l : List Int) (hs : Sl w a m c l) (h1 : 1 ≤ n) (hn : n ≤ 4) :
    Calls Try.prog 78 #[av g a m c, .int .i64 n] w fun e w' => e = .returned (.bool (vAc n ⟨g, l⟩)) ∧ Below w.heap.size w w' := by
  have hlen := hs.len
  have hs1 := hs.mono (bal (Below.refl w.heap.size w) (.cells #[.int .i64 g, .slice a m c] 50))
  by_cases q1 : -9 ≤ g
  · by_cases q2 : g ≤ 9
    · by_cases q3 : m = n
      · subst q3
        have d1 : ((m : Int) == (m : Int)) = true := by simp
        by_cases q4 : ∃ x ∈ l, x < 0
        · have HV := Lib.hid (vAc_odds (n := m) (g := g) (l := l) (by obtain ⟨x, hx, h⟩ := q4; exact ⟨x, hx, .inl h⟩))
          have HQ := Lib.hid q4
          have HS := Lib.hid hs1
          clear q4 hs hs1 hlen
          go_enter Try.func78, Try.ntmps78
          go_wp2_with fail
          refine (min_go _ a m c l HS.out h1).mono ?_
          rintro e w' ⟨y, hy, rfl, rfl⟩
          have q : ¬ 0 ≤ y := by
            obtain ⟨x, hx, h⟩ := HQ.out
            have := hy.2 x hx
            omega
          have d : decide (0 ≤ y) = false := by simpa using q
          clear hy
          go_wp2
          go_ret
          rw [HV.out]
          exact ⟨rfl, bal (Below.refl _ _) _⟩
        · by_cases q5 : ∃ x ∈ l, 3 < x
          · have HV := Lib.hid (vAc_odds (n := m) (g := g) (l := l) (by obtain ⟨x, hx, h⟩ := q5; exact ⟨x, hx, .inr h⟩))
            have HQ := Lib.hid q4
            have HR := Lib.hid q5
            have HS := Lib.hid hs1
            clear q4 q5 hs hs1 hlen
            go_enter Try.func78, Try.ntmps78
            go_wp2_with fail
            refine (min_go _ a m c l HS.out h1).mono ?_
            rintro e w' ⟨y, hy, rfl, rfl⟩
            have q : 0 ≤ y := Int.not_lt.1 fun q => HQ.out ⟨y, hy.1, q⟩
            have d : decide (0 ≤ y) = true := by simpa using q
            clear hy
            go_wp2_with fail
            refine (max_go _ a m c l HS.out h1).mono ?_
            rintro e w' ⟨z, hz, rfl, rfl⟩
            have qz : ¬ z ≤ 3 := by
              obtain ⟨x, hx, h⟩ := HR.out
              have := hz.2 x hx
              omega
            have dz : decide (z ≤ 3) = false := by simpa using qz
            clear hz
            go_wp2
            go_ret
            rw [HV.out]
            exact ⟨rfl, bal (Below.refl _ _) _⟩
          · have hod : ∀ x ∈ l, 0 ≤ x ∧ x ≤ 3 := fun x hx => ⟨Int.not_lt.1 fun q => q4 ⟨x, hx, q⟩, Int.not_lt.1 fun q => q5 ⟨x, hx, q⟩⟩
            have HV := Lib.hid (vAc_sum q1 q2 hlen hod)
            have HO := Lib.hid hod
            have HS := Lib.hid hs1
            clear q4 q5 hs hs1 hlen hod
            go_enter Try.func78, Try.ntmps78
            go_wp2_with fail
            refine (min_go _ a m c l HS.out h1).mono ?_
            rintro e w' ⟨y, hy, rfl, rfl⟩
            have q : 0 ≤ y := (HO.out y hy.1).1
            have d : decide (0 ≤ y) = true := by simpa using q
            clear hy
            go_wp2_with fail
            refine (max_go _ a m c l HS.out h1).mono ?_
            rintro e w' ⟨z, hz, rfl, rfl⟩
            have qz : z ≤ 3 := (HO.out z hz.1).2
            have dz : decide (z ≤ 3) = true := by simpa using qz
            clear hz
            go_wp2_with fail
            refine (sum_go _ g a m c l HS.out (by omega) HO.out).mono ?_
            rintro e w' ⟨rfl, hb⟩
            generalize isum l = S at *
            go_wp2
            go_ret
            rw [HV.out]
            exact ⟨rfl, btr (bal (Below.refl _ _) _) hb⟩
      · have HV := Lib.hid (vAc_len (n := n) (g := g) (l := l) (by omega))
        have d1 : ((m : Int) == (n : Int)) = false := by simp; omega
        clear hs hs1 hlen q3
        go_enter Try.func78, Try.ntmps78
        go_wp2
        go_ret
        rw [HV.out]
        exact ⟨rfl, bal (Below.refl _ _) _⟩
    · have HV := Lib.hid (vAc_gain (n := n) (g := g) (l := l) (fun h => q2 h.2))
      clear hs hs1 hlen
      go_enter Try.func78, Try.ntmps78
      go_wp2
      go_ret
      rw [HV.out]
      exact ⟨rfl, bal (Below.refl _ _) _⟩
  · have HV := Lib.hid (vAc_gain (n := n) (g := g) (l := l) (fun h => q1 h.1))
    clear hs hs1 hlen
    go_enter Try.func78, Try.ntmps78
    go_wp2
    go_ret
    rw [HV.out]
    exact ⟨rfl, bal (Below.refl _ _) _⟩
end Go.Proofs.Ytcmakddnjmeklaa
