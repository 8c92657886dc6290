/- Walks: caps: rising, third, read, Third; arcs: isSet; TopAffine: picks. -/
import Derived.Test.YtiapngmallfelaaFng
namespace Go.Proofs.Ytiapngmallfelaa
open Go.RowKit
set_option linter.unusedSimpArgs false

def risB (l : List Int) : Bool := (List.range l.length).all fun i => i == 0 || decide (nth l (i - 1) < nth l i)
theorem ris_yes {l : List Int} (h : ∀ i, 1 ≤ i → i < l.length → nth l (i - 1) < nth l i) : risB l = true := by
  unfold risB
  rw [List.all_eq_true]
  intro i hi
  by_cases h0 : i = 0
  · subst h0; rfl
  · have := h i (by omega) (List.mem_range.1 hi)
    simp [this]
theorem ris_at {l : List Int} (h : risB l = true) {i : Nat} (h1 : 1 ≤ i) (hi : i < l.length) : nth l (i - 1) < nth l i := by
  unfold risB at h
  rw [List.all_eq_true] at h
  have h2 := h i (List.mem_range.2 hi)
  have h3 : (i == 0) = false := by rw [beq_eq_false_iff_ne]; omega
  rw [h3, Bool.false_or, decide_eq_true_eq] at h2
  exact h2
theorem ris_no {l : List Int} {i : Nat} (h1 : 1 ≤ i) (hi : i < l.length) (h : nth l i ≤ nth l (i - 1)) : risB l = false := by
  cases hr : risB l with
  | false => rfl
  | true => have := ris_at hr h1 hi; omega
set_option maxHeartbeats 1000000 in
theorem crise_go (w : World) (a : Option Addr) (n cap : Nat) (l : List Int) (hs : Sl w a n cap l) :
    Calls Try.prog 79 #[.slice a n cap] w fun e w' => e = .returned (.bool (risB l)) ∧ ∃ m, w' = w.drewN m := by
  have hlen := hs.len
  have hcap : n ≤ cap ∧ cap ≤ maxLen := ⟨hs.2.1, hs.2.2.1⟩
  unfold maxLen at hcap
  have HS := Lib.hid hs
  have HL := Lib.hid hlen
  clear hs hlen
  go_enter Try.func79, Try.ntmps79
  go_wp2
  go_loopw [3] (fun v wr => ∃ i m : Nat, 1 ≤ i ∧ (i ≤ n ∨ i = 1) ∧ v = .int .i64 i ∧ Hid (∀ j, 1 ≤ j → j < i → nth l (j - 1) < nth l j) ∧ wr = w.drewN m) (fun v _ => n - (intOf v).toNat)
  case atStart => exact ⟨1, 0, by omega, by omega, rfl, Lib.hid (fun j h1 h2 => by omega), rfl⟩
  case round =>
    obtain ⟨i, m, hi1, hi, rfl, HI, rfl⟩ := hrel
    by_cases hin : i < n
    · obtain ⟨b, off, rfl, hb, hc, _⟩ := sl_at HS.out (by omega)
      obtain ⟨k, rfl⟩ : ∃ k, i = k + 1 := ⟨i - 1, by omega⟩
      have e1 : ∀ m, (w.drewN m).cell? ⟨b, off + (k + 1), none⟩ = some (.int .i64 (nth l (k + 1))) := fun _ => hc (k + 1) hin
      have e2 : ∀ m, (w.drewN m).cell? ⟨b, off + k, none⟩ = some (.int .i64 (nth l k)) := fun _ => hc k (by omega)
      have hz : ∀ m, b < (w.drewN m).heap.size := fun _ => hb
      have kw : IntKind.i64.wrap (((k + 1 : Nat) : Int) - 1) = (k : Int) := by rw [IntWalk.i64_left, IntWalk.wrap64_in _ (by omega)]; omega
      have kw2 : IntKind.i64.wrap ((k : Int) + 1 - 1) = (k : Int) := by rw [IntWalk.i64_left, IntWalk.wrap64_in _ (by omega)]; omega
      have HX := Lib.hid (show nth l (k + 1) ≤ nth l k → risB l = false from fun h => ris_no (i := k + 1) (by omega) (by rw [HL.out]; exact hin) (by simpa using h))
      have HY := Lib.hid (show nth l k < nth l (k + 1) → ∀ j, 1 ≤ j → j < k + 1 + 1 → nth l (j - 1) < nth l j from fun h j h1 h2 => by
        by_cases e : j = k + 1
        · subst e; simpa using h
        · exact HI.out j h1 (by omega))
      generalize nth l k = x at *
      generalize nth l (k + 1) = y at *
      by_cases hxy : y ≤ x
      · have hd : decide (y ≤ x) = true := by simpa using hxy
        have HF := Lib.hid (HX.out hxy)
        clear hxy hc
        go_wp2
        go_region
        go_wp2
        go_ret
        exact ⟨by rw [HF.out]; rfl, m + 1, rfl⟩
      · have hd : decide (y ≤ x) = false := by simpa using hxy
        have HI2 := Lib.hid (HY.out (by omega))
        clear hxy hc
        go_wp2
        go_region
        go_wp2
        go_roundw
        case rel => go_light; exact ⟨k + 1 + 1, m + 1, by omega, by omega, by go_num, HI2, rfl⟩
        case measure => simp [intOf]; omega
    · have HT := Lib.hid (ris_yes (l := l) (fun j h1 h2 => HI.out j h1 (by rw [HL.out] at h2; omega)))
      go_wp2
      go_ret
      exact ⟨by rw [HT.out]; rfl, m, rfl⟩
set_option maxHeartbeats 1000000 in
theorem aset_go (w : World) (a : Option Addr) (n cap : Nat) (l : List Int) (hs : Sl w a n cap l) :
    Calls Try.prog 77 #[.slice a n cap] w fun e w' => e = .returned (.bool (risB l)) ∧ ∃ m, w' = w.drewN m := by
  have hlen := hs.len
  have hcap : n ≤ cap ∧ cap ≤ maxLen := ⟨hs.2.1, hs.2.2.1⟩
  unfold maxLen at hcap
  have HS := Lib.hid hs
  have HL := Lib.hid hlen
  clear hs hlen
  go_enter Try.func77, Try.ntmps77
  go_wp2
  go_loopw [3] (fun v wr => ∃ i m : Nat, 1 ≤ i ∧ (i ≤ n ∨ i = 1) ∧ v = .int .i64 i ∧ Hid (∀ j, 1 ≤ j → j < i → nth l (j - 1) < nth l j) ∧ wr = w.drewN m) (fun v _ => n - (intOf v).toNat)
  case atStart => exact ⟨1, 0, by omega, by omega, rfl, Lib.hid (fun j h1 h2 => by omega), rfl⟩
  case round =>
    obtain ⟨i, m, hi1, hi, rfl, HI, rfl⟩ := hrel
    by_cases hin : i < n
    · obtain ⟨b, off, rfl, hb, hc, _⟩ := sl_at HS.out (by omega)
      obtain ⟨k, rfl⟩ : ∃ k, i = k + 1 := ⟨i - 1, by omega⟩
      have e1 : ∀ m, (w.drewN m).cell? ⟨b, off + (k + 1), none⟩ = some (.int .i64 (nth l (k + 1))) := fun _ => hc (k + 1) hin
      have e2 : ∀ m, (w.drewN m).cell? ⟨b, off + k, none⟩ = some (.int .i64 (nth l k)) := fun _ => hc k (by omega)
      have hz : ∀ m, b < (w.drewN m).heap.size := fun _ => hb
      have kw : IntKind.i64.wrap (((k + 1 : Nat) : Int) - 1) = (k : Int) := by rw [IntWalk.i64_left, IntWalk.wrap64_in _ (by omega)]; omega
      have kw2 : IntKind.i64.wrap ((k : Int) + 1 - 1) = (k : Int) := by rw [IntWalk.i64_left, IntWalk.wrap64_in _ (by omega)]; omega
      have HX := Lib.hid (show nth l (k + 1) ≤ nth l k → risB l = false from fun h => ris_no (i := k + 1) (by omega) (by rw [HL.out]; exact hin) (by simpa using h))
      have HY := Lib.hid (show nth l k < nth l (k + 1) → ∀ j, 1 ≤ j → j < k + 1 + 1 → nth l (j - 1) < nth l j from fun h j h1 h2 => by
        by_cases e : j = k + 1
        · subst e; simpa using h
        · exact HI.out j h1 (by omega))
      generalize nth l k = x at *
      generalize nth l (k + 1) = y at *
      by_cases hxy : y ≤ x
      · have hd : decide (y ≤ x) = true := by simpa using hxy
        have HF := Lib.hid (HX.out hxy)
        clear hxy hc
        go_wp2
        go_region
        go_wp2
        go_ret
        exact ⟨by rw [HF.out]; rfl, m + 1, rfl⟩
      · have hd : decide (y ≤ x) = false := by simpa using hxy
        have HI2 := Lib.hid (HY.out (by omega))
        clear hxy hc
        go_wp2
        go_region
        go_wp2
        go_roundw
        case rel => go_light; exact ⟨k + 1 + 1, m + 1, by omega, by omega, by go_num, HI2, rfl⟩
        case measure => simp [intOf]; omega
    · have HT := Lib.hid (ris_yes (l := l) (fun j h1 h2 => HI.out j h1 (by rw [HL.out] at h2; omega)))
      go_wp2
      go_ret
      exact ⟨by rw [HT.out]; rfl, m, rfl⟩
/-! ### third -/
def thd1 (a b : Nat) : Nat := (6 - a % 3 - b % 3) % 3
def thdN (d a b : Nat) : Nat := if d = 1 then thd1 a b else thd1 a b + thd1 (a / 3) (b / 3) * 3
def deckV (d c : Nat) : Value := .agg #[.int .i64 (d : Int), .int .i64 (c : Int)]
set_option maxHeartbeats 2000000 in
theorem cthird_go (w : World) (d c a b : Nat) (hd : d = 1 ∨ d = 2) (ha : a < 9) (hb : b < 9) :
    Calls Try.prog 76 #[deckV d c, .int .i64 (a : Int), .int .i64 (b : Int)] w fun e w' => e = .returned (.int .i64 ((thdN d a b : Nat) : Int)) ∧ Below w.heap.size w w' := by
  unfold deckV
  have HF := Lib.hid (show thdN d a b = if d = 1 then thd1 a b else thd1 a b + thd1 (a / 3) (b / 3) * 3 from rfl)
  have h1 : thd1 a b < 3 := Nat.mod_lt _ (by omega)
  have h2 : thd1 (a / 3) (b / 3) < 3 := Nat.mod_lt _ (by omega)
  have q1 : (((6 : Int) - (a : Int) % 3 - (b : Int) % 3) % 3) = ((thd1 a b : Nat) : Int) := by unfold thd1; omega
  have q2 : (((6 : Int) - ((a / 3 : Nat) : Int) % 3 - ((b / 3 : Nat) : Int) % 3) % 3) = ((thd1 (a / 3) (b / 3) : Nat) : Int) := by unfold thd1; omega
  have q1' : (((6 : Int) - (a : Int) % 3 - (b : Int) % 3).tmod 3) = ((thd1 a b : Nat) : Int) := by rw [Int.tmod_eq_emod_of_nonneg (by omega)]; exact q1
  have q2' : (((6 : Int) - ((a / 3 : Nat) : Int) % 3 - ((b / 3 : Nat) : Int) % 3).tmod 3) = ((thd1 (a / 3) (b / 3) : Nat) : Int) := by rw [Int.tmod_eq_emod_of_nonneg (by omega)]; exact q2
  generalize thd1 a b = t1 at *
  generalize thd1 (a / 3) (b / 3) = t2 at *
  obtain ⟨a3, ha3⟩ : ∃ z, a / 3 = z := ⟨_, rfl⟩
  obtain ⟨b3, hb3⟩ : ∃ z, b / 3 = z := ⟨_, rfl⟩
  have da : (a : Int) / 3 = (a3 : Int) := by omega
  have db : (b : Int) / 3 = (b3 : Int) := by omega
  have hl3 : a3 ≤ 2 ∧ b3 ≤ 2 := by omega
  rw [ha3, hb3] at q2 q2'
  have HB0 := Lib.hid (bal (Below.refl w.heap.size w) (.cells #[.int .i64 (d : Int), .int .i64 (c : Int)] 73))
  have hnw := new_at w (.cells #[.int .i64 (d : Int), .int .i64 (c : Int)] 73)
  have e0 := cell_of hnw 0 rfl
  clear ha3 hb3 hnw
  go_enter Try.func76, Try.ntmps76
  go_wp2
  clear e0
  generalize w.alloc (.cells #[.int .i64 (d : Int), .int .i64 (c : Int)] 73) = V at *
  go_loopw [1, 2, 7, 8, 11] (fun va vb vo vp vi wr => V = wr ∧ ((vi = .int .i64 0 ∧ va = .int .i64 (a : Int) ∧ vb = .int .i64 (b : Int) ∧ vo = .int .i64 0 ∧ vp = .int .i64 1) ∨ (vi = .int .i64 1 ∧ va = .int .i64 (a3 : Int) ∧ vb = .int .i64 (b3 : Int) ∧ vo = .int .i64 (t1 : Int) ∧ vp = .int .i64 3) ∨ (d = 2 ∧ vi = .int .i64 2 ∧ (∃ x y : Int, va = .int .i64 x ∧ vb = .int .i64 y) ∧ vo = .int .i64 ((t1 + t2 * 3 : Nat) : Int) ∧ vp = .int .i64 9))) (fun _ _ _ _ vi _ => 2 - (intOf vi).toNat)
  case atStart => exact ⟨rfl, .inl ⟨rfl, rfl, rfl, rfl, rfl⟩⟩
  case round =>
    obtain ⟨rfl, h⟩ := hrel
    rcases h with ⟨rfl, rfl, rfl, rfl, rfl⟩ | ⟨rfl, rfl, rfl, rfl, rfl⟩ | ⟨rfl, rfl, ⟨x, y, rfl, rfl⟩, rfl, rfl⟩
    · have hlt : decide ((0 : Int) < (d : Int)) = true := by simp; omega
      go_wp2
      exact ⟨⟨trivial, .inr (.inl ⟨rfl, rfl, rfl, rfl, rfl⟩)⟩, by simp [intOf]⟩
    · rcases hd with rfl | rfl
      · go_wp2
        go_ret
        exact ⟨by rw [HF.out]; rfl, HB0.out⟩
      · go_wp2
        exact ⟨⟨trivial, .inr (.inr ⟨by first | trivial | rfl, by first | trivial | rfl, ⟨_, _, rfl, rfl⟩, by first | rfl | (congr 1; omega) | (simp; omega), rfl⟩)⟩, by simp [intOf]⟩
    · go_wp2
      go_ret
      exact ⟨by rw [HF.out]; rfl, HB0.out⟩
/-! ### read -/
def pow3 (d : Nat) : Nat := 3 ^ d
theorem crd1_go (w : World) (kb d c : Nat) (z : Int) (hb : w.heap[kb]? = some (.cells #[.int .i64 (d : Int), .int .i64 (c : Int)] 73 (0, 0))) :
    Calls Try.prog 88 #[.int .i64 z, .pointer (some ⟨kb, 0, none⟩)] w fun e w' => e = .returned (.bool (!inB c z)) ∧ w = w' := by
  have e1 := cell_of hb 1 rfl
  have z1 := lt_of_block hb
  clear hb
  by_cases h1 : z < 0
  · have d1 : decide (z < 0) = true := by simpa using h1
    have hi : (!inB c z) = true := by unfold inB; simp; omega
    rw [hi]
    clear h1 hi
    go_enter Try.func88, Try.ntmps88
    go_wp2
    go_ret
    exact ⟨rfl, rfl⟩
  · have d1 : decide (z < 0) = false := by simpa using h1
    have hi : (!inB c z) = decide ((c : Int) ≤ z) := by unfold inB; rw [show decide (0 ≤ z) = true by simp; omega]; simp [← Int.not_lt]
    rw [hi]
    clear h1 hi
    go_enter Try.func88, Try.ntmps88
    go_wp2
    go_ret
    exact ⟨rfl, rfl⟩
theorem cf_crd1 (args : Array Value) (w : World) : (callFunc 88 args).run Try.prog w = .ok (.enter 88 args) w := by kernel_rfl
set_option maxHeartbeats 1000000 in
theorem crdidx_go (w : World) (a : Option Addr) (n cap : Nat) (l : List Int) (hs : Sl w a n cap l) (kb d c : Nat) (hb : w.heap[kb]? = some (.cells #[.int .i64 (d : Int), .int .i64 (c : Int)] 73 (0, 0))) :
    Calls Try.prog 84 #[.slice a n cap, .func (Fn.func 88) #[] #[.pointer (some ⟨kb, 0, none⟩)]] w fun e w' => (∃ i : Int, e = .returned (.int .i64 i) ∧ decide (0 ≤ i) = !(l.all (inB c))) ∧ w = w' := by
  have hcf := cf_crd1
  have hlen := hs.len
  have hcap : n ≤ cap ∧ cap ≤ maxLen := ⟨hs.2.1, hs.2.2.1⟩
  unfold maxLen at hcap
  have HS := Lib.hid hs
  have HC := Lib.hid (fun z => crd1_go w kb d c z hb)
  have HL := Lib.hid hlen
  clear hs hb hlen
  go_enter Try.func84, Try.ntmps84
  go_wp2
  go_loopw [8] (fun v wr => ∃ j : Nat, j ≤ n ∧ v = .int .i64 j ∧ Hid (∀ i, i < j → inB c (nth l i) = true) ∧ w = wr) (fun v _ => n - (intOf v).toNat)
  case atStart => exact ⟨0, by omega, rfl, Lib.hid (fun i hi => by omega), rfl⟩
  case round =>
    obtain ⟨j, hj, rfl, HI, rfl⟩ := hrel
    by_cases hjn : j < n
    · obtain ⟨b, off, rfl, hbl, hc, _⟩ := sl_at HS.out (by omega)
      have e1 := hc j hjn
      have HX := Lib.hid (show nth l j ∈ l by rw [nth_of_lt (by rw [HL.out]; exact hjn)]; exact List.getElem_mem _)
      obtain ⟨z, hz⟩ : ∃ z, nth l j = z := ⟨_, rfl⟩
      have HZ := Lib.hid hz
      rw [hz] at e1 HX
      clear hc hz
      go_wp2_with fail
      refine (HC.out z).mono ?_
      rintro e w' ⟨rfl, rfl⟩
      cases hin : inB c z with
      | true =>
        have HI2 := Lib.hid (show ∀ i, i < j + 1 → inB c (nth l i) = true from fun i hi => by
          by_cases e : i = j
          · subst e; rw [HZ.out]; exact hin
          · exact HI.out i (by omega))
        go_wp2
        go_roundw
        case rel => go_light; first | exact ⟨j + 1, by omega, by go_num, HI2, by trivial⟩ | exact ⟨j + 1, by omega, by go_num, HI2⟩
        case measure => simp [intOf]; omega
      | false =>
        have HN := Lib.hid (show (l.all (inB c)) = false by rw [List.all_eq_false]; exact ⟨z, HX.out, by rw [hin]; decide⟩)
        go_wp2
        go_ret
        exact ⟨⟨_, rfl, by rw [HN.out]; simp⟩, rfl⟩
    · obtain rfl : j = n := by omega
      have HN := Lib.hid (show (l.all (inB c)) = true by
        rw [List.all_eq_true]
        intro z hz
        obtain ⟨i, hi, rfl⟩ := List.getElem_of_mem hz
        have := HI.out i (by rw [← HL.out]; exact hi)
        rwa [nth_of_lt hi] at this)
      go_wp2
      go_ret
      exact ⟨⟨_, rfl, by rw [HN.out]; decide⟩, rfl⟩
set_option maxHeartbeats 1000000 in
theorem crdcf_go (w : World) (a : Option Addr) (n cap : Nat) (l : List Int) (hs : Sl w a n cap l) (kb d c : Nat) (hb : w.heap[kb]? = some (.cells #[.int .i64 (d : Int), .int .i64 (c : Int)] 73 (0, 0))) :
    Calls Try.prog 71 #[.slice a n cap, .func (Fn.func 88) #[] #[.pointer (some ⟨kb, 0, none⟩)]] w fun e w' => e = .returned (.bool (!(l.all (inB c)))) ∧ w = w' := by
  have HC := Lib.hid (crdidx_go w a n cap l hs kb d c hb)
  clear hs hb
  go_enter Try.func71, Try.ntmps71
  go_wp2_with fail
  refine HC.out.mono ?_
  rintro e w' ⟨⟨i, rfl, hd⟩, rfl⟩
  have HD := Lib.hid hd
  clear hd
  go_wp2
  go_ret
  exact ⟨by show Ending.returned (.bool (decide (0 ≤ i))) = _; rw [HD.out], rfl⟩
end Go.Proofs.Ytiapngmallfelaa
