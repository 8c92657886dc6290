/- arcs: what read leaves; Contains, ContainsFunc over ints. -/
import Derived.Test.YtiapngmallfelaaFnd
namespace Go.Proofs.Ytiapngmallfelaa
open Go.RowKit
open Go.Maps
set_option linter.unusedSimpArgs false

noncomputable def dM (p : Nat) : Nat → DataW Unit
  | 0 => .map []
  | n + 1 => if 1 ≤ n ∧ isLow (trN p n) = true then (dM p n).put (klT (trN p n)) (.lit (.int .i64 ((ptsTo p n).length : Int))) else dM p n
theorem pts2_len : (ptsP 2).length = 7 := by decide
theorem pts3_len : (ptsP 3).length = 13 := by decide
theorem dM2_at {i : Nat} (h : i < 7) : (dM 2 8).atKey (klT (ptP 2 i)) (.lit (.int .i64 0)) = .lit (.int .i64 (i : Int)) :=
  match i, h with
  | 0, _ => by kernel_rfl
  | 1, _ => by kernel_rfl
  | 2, _ => by kernel_rfl
  | 3, _ => by kernel_rfl
  | 4, _ => by kernel_rfl
  | 5, _ => by kernel_rfl
  | 6, _ => by kernel_rfl
theorem dM3_at {i : Nat} (h : i < 13) : (dM 3 27).atKey (klT (ptP 3 i)) (.lit (.int .i64 0)) = .lit (.int .i64 (i : Int)) :=
  match i, h with
  | 0, _ => by kernel_rfl
  | 1, _ => by kernel_rfl
  | 2, _ => by kernel_rfl
  | 3, _ => by kernel_rfl
  | 4, _ => by kernel_rfl
  | 5, _ => by kernel_rfl
  | 6, _ => by kernel_rfl
  | 7, _ => by kernel_rfl
  | 8, _ => by kernel_rfl
  | 9, _ => by kernel_rfl
  | 10, _ => by kernel_rfl
  | 11, _ => by kernel_rfl
  | 12, _ => by kernel_rfl
theorem pt2_in : ∀ i, i < 7 → In3 3 (ptP 2 i) := by unfold In3; decide
theorem pt3_in : ∀ i, i < 13 → In3 3 (ptP 3 i) := by unfold In3; decide
/-- A plane. -/
def PlaneAt (w : World) (pk p : Nat) : Prop := ∃ pa po cap mb n, w.heap[pk]? = some (.cells #[.int .i64 (p : Int), .slice (some ⟨pa, po, none⟩) (ptsP p).length cap, .map (some mb)] 88 (0, 0)) ∧ ((ptsP p).length ≤ cap ∧ cap ≤ maxLen) ∧ pa < w.heap.size ∧
  (∀ i, i < (ptsP p).length → w.cell? ⟨pa, po + i * 3, none⟩ = some (.int .i64 ((ptP p i).1 : Int)) ∧ w.cell? ⟨pa, po + i * 3 + 1, none⟩ = some (.int .i64 ((ptP p i).2.1 : Int)) ∧ w.cell? ⟨pa, po + i * 3 + 2, none⟩ = some (.int .i64 ((ptP p i).2.2 : Int))) ∧
  w.ownsMap Try.prog 90 (plainElem Try.prog 3) mb n (dM p (p * p * p))
theorem own_map_mono {H : Type} {w w' : World} {k : TypeId} {R : Value → Option (DataW H × List MemPlace)} {b n : Nat} {D : DataW H} (h : w.ownsMap Try.prog k R b n D) (hb : Below w.heap.size w w') : w'.ownsMap Try.prog k R b n D :=
  h.kept (row := none) ⟨hb.os, hb.tape, hb.output, hb.size, fun k hk _ => hb.block k hk⟩ (by simp)
theorem PlaneAt.mono {w w' : World} {pk p : Nat} (h : PlaneAt w pk p) (hb : Below w.heap.size w w') : PlaneAt w' pk p := by
  obtain ⟨pa, po, cap, mb, n, h1, h2, h3, h4, h5⟩ := h
  refine ⟨pa, po, cap, mb, n, persist h1 hb, h2, Nat.lt_of_lt_of_le h3 hb.size, fun i hi => ?_, own_map_mono h5 hb⟩
  obtain ⟨c0, c1, c2⟩ := h4 i hi
  exact ⟨(hb.cell (p := ⟨pa, _, none⟩) h3).trans c0, (hb.cell (p := ⟨pa, _, none⟩) h3).trans c1, (hb.cell (p := ⟨pa, _, none⟩) h3).trans c2⟩
/-! ### Contains -/
set_option maxHeartbeats 1000000 in
theorem index_hit (w : World) (a : Option Addr) (n cap i : Nat) (l : List Int) (x : Int) (hs : Sl w a n cap l) (hn : n ≤ 16) (hi : i < n) (h0 : ∀ j, j < i → x ≠ nth l j) (h1 : x = nth l i) :
    Calls Try.prog 83 #[.slice a n cap, .int .i64 x] w fun e w' => e = .returned (.int .i64 i) ∧ w = w' := by
  obtain ⟨b, off, rfl, hb, hc, hcap⟩ := sl_at hs (by omega)
  unfold maxLen at hcap
  have HC := Lib.hid hc
  have H0 := Lib.hid h0
  have H1 := Lib.hid h1
  clear hs hc h0 h1
  go_enter Try.func83, Try.ntmps83
  go_wp2
  go_loopw [8] (fun v wr => ∃ j : Nat, j ≤ i ∧ v = .int .i64 j ∧ w = wr) (fun v _ => i - (intOf v).toNat)
  case atStart => exact ⟨0, by omega, rfl, rfl⟩
  case round =>
    obtain ⟨j, hj, rfl, rfl⟩ := hrel
    have e1 := HC.out j (by omega)
    by_cases hji : j = i
    · subst hji
      have hx : (x == nth l j) = true := by simpa using H1.out
      clear H0 H1
      generalize nth l j = y at *
      go_wp2
      go_ret
      exact ⟨rfl, rfl⟩
    · have hx : (x == nth l j) = false := by simpa using H0.out j (by omega)
      clear H1
      generalize nth l j = y at *
      go_wp2
      go_roundw
      case rel => go_light; exact ⟨j + 1, by omega, by go_num, by trivial⟩
      case measure => simp [intOf]; omega
set_option maxHeartbeats 1000000 in
theorem contains_hit (w : World) (a : Option Addr) (n cap i : Nat) (l : List Int) (x : Int) (hs : Sl w a n cap l) (hn : n ≤ 16) (hi : i < n) (h0 : ∀ j, j < i → x ≠ nth l j) (h1 : x = nth l i) :
    Calls Try.prog 69 #[.slice a n cap, .int .i64 x] w fun e w' => e = .returned (.bool true) ∧ w = w' := by
  have hd : decide ((0 : Int) ≤ (i : Int)) = true := by simp
  have HC := Lib.hid (index_hit w a n cap i l x hs hn hi h0 h1)
  clear hs h0 h1
  go_enter Try.func69, Try.ntmps69
  go_wp2_with fail
  refine HC.out.mono ?_
  rintro e w' ⟨rfl, rfl⟩
  go_wp2
  go_ret
  exact ⟨rfl, rfl⟩
/-! ### the numbers are of points -/
def inB (K : Nat) (z : Int) : Bool := decide (0 ≤ z) && decide (z < K)
set_option maxHeartbeats 1000000 in
theorem rd1_go (w : World) (bk pk p : Nat) (z : Int) (v m : Value) (K cap : Nat) (a : Option Addr) (hv : v = .slice a K cap) (hb : w.heap[bk]? = some (.cells #[.pointer (some ⟨pk, 0, none⟩)] 66 (0, 0))) (hp : w.heap[pk]? = some (.cells #[.int .i64 (p : Int), v, m] 88 (0, 0))) :
    Calls Try.prog 72 #[.int .i64 z, .pointer (some ⟨bk, 0, none⟩)] w fun e w' => e = .returned (.bool (!inB K z)) ∧ w = w' := by
  subst hv
  have e1 := cell_of hb 0 rfl
  have e2 := cell_of hp 1 rfl
  have z1 := lt_of_block hb
  have z2 := lt_of_block hp
  clear hb hp
  by_cases h1 : z < 0
  · have d1 : decide (z < 0) = true := by simpa using h1
    have hi : (!inB K z) = true := by unfold inB; simp; omega
    rw [hi]
    clear h1 hi
    go_enter Try.func72, Try.ntmps72
    go_wp2
    go_ret
    exact ⟨rfl, rfl⟩
  · have d1 : decide (z < 0) = false := by simpa using h1
    have hi : (!inB K z) = decide ((K : Int) ≤ z) := by unfold inB; rw [show decide (0 ≤ z) = true by simp; omega]; simp [← Int.not_lt]
    rw [hi]
    clear h1 hi
    go_enter Try.func72, Try.ntmps72
    go_wp2
    go_ret
    exact ⟨rfl, rfl⟩
theorem cf_rd1 (args : Array Value) (w : World) : (callFunc 72 args).run Try.prog w = .ok (.enter 72 args) w := by kernel_rfl
set_option maxHeartbeats 1000000 in
theorem rdidx_go (w : World) (a : Option Addr) (n cap : Nat) (l : List Int) (hs : Sl w a n cap l) (bk pk p : Nat) (v m : Value) (K kcap : Nat) (ka : Option Addr) (hv : v = .slice ka K kcap) (hb : w.heap[bk]? = some (.cells #[.pointer (some ⟨pk, 0, none⟩)] 66 (0, 0))) (hp : w.heap[pk]? = some (.cells #[.int .i64 (p : Int), v, m] 88 (0, 0))) :
    Calls Try.prog 84 #[.slice a n cap, .func (Fn.func 72) #[] #[.pointer (some ⟨bk, 0, none⟩)]] w fun e w' => (∃ i : Int, e = .returned (.int .i64 i) ∧ decide (0 ≤ i) = !(l.all (inB K))) ∧ w = w' := by
  have hcf := cf_rd1
  have hlen := hs.len
  have hcap : n ≤ cap ∧ cap ≤ maxLen := ⟨hs.2.1, hs.2.2.1⟩
  unfold maxLen at hcap
  have HS := Lib.hid hs
  have HC := Lib.hid (fun z => rd1_go w bk pk p z v m K kcap ka hv hb hp)
  have HL := Lib.hid hlen
  clear hs hb hp hlen
  go_enter Try.func84, Try.ntmps84
  go_wp2
  go_loopw [8] (fun v wr => ∃ j : Nat, j ≤ n ∧ v = .int .i64 j ∧ Hid (∀ i, i < j → inB K (nth l i) = true) ∧ w = wr) (fun v _ => n - (intOf v).toNat)
  case atStart => exact ⟨0, by omega, rfl, Lib.hid (fun i hi => by omega), rfl⟩
  case round =>
    obtain ⟨j, hj, rfl, HI, rfl⟩ := hrel
    by_cases hjn : j < n
    · obtain ⟨b, off, rfl, hbl, hc, _⟩ := sl_at HS.out (by omega)
      have e1 := hc j hjn
      have HX := Lib.hid (show nth l j ∈ l by rw [nth_of_lt (by rw [HL.out]; exact hjn)]; exact List.getElem_mem _)
      obtain ⟨z, hz⟩ : ∃ z, nth l j = z := ⟨_, rfl⟩
      have HZ := Lib.hid hz
      rw [hz] at e1 HX
      clear hc hz
      go_wp2_with fail
      refine (HC.out z).mono ?_
      rintro e w' ⟨rfl, rfl⟩
      cases hin : inB K z with
      | true =>
        have HI2 := Lib.hid (show ∀ i, i < j + 1 → inB K (nth l i) = true from fun i hi => by
          by_cases e : i = j
          · subst e; rw [HZ.out]; exact hin
          · exact HI.out i (by omega))
        go_wp2
        go_roundw
        case rel => go_light; first | exact ⟨j + 1, by omega, by go_num, HI2, by trivial⟩ | exact ⟨j + 1, by omega, by go_num, HI2⟩
        case measure => simp [intOf]; omega
      | false =>
        have HN := Lib.hid (show (l.all (inB K)) = false by rw [List.all_eq_false]; exact ⟨z, HX.out, by rw [hin]; decide⟩)
        go_wp2
        go_ret
        exact ⟨⟨_, rfl, by rw [HN.out]; simp⟩, rfl⟩
    · obtain rfl : j = n := by omega
      have HN := Lib.hid (show (l.all (inB K)) = true by
        rw [List.all_eq_true]
        intro z hz
        obtain ⟨i, hi, rfl⟩ := List.getElem_of_mem hz
        have := HI.out i (by rw [← HL.out]; exact hi)
        rwa [nth_of_lt hi] at this)
      go_wp2
      go_ret
      exact ⟨⟨_, rfl, by rw [HN.out]; decide⟩, rfl⟩
set_option maxHeartbeats 1000000 in
theorem rdcf_go (w : World) (a : Option Addr) (n cap : Nat) (l : List Int) (hs : Sl w a n cap l) (bk pk p : Nat) (v m : Value) (K kcap : Nat) (ka : Option Addr) (hv : v = .slice ka K kcap) (hb : w.heap[bk]? = some (.cells #[.pointer (some ⟨pk, 0, none⟩)] 66 (0, 0))) (hp : w.heap[pk]? = some (.cells #[.int .i64 (p : Int), v, m] 88 (0, 0))) :
    Calls Try.prog 71 #[.slice a n cap, .func (Fn.func 72) #[] #[.pointer (some ⟨bk, 0, none⟩)]] w fun e w' => e = .returned (.bool (!(l.all (inB K)))) ∧ w = w' := by
  go_enter Try.func71, Try.ntmps71
  go_wp2_with fail
  refine (rdidx_go w a n cap l hs bk pk p v m K kcap ka hv hb hp).mono ?_
  rintro e w' ⟨⟨i, rfl, hd⟩, rfl⟩
  have HD := Lib.hid hd
  clear hd
  go_wp2
  go_ret
  exact ⟨by show Ending.returned (.bool (decide (0 ≤ i))) = _; rw [HD.out], rfl⟩
end Go.Proofs.Ytiapngmallfelaa
