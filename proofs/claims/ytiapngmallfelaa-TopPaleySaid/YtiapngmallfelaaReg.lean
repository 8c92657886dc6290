/- Walks: regular, ties. -/
import Derived.Test.YtiapngmallfelaaSgT
namespace Go.Proofs.Ytiapngmallfelaa
open Go.RowKit

set_option maxHeartbeats 400000 in
theorem ties_go (w : World) :
    Calls Try.prog 8 #[] w fun e w' => e = .returned (.bool true) ∧ Below w.heap.size w w' := by
  go_enter Try.func8, Try.ntmps8
  go_wp2_with fail
  refine (read_num _ _ _ _ [18, 5, 10, 20, 9] (sl_five w) vld5 num5).mono ?_
  rintro e w1 ⟨rfl, hb⟩
  have hB := btr (bal (Below.refl _ _) _) hb
  go_wp2
  go_ret
  exact ⟨rfl, bal hB _⟩

/-- What regular tells. -/
def RegPost (w : World) (_l : List Int) (e : Ending) (w' : World) : Prop :=
  (∃ q, q ∈ perm4 ∧ ∃ a n cap, e = .returned (.tuple #[.slice a n cap, .bool true]) ∧ w'.ownsRow w.heap.size 3 1 (.slice a n cap) n ((ints (q.map fun x => 2 ^ x)).map (Value.int .i64)) ∧ Below w.heap.size w w') ∨
  ((∃ v, e = .returned (.tuple #[v, .bool false])) ∧ Below w.heap.size w w')

set_option maxRecDepth 100000 in
set_option maxHeartbeats 1000000 in
theorem regular_go (w : World) (a : Option Addr) (n cap : Nat) (l : List Int) (hs : Sl w a n cap l) :
    Calls Try.prog 7 #[.slice a n cap] w (RegPost w l) := by
  obtain ⟨i0, hi, hz0, hz1, hz2⟩ := info_parts infoInt
  go_enter Try.func7, Try.ntmps7
  rcases hs.parts with ⟨_, rfl, rfl⟩ | ⟨b, off, rfl, hs2⟩
  · go_wp2
    go_loopw [10, 4, 5] (fun t m h wr => t = .int .i64 (0 : Nat) ∧ h = .slice none 0 0 ∧ m = .int .i64 0 ∧ Below w.heap.size w wr) (fun _ _ _ _ => 1)
    case atStart => exact ⟨rfl, rfl, rfl, Below.refl _ _⟩
    case round =>
      obtain ⟨rfl, rfl, rfl, hB⟩ := hrel
      go_wp2
      go_ret2
      exact .inr ⟨⟨_, rfl⟩, hB⟩
  · have hpl : cap ≤ maxLen := hs2.2.2.1
    have hnp : n ≤ cap := hs2.2.1
    have hll := hs2.len
    unfold maxLen at hpl
    have HS := Lib.hid hs2
    clear hs hs2
    go_wp2
    go_loopw [10, 4, 5] (fun t m h wr => ∃ q : List Nat, q.length ≤ n ∧ t = .int .i64 ((q.length : Nat) : Int) ∧ m = .int .i64 ((metL q : Nat) : Int) ∧ Hid (l.take q.length = ints q) ∧ Hid (∀ x ∈ q, x < 4) ∧ Hid (pop (metL q) = q.length) ∧ metL q < 16 ∧ wr.ownsRow w.heap.size 3 1 h q.length ((ints (q.map fun x => 2 ^ x)).map (Value.int .i64)) ∧ Below w.heap.size w wr) (fun t _ _ _ => n - (intOf t).toNat)
    case atStart => exact ⟨[], by simp, rfl, rfl, Lib.hid rfl, Lib.hid (by simp), Lib.hid (by decide), by decide, World.ownsRow_nil _ _ _ _, Below.refl _ _⟩
    case round =>
      obtain ⟨q, hk, rfl, rfl, HT, H4, HP, h16, hown, hB⟩ := hrel
      have hk4 : q.length ≤ 4 := by
        have := met_small
        rw [List.all_eq_true] at this
        have := this (metL q) (List.mem_range.2 h16)
        rw [decide_eq_true_eq, HP.out] at this
        exact this
      obtain ⟨M, hM⟩ : ∃ M, metL q = M := ⟨_, rfl⟩
      have HM := Lib.hid hM
      rw [hM] at h16
      rw [hM]
      clear hM
      generalize hkk : q.length = k at *
      have HK := Lib.hid hkk
      clear hkk
      by_cases hl : k < n
      · obtain ⟨hbz, hcell⟩ := (HS.out.mono hB).cells (by omega)
        have hc := hcell k hl
        clear hcell
        obtain ⟨x, hx⟩ : ∃ x, nth l k = x := ⟨_, rfl⟩
        have HX := Lib.hid hx
        rw [hx] at hc
        clear hx
        by_cases x0 : x < 0
        · go_wp2
          go_ret2
          exact .inr ⟨⟨_, rfl⟩, hB⟩
        · by_cases x3 : 3 < x
          · go_wp2
            go_ret2
            exact .inr ⟨⟨_, rfl⟩, hB⟩
          · obtain ⟨y, rfl⟩ : ∃ y : Nat, x = y := ⟨x.toNat, by omega⟩
            have y4 : y < 4 := by omega
            have hbit := bits_bt M y (by omega)
            cases hb : M.testBit y with
            | true =>
              have t1 : ((bt M y : Int) == 1) = true := by rw [bt_test, hb]; rfl
              go_wp2
              go_ret2
              exact .inr ⟨⟨_, rfl⟩, hB⟩
            | false =>
              have t1 : ((bt M y : Int) == 1) = false := by rw [bt_test, hb]; rfl
              have hst := met_step
              rw [List.all_eq_true] at hst
              have hst := hst M (List.mem_range.2 h16)
              rw [List.all_eq_true] at hst
              have hst := hst y (List.mem_range.2 y4)
              rw [hb, Bool.false_or, Bool.and_eq_true, beq_iff_eq, decide_eq_true_eq] at hst
              obtain ⟨s1, s2⟩ := hst
              have hp2 := pow16 (show y < 16 by omega)
              have hor := i64_or_nat M (2 ^ y) (by omega) (by omega)
              rw [pow_cast] at hor
              have hwy := wrap_pow (show y ≤ 16 by omega)
              have w3y : IntKind.i64.wrap (2 ^ y) = 2 ^ y := by rw [IntWalk.i64_left]; exact hwy
              have HT2 : Hid (l.take (k + 1) = ints (q ++ [y])) := Lib.hid (by
                have hl2 : k < l.length := by omega
                rw [List.take_succ_eq_append_getElem hl2, HT.out, ints_append, ints_one, ← HX.out, nth_of_lt hl2])
              have H42 : Hid (∀ x ∈ q ++ [y], x < 4) := Lib.hid (fun z hz => by
                rw [List.mem_append, List.mem_singleton] at hz
                rcases hz with hz | rfl
                · exact H4.out z hz
                · exact y4)
              have HM2 := Lib.hid (show metL (q ++ [y]) = M ||| 2 ^ y by rw [metL_snoc, HM.out])
              have HP2 : Hid (pop (metL (q ++ [y])) = k + 1) := Lib.hid (by rw [HM2.out, s1, ← HM.out, HP.out])
              clear hb s1
              have hsz := hB.size
              go_wp2_with (at_builtin; refine wpList_append_own _ rfl _ _ 22 rfl w.heap.size 3 i0 (.int .i64 0) 1 8 Try.underlying22 hi hz0 hz1 hz2 rfl (by decide) u5 k _ rfl (hown.alloc _) ⟨wr.heap.size, 0, none⟩ 1 1 [.int .i64 (2 ^ y)] rfl rfl ?c1 ?c2 ?c3 ?c4 ?c5 ?_)
              case c2 => rfl
              case c3 => unfold maxLen; omega
              case c4 => omega
              case c5 => first | omega | (simp; omega)
              intro v' wn hown' hgrow _
              go_wp2
              go_roundw
              case rel =>
                refine ⟨q ++ [y], by have := HK.out; simp; omega, by simp [HK.out], by rw [HM2.out], by simpa [HK.out] using HT2, H42, by simpa [HK.out] using HP2, by rw [HM2.out]; exact s2, ?_, own_grown hown hB _ hgrow⟩
                simpa [HK.out, ints] using hown'
              case measure => simp [intOf]; omega
      · have hkn : k = n := by omega
        by_cases e4 : k = 4
        · have hq : q ∈ perm4 := perm4_mem (by rw [HK.out]; exact e4) H4.out (by rw [HP.out]; exact e4)
          obtain ⟨a', cap', rfl⟩ := own_form hown
          have E4 := Lib.hid e4
          have t4 : ((k : Int) == 4) = true := by simp; omega
          clear e4 hkn
          go_wp2
          go_ret2
          exact .inl ⟨q, hq, a', k, cap', rfl, hown, hB⟩
        · obtain ⟨a', cap', rfl⟩ := own_form hown
          have t4 : ((k : Int) == 4) = false := by simp; omega
          have hnk : ¬ k < n := hl
          clear hkn
          go_wp2
          go_ret2
          exact .inr ⟨⟨_, rfl⟩, hB⟩
end Go.Proofs.Ytiapngmallfelaa
