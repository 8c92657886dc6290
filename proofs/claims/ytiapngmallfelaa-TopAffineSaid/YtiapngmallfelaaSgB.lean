/- Walks: signs: made, Times. -/
import Derived.Test.YtiapngmallfelaaSgA
namespace Go.Proofs.Ytiapngmallfelaa
open Go.RowKit

/-- The sets that have been made when row i has come to place j. -/
def mdSt (n : Nat) (near : Nat → Nat → Bool) (i j : Nat) : List Nat :=
  (List.range n).map fun r => if r < i then setTo (fun q => near r q) n else if r = i then setTo (fun q => near r q) j else 0
def mdL (n : Nat) (near : Nat → Nat → Bool) : List Nat := (List.range n).map fun r => setTo (fun q => near r q) n

theorem mdSt_start (n : Nat) (near : Nat → Nat → Bool) : mdSt n near 0 0 = List.replicate n 0 := by
  apply List.ext_getElem
  · simp [mdSt]
  · intro i h1 h2; simp [mdSt, setTo]
theorem mdSt_end (n : Nat) (near : Nat → Nat → Bool) : mdSt n near n 0 = mdL n near := by
  refine List.map_congr_left fun r hr => ?_
  rw [if_pos (List.mem_range.1 hr)]
theorem mdSt_row (n : Nat) (near : Nat → Nat → Bool) (i : Nat) : mdSt n near i n = mdSt n near (i + 1) 0 := by
  refine List.map_congr_left fun r hr => ?_
  by_cases h : r < i
  · rw [if_pos h, if_pos (by omega)]
  · by_cases e : r = i
    · subst e; rw [if_neg h, if_pos rfl, if_pos (by omega)]
    · rw [if_neg h, if_neg e, if_neg (by omega)]; simp [setTo]
theorem mdSt_gn {n : Nat} {near : Nat → Nat → Bool} {i j : Nat} (hi : i < n) : gn (mdSt n near i j) i = setTo (fun q => near i q) j := by simp [gn, mdSt, hi]
theorem mdSt_hit {n : Nat} {near : Nat → Nat → Bool} {i j : Nat} (h : near i j = true) : mdSt n near i (j + 1) = (mdSt n near i j).set i (setTo (fun q => near i q) j ||| 2 ^ j) := by
  apply List.ext_getElem
  · simp [mdSt]
  · intro r h1 h2
    rw [List.getElem_set]
    simp only [mdSt, List.getElem_map, List.getElem_range]
    by_cases e : r = i
    · subst e; simp [setTo, h]
    · rw [if_neg (show ¬ i = r from fun h => e h.symm)]; simp [e]
theorem mdSt_miss {n : Nat} {near : Nat → Nat → Bool} {i j : Nat} (h : near i j = false) : mdSt n near i (j + 1) = mdSt n near i j := by
  refine List.map_congr_left fun r hr => ?_
  by_cases e : r = i
  · subst e
    simp only [setTo, h]; simp
  · simp [e]

set_option maxHeartbeats 1000000 in
theorem smade_go (w : World) (n : Nat) (hn : n ≤ 16) (f : FuncId) (caps : Array Value) (near : Nat → Nat → Bool) (hcf : ∀ (args : Array Value) (w : World), (callFunc f args).run Try.prog w = .ok (.enter f args) w)
    (hcall : ∀ (w' : World) (i j : Nat), Below w.heap.size w w' → i < n → j < n → Calls Try.prog f (#[.int .i64 i, .int .i64 j] ++ caps) w' fun e w'' => e = .returned (.bool (near i j)) ∧ Below w'.heap.size w' w'') :
    Calls Try.prog 31 #[.int .i64 n, .func (Fn.func f) #[] caps] w (GivesSl w (ints (mdL n near))) := by
  obtain ⟨i0, hi, hz0, hz1, hz2⟩ := info_parts infoInt
  have HC := Lib.hid hcall
  clear hcall
  go_enter Try.func31, Try.ntmps31
  go_wp2_with (refine wpList_make_full w rfl _ _ 54 rfl w.heap.size 3 i0 (.int .i64 0) 1 Try.underlying54 hi hz0 hz1 .i64 .i64 n n n rfl rfl rfl rfl (by rw [hz2]; omega) (by unfold maxLen; omega) (Nat.le_refl _) ?_; intro w1 hown1 hgrow1)
  have hB1 : Below w.heap.size w w1 := (Below.refl _ _).grown hgrow1 (Nat.le_refl _) (fun _ h => by cases h)
  rw [show (Value.int .i64 0).cells = #[Value.int .i64 0] from rfl, toList_madeCells_one, Nat.mul_one] at hown1
  have hown : w1.ownsRow w.heap.size 3 1 (.slice (some ⟨w.heap.size, 0, none⟩) n n) n ((ints (mdSt n near 0 0)).map (Value.int .i64)) := by
    rw [mdSt_start]; simpa [ints] using hown1
  clear hown1 hgrow1
  go_loopw [11] (fun i wr => ∃ k : Nat, k ≤ n ∧ i = .int .i64 k ∧ wr.ownsRow w.heap.size 3 1 (.slice (some ⟨w.heap.size, 0, none⟩) n n) n ((ints (mdSt n near k 0)).map (Value.int .i64)) ∧ Below w.heap.size w wr) (fun i _ => n - (intOf i).toNat)
  case atStart => exact ⟨0, by omega, rfl, hown, hB1⟩
  case round =>
    clear hown hB1
    obtain ⟨k, hk, rfl, hown, hbw⟩ := hrel
    by_cases hlt : k < n
    · go_wp2
      obtain ⟨w2, rfl⟩ : ∃ w2 : World, w2 = wr := ⟨_, rfl⟩
      go_loopw [15] (fun j wr => ∃ q : Nat, q ≤ n ∧ j = .int .i64 q ∧ wr.ownsRow w.heap.size 3 1 (.slice (some ⟨w.heap.size, 0, none⟩) n n) n ((ints (mdSt n near k q)).map (Value.int .i64)) ∧ Below w.heap.size w wr) (fun j _ => n - (intOf j).toNat)
      case atStart => exact ⟨0, by omega, rfl, hown, hbw⟩
      case round =>
        clear hown hbw
        obtain ⟨q, hq, rfl, hown, hbw⟩ := hrel
        by_cases hlq : q < n
        · go_wp2_with fail
          refine (HC.out _ k q hbw hlt hlq).mono ?_
          rintro e w3 ⟨rfl, hb3⟩
          have hown3 := own_mono hown hb3
          have hbw3 := btr hbw hb3
          clear hown hbw hb3
          cases hnear : near k q with
          | false =>
            go_wp2
            go_roundw
            case rel => exact ⟨q + 1, by omega, by go_num, by rw [mdSt_miss hnear]; exact hown3, hbw3⟩
            case measure => simp [intOf]; omega
          | true =>
            have hgk : gn (mdSt n near k q) k = setTo (fun r => near k r) q := mdSt_gn hlt
            have hs : setTo (fun r => near k r) q < 2 ^ q := setTo_lt _ _
            have hp := pow16 (show q < 16 by omega)
            have hcell : w3.cell? ⟨w.heap.size, k, none⟩ = some (.int .i64 (gn (mdSt n near k q) k)) := by
              rw [hown3.cellAt k (by omega), List.getElem?_map, List.getElem?_eq_getElem (by rw [ints_length]; simp [mdSt]; omega)]
              rw [← nth_ints, nth_of_lt (by rw [ints_length]; simp [mdSt]; omega)]; rfl
            rw [hgk] at hcell
            have hfr := hown3.frozenAt k
            have hor := i64_or_nat (setTo (fun r => near k r) q) (2 ^ q) (by omega) (by omega)
            rw [pow_cast] at hor
            have hwq := wrap_pow (show q ≤ 16 by omega)
            have w3q : IntKind.i64.wrap (2 ^ q) = 2 ^ q := by rw [IntWalk.i64_left]; exact hwq
            have HST := Lib.hid (mdSt_hit (n := n) (near := near) (i := k) (j := q) hnear)
            clear hgk hs
            generalize setTo (fun r => near k r) q = sv at *
            go_wp2
            go_region
            go_wp2
            go_roundw
            case rel =>
              refine ⟨q + 1, by omega, by go_num, ?_, below_store hbw3.drew _⟩
              rw [HST.out, ← ints_set]
              exact (hown3.drew.stored k _).1
            case measure => simp [intOf]; omega
        · obtain rfl : q = n := by omega
          go_wp2
          go_roundw
          case rel => exact ⟨k + 1, by omega, by go_num, by rw [← mdSt_row]; exact hown, hbw⟩
          case measure => simp [intOf]; omega
    · obtain rfl : k = n := by omega
      go_wp2
      go_ret
      rw [mdSt_end] at hown
      exact own_gives hown hbw
end Go.Proofs.Ytiapngmallfelaa
