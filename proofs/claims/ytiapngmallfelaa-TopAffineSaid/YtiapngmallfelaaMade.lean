
/- Walk: made, with whatever function tells which nodes are neighbours. -/
import Derived.Test.YtiapngmallfelaaOther
import Derived.BigRegion
namespace Go.Proofs.Ytiapngmallfelaa
open Go.RowKit

/-- The set of the numbers below n of which p holds. -/
def setTo (p : Nat → Bool) : Nat → Nat
  | 0 => 0
  | n + 1 => if p n then setTo p n ||| 2 ^ n else setTo p n
theorem setTo_bit (p : Nat → Bool) : ∀ n j, (setTo p n).testBit j = (decide (j < n) && p j) := by
  intro n; induction n with
  | zero => intro j; simp [setTo]
  | succ n ih =>
    intro j
    by_cases e : j = n
    · subst e
      cases hp : p j with
      | true => simp [setTo, hp, Nat.testBit_or, ih]
      | false => simp [setTo, hp, ih]
    · have h2 : decide (j < n + 1) = decide (j < n) := by simp; omega
      rw [h2]
      cases hp : p n with
      | true =>
        have h3 : decide (n = j) = false := by simp; omega
        simp [setTo, hp, Nat.testBit_or, ih, Nat.testBit_two_pow, h3]
      | false => simp [setTo, hp, ih]
theorem setTo_lt (p : Nat → Bool) (n : Nat) : setTo p n < 2 ^ n := by
  apply Nat.lt_pow_two_of_testBit
  intro i hi
  rw [setTo_bit]
  have : ¬ i < n := by omega
  simp [this]
/-- The sets that have been made when row i has come to place j. -/
def madeSt (n : Nat) (near : Nat → Nat → Bool) (i j : Nat) : List Nat :=
  (List.range n).map fun r => if r < i then setTo (fun q => decide (r ≠ q) && near r q) n else if r = i then setTo (fun q => decide (r ≠ q) && near r q) j else 0
def madeL (n : Nat) (near : Nat → Nat → Bool) : List Nat := (List.range n).map fun r => setTo (fun q => decide (r ≠ q) && near r q) n

theorem madeSt_start (n : Nat) (near : Nat → Nat → Bool) : madeSt n near 0 0 = List.replicate n 0 := by
  apply List.ext_getElem
  · simp [madeSt]
  · intro i h1 h2; simp [madeSt, setTo]
theorem madeSt_end (n : Nat) (near : Nat → Nat → Bool) : madeSt n near n 0 = madeL n near := by
  refine List.map_congr_left fun r hr => ?_
  rw [if_pos (List.mem_range.1 hr)]
theorem madeSt_row (n : Nat) (near : Nat → Nat → Bool) (i : Nat) : madeSt n near i n = madeSt n near (i + 1) 0 := by
  refine List.map_congr_left fun r hr => ?_
  by_cases h : r < i
  · rw [if_pos h, if_pos (by omega)]
  · by_cases e : r = i
    · subst e; rw [if_neg h, if_pos rfl, if_pos (by omega)]
    · rw [if_neg h, if_neg e, if_neg (by omega)]; simp [setTo]
theorem madeSt_gn {n : Nat} {near : Nat → Nat → Bool} {i j : Nat} (hi : i < n) : gn (madeSt n near i j) i = setTo (fun q => decide (i ≠ q) && near i q) j := by simp [gn, madeSt, hi]
theorem madeSt_hit {n : Nat} {near : Nat → Nat → Bool} {i j : Nat} (h : i ≠ j ∧ near i j = true) : madeSt n near i (j + 1) = (madeSt n near i j).set i (setTo (fun q => decide (i ≠ q) && near i q) j ||| 2 ^ j) := by
  apply List.ext_getElem
  · simp [madeSt]
  · intro r h1 h2
    rw [List.getElem_set]
    simp only [madeSt, List.getElem_map, List.getElem_range]
    by_cases e : r = i
    · subst e; simp [setTo, h.1, h.2]
    · rw [if_neg (show ¬ i = r from fun h => e h.symm)]; simp [e]
theorem madeSt_miss {n : Nat} {near : Nat → Nat → Bool} {i j : Nat} (h : ¬ (i ≠ j ∧ near i j = true)) : madeSt n near i (j + 1) = madeSt n near i j := by
  refine List.map_congr_left fun r hr => ?_
  by_cases e : r = i
  · subst e
    have : (decide (r ≠ j) && near r j) = false := by
      cases e1 : near r j <;> simp [e1] at h ⊢ <;> omega
    simp only [setTo, this]; simp
  · simp [e]

theorem own_mono {w w' : World} {base e size n : Nat} {v : Value} {xs : List Value} (h : w.ownsRow base e size v n xs) (hb : Below w.heap.size w w') : w'.ownsRow base e size v n xs :=
  h.kept (row := none) ⟨hb.os, hb.tape, hb.output, hb.size, fun k hk _ => hb.block k hk⟩ (by cases v.ownBlock <;> simp)
theorem ints_set (G : List Nat) (i x : Nat) : ((ints G).map (Value.int .i64)).set i (.int .i64 (x : Int)) = (ints (G.set i x)).map (Value.int .i64) := by
  simp [ints, List.map_set]
theorem below_store {w w1 : World} {i : Nat} (h : Below w.heap.size w w1) (v : Value) : Below w.heap.size w (w1.setCell ⟨w.heap.size, i, none⟩ v) := h.setCell (Nat.le_refl _) v

set_option maxHeartbeats 1000000 in
theorem made_go (w : World) (n : Nat) (hn : n ≤ 16) (f : FuncId) (caps : Array Value) (near : Nat → Nat → Bool) (hcf : ∀ (args : Array Value) (w : World), (callFunc f args).run Try.prog w = .ok (.enter f args) w)
    (hcall : ∀ (w' : World) (i j : Nat), Below w.heap.size w w' → i < n → j < n → Calls Try.prog f (#[.int .i64 i, .int .i64 j] ++ caps) w' fun e w'' => e = .returned (.bool (near i j)) ∧ Below w'.heap.size w' w'') :
    Calls Try.prog 36 #[.int .i64 n, .func (Fn.func f) #[] caps] w (GivesSl w (ints (madeL n near))) := by
  obtain ⟨i0, hi, hz0, hz1, hz2⟩ := info_parts infoInt
  have HC := Lib.hid hcall
  clear hcall
  go_enter Try.func36, Try.ntmps36
  go_wp2_with (refine wpList_make_full w rfl _ _ 22 rfl w.heap.size 3 i0 (.int .i64 0) 1 Try.underlying22 hi hz0 hz1 .i64 .i64 n n n rfl rfl rfl rfl (by rw [hz2]; omega) (by unfold maxLen; omega) (Nat.le_refl _) ?_; intro w1 hown1 hgrow1)
  have hB1 : Below w.heap.size w w1 := (Below.refl _ _).grown hgrow1 (Nat.le_refl _) (fun _ h => by cases h)
  rw [show (Value.int .i64 0).cells = #[Value.int .i64 0] from rfl, toList_madeCells_one, Nat.mul_one] at hown1
  have hown : w1.ownsRow w.heap.size 3 1 (.slice (some ⟨w.heap.size, 0, none⟩) n n) n ((ints (madeSt n near 0 0)).map (Value.int .i64)) := by
    rw [madeSt_start]; simpa [ints] using hown1
  clear hown1 hgrow1
  go_loopw [11] (fun i wr => ∃ k : Nat, k ≤ n ∧ i = .int .i64 k ∧ wr.ownsRow w.heap.size 3 1 (.slice (some ⟨w.heap.size, 0, none⟩) n n) n ((ints (madeSt n near k 0)).map (Value.int .i64)) ∧ Below w.heap.size w wr) (fun i _ => n - (intOf i).toNat)
  case atStart => exact ⟨0, by omega, rfl, hown, hB1⟩
  case round =>
    clear hown hB1
    obtain ⟨k, hk, rfl, hown, hbw⟩ := hrel
    by_cases hlt : k < n
    · go_wp2
      obtain ⟨w2, rfl⟩ : ∃ w2 : World, w2 = wr := ⟨_, rfl⟩
      go_loopw [15] (fun j wr => ∃ q : Nat, q ≤ n ∧ j = .int .i64 q ∧ wr.ownsRow w.heap.size 3 1 (.slice (some ⟨w.heap.size, 0, none⟩) n n) n ((ints (madeSt n near k q)).map (Value.int .i64)) ∧ Below w.heap.size w wr) (fun j _ => n - (intOf j).toNat)
      case atStart => exact ⟨0, by omega, rfl, hown, hbw⟩
      case round =>
        clear hown hbw
        obtain ⟨q, hq, rfl, hown, hbw⟩ := hrel
        by_cases hlq : q < n
        · by_cases hkq : k = q
          · have tk : ((k : Int) != (q : Int)) = false := by rw [hkq]; simp
            have HKQ := Lib.hid hkq
            clear hkq
            go_wp2
            go_roundw
            case rel => exact ⟨q + 1, by omega, by go_num, by rw [madeSt_miss (fun h => h.1 HKQ.out)]; exact hown, hbw⟩
            case measure => simp [intOf]; omega
          · have tk : ((k : Int) != (q : Int)) = true := by simp; omega
            go_wp2_with fail
            refine (HC.out _ k q hbw hlt hlq).mono ?_
            rintro e w3 ⟨rfl, hb3⟩
            have hown3 := own_mono hown hb3
            have hbw3 := btr hbw hb3
            clear hown hbw hb3
            cases hnear : near k q with
            | false =>
              go_wp2
              go_roundw
              case rel => exact ⟨q + 1, by omega, by go_num, by rw [madeSt_miss (fun h => by rw [hnear] at h; cases h.2)]; exact hown3, hbw3⟩
              case measure => simp [intOf]; omega
            | true =>
              have hgk : gn (madeSt n near k q) k = setTo (fun r => decide (k ≠ r) && near k r) q := madeSt_gn hlt
              have hs : setTo (fun r => decide (k ≠ r) && near k r) q < 2 ^ q := setTo_lt _ _
              have hp := pow16 (show q < 16 by omega)
              have hcell : w3.cell? ⟨w.heap.size, k, none⟩ = some (.int .i64 (gn (madeSt n near k q) k)) := by
                rw [hown3.cellAt k (by omega), List.getElem?_map, List.getElem?_eq_getElem (by rw [ints_length]; simp [madeSt]; omega)]
                rw [← nth_ints, nth_of_lt (by rw [ints_length]; simp [madeSt]; omega)]; rfl
              rw [hgk] at hcell
              have hfr := hown3.frozenAt k
              have hor := i64_or_nat (setTo (fun r => decide (k ≠ r) && near k r) q) (2 ^ q) (by omega) (by omega)
              rw [pow_cast] at hor
              have hwq := wrap_pow (show q ≤ 16 by omega)
              have w3q : IntKind.i64.wrap (2 ^ q) = 2 ^ q := by rw [IntWalk.i64_left]; exact hwq
              have HST := Lib.hid (madeSt_hit (n := n) (near := near) (i := k) (j := q) ⟨hkq, hnear⟩)
              clear hgk hs
              generalize setTo (fun r => decide (k ≠ r) && near k r) q = sv at *
              go_wp2
              go_region
              go_wp2
              go_roundw
              case rel =>
                refine ⟨q + 1, by omega, by go_num, ?_, below_store hbw3.drew _⟩
                rw [HST.out, ← ints_set]
                exact (hown3.drew.stored k _).1
              case measure => simp [intOf]; omega
        · obtain rfl : q = n := by omega
          go_wp2
          go_roundw
          case rel => exact ⟨k + 1, by omega, by go_num, by rw [← madeSt_row]; exact hown, hbw⟩
          case measure => simp [intOf]; omega
    · obtain rfl : k = n := by omega
      go_wp2
      go_ret
      rw [madeSt_end] at hown
      exact own_gives hown hbw
end Go.Proofs.Ytiapngmallfelaa
