/- Walks: Other, of the reference and of the program. -/
import Derived.Test.YtijnpcehjnaaiaaRead
namespace Go.Proofs.Ytijnpcehjnaaiaa
open Go.RowKit

theorem Sl.drew {w : World} {a : Option Addr} {n cap : Nat} {l : List Int} (h : Sl w a n cap l) : Sl w.drew a n cap l := h

/-! ### Other -/
def full (n : Nat) : Nat := 2 ^ n - 1
def othr (G : List Nat) : List Nat := (List.range G.length).map fun i => andn (andn (full G.length) (gn G i)) (2 ^ i)

theorem full_lt {n : Nat} (h : n ≤ 16) : full n < 65536 := by
  have : 2 ^ n ≤ 2 ^ 16 := Nat.pow_le_pow_right (by omega) h
  have := Nat.one_le_two_pow (n := n)
  unfold full; omega
theorem ints_take {L : List Nat} {k : Nat} (hk : k < L.length) : (ints L).take (k + 1) = (ints L).take k ++ [(gn L k : Int)] := by
  rw [List.take_succ_eq_append_getElem (by rw [ints_length]; exact hk)]; simp [ints, gn, hk]
theorem ints_all {L : List Nat} {k : Nat} (hk : L.length ≤ k) : (ints L).take k = ints L := List.take_of_length_le (by rw [ints_length]; exact hk)
theorem othr_length (G : List Nat) : (othr G).length = G.length := by simp [othr]
theorem othr_gn {G : List Nat} {k : Nat} (hk : k < G.length) : gn (othr G) k = andn (andn (full G.length) (gn G k)) (2 ^ k) := by simp [gn, othr, hk]
theorem own_grown {w wr w1 : World} {e size k : Nat} {v : Value} {xs : List Value} (hown : wr.ownsRow w.heap.size e size v k xs) (hb : Below w.heap.size w wr) (o : Obj) (hg : (wr.alloc o).grownBy w1 v.ownBlock) : Below w.heap.size w w1 :=
  (bal hb o).grown hg (bal hb o).size (fun j hj => (hown.lt j hj).1)
theorem ints_append (A B : List Nat) : ints (A ++ B) = ints A ++ ints B := by simp [ints]
theorem ints_one (x : Nat) : ints [x] = [(x : Int)] := rfl
theorem pow16 {k : Nat} (h : k < 16) : 2 ^ k < 65536 := by
  have : 2 ^ k < 2 ^ 16 := Nat.pow_lt_pow_right (by omega) h
  omega

set_option maxHeartbeats 800000 in
theorem rother_go (w : World) (a : Option Addr) (n cap : Nat) (G : List Nat) (hs : Sl w a n cap (ints G)) (hG : Gr G) :
    Calls Try.prog 23 #[.slice a n cap] w (GivesSl w (ints (othr G))) := by
  have hn : G.length = n := by have := hs.len; rwa [ints_length] at this
  have hn16 : n ≤ 16 := by have := hG.2.1; omega
  rcases hs.parts with ⟨_, rfl, _⟩ | ⟨b, off, rfl, hs2⟩
  · have := hG.1; omega
  have hlt16 := gn_lt hG.small (by omega)
  obtain ⟨hb, hc⟩ := hs2.icells (by have := hG.1; omega)
  have HN := Lib.hid hn
  have hw := wrap_pow hn16
  have hfl := full_lt hn16
  have hfe : (2 : Int) ^ n - 1 = (full n : Int) := by unfold full; rw [Int.natCast_sub Nat.one_le_two_pow]; simp
  have hpm := pow_small hn16
  clear hn hs2
  go_enter Try.func23, Try.ntmps23
  go_wp2
  go_loopw [8, 3] (fun i v wr => ∃ k : Nat, k ≤ n ∧ i = .int .i64 k ∧ wr.ownsRow w.heap.size 3 1 v k (((ints (othr G)).take k).map (Value.int .i64)) ∧ Below w.heap.size w wr) (fun i _ _ => n - (intOf i).toNat)
  case atStart => exact ⟨0, by omega, rfl, World.ownsRow_nil _ _ _ _, Below.refl _ _⟩
  case round =>
    obtain ⟨k, hk, rfl, hown, hbw⟩ := hrel
    by_cases hlt : k < n
    · have hck : wr.cell? ⟨b, off + k, none⟩ = some (.int .i64 (gn G k)) := (hbw.cell hb).trans (hc k hlt)
      have hpk := pow16 (show k < 16 by omega)
      have h1 := i64_andNot_nat (full n) (gn G k) (by omega) (by have := hlt16 k; omega)
      have h2lt : andn (full n) (gn G k) < 65536 := andn_lt (n := 16) hfl
      have h2 := i64_andNot_nat (andn (full n) (gn G k)) (2 ^ k) (by omega) (by omega)
      rw [pow_cast] at h2
      have hwk := wrap_pow (show k ≤ 16 by omega)
      have hsz := hbw.size
      have w1 : IntKind.i64.wrap (2 ^ n) = 2 ^ n := by rw [IntWalk.i64_left]; exact hw
      have w2 : IntKind.i64.wrap (full n : Int) = (full n : Int) := wrap_i64n _ (by omega)
      have w3 : IntKind.i64.wrap (2 ^ k) = 2 ^ k := by rw [IntWalk.i64_left]; exact hwk
      go_wp2
      go_region_law (refine step_app rfl _ _ 22 rfl Try.underlying22 w.heap.size u3 k _ rfl (hown.alloc _).drew (some ⟨wr.heap.size, 0, none⟩) 1 1 [((andn (andn (full n) (gn G k)) (2 ^ k) : Nat) : Int)] rfl (sl_one _ _).drew (by omega) (by simp; omega) ?_; intro v' wn hown' hgrow)
      go_wp2
      go_roundw
      case rel =>
        have hb1 : Below w.heap.size w wn := own_grown hown hbw _ (show (wr.alloc _).grownBy _ _ from ⟨hgrow.os, hgrow.tape, hgrow.output, hgrow.size, hgrow.block⟩)
        have e := ints_take (L := othr G) (k := k) (by rw [othr_length, HN.out]; exact hlt)
        rw [othr_gn (by rw [HN.out]; exact hlt), HN.out] at e
        exact ⟨k + 1, by omega, by go_num, by rw [e]; exact hown', hb1⟩
      case measure => simp [intOf]; omega
    · obtain rfl : k = n := by omega
      go_wp2
      go_ret
      rw [ints_all (by rw [othr_length, HN.out]; omega)] at hown
      exact own_gives hown hbw

theorem other_bad (w : World) (a : Option Addr) (n cap : Nat) (l : List Int) (hs : Sl w a n cap l) (hv : ¬ VldP l) :
    Calls Try.prog 17 #[.slice a n cap] w fun e w' => e = .returned (.tuple #[.slice none 0 0, .int .i64 2]) ∧ Below w.heap.size w w' := by
  have hd : decide (VldP l) = false := by simp [hv]
  go_enter Try.func17, Try.ntmps17
  go_wp2_with (go_at_call 53; refine (valid_go _ _ _ _ _ hs).mono ?_; rintro e w' ⟨rfl, m, rfl⟩)
  go_ret2
  exact ⟨rfl, drewN_below (Below.refl _ _)⟩

theorem own_givesE {w w1 : World} {v : Value} {n : Nat} {L : List Int} {err : Int} (h : w1.ownsRow w.heap.size 3 1 v n (L.map (Value.int .i64))) (hb : Below w.heap.size w w1) : GivesSlE w L err (.returned (.tuple #[v, .int .i64 err])) w1 := by
  obtain ⟨a, cap, rfl⟩ := own_form h
  exact ⟨a, n, cap, rfl, h, hb⟩

set_option maxHeartbeats 800000 in
theorem other_go (w : World) (a : Option Addr) (n cap : Nat) (G : List Nat) (hs : Sl w a n cap (ints G)) (hG : Gr G) :
    Calls Try.prog 17 #[.slice a n cap] w (GivesSlE w (ints (othr G)) 0) := by
  have hd : decide (VldP (ints G)) = true := by simp [vld_ints hG]
  have hn : G.length = n := by have := hs.len; rwa [ints_length] at this
  have hn16 : n ≤ 16 := by have := hG.2.1; omega
  rcases hs.parts with ⟨_, rfl, _⟩ | ⟨b, off, rfl, hs2⟩
  · have := hG.1; omega
  have hlt16 := gn_lt hG.small (by omega)
  obtain ⟨hb, hc⟩ := hs2.icells (by have := hG.1; omega)
  have HN := Lib.hid hn
  have hfl := full_lt hn16
  clear hn hs
  go_enter Try.func17, Try.ntmps17
  go_wp2_with (go_at_call 53; refine (valid_go _ _ _ _ _ hs2).mono ?_; rintro e w' ⟨rfl, m, rfl⟩)
  go_loopw [14, 5] (fun i v wr => ∃ k : Nat, k ≤ n ∧ i = .int .i64 k ∧ wr.ownsRow w.heap.size 3 1 v k (((ints (othr G)).take k).map (Value.int .i64)) ∧ Below w.heap.size w wr) (fun i _ _ => n - (intOf i).toNat)
  case atStart => exact ⟨0, by omega, rfl, World.ownsRow_nil _ _ _ _, drewN_below (Below.refl _ _)⟩
  case round =>
    obtain ⟨k, hk, rfl, hown, hbw⟩ := hrel
    by_cases hlt : k < n
    · have hck : wr.cell? ⟨b, off + k, none⟩ = some (.int .i64 (gn G k)) := (hbw.cell hb).trans (hc k hlt)
      have hpk := pow16 (show k < 16 by omega)
      have h1 := i64_andNot_nat (full n) (gn G k) (by omega) (by have := hlt16 k; omega)
      have h2lt : andn (full n) (gn G k) < 65536 := andn_lt (n := 16) hfl
      have h2 := i64_andNot_nat (andn (full n) (gn G k)) (2 ^ k) (by omega) (by omega)
      rw [pow_cast] at h2
      have hwk := wrap_pow (show k ≤ 16 by omega)
      have hsz := hbw.size
      have w3 : IntKind.i64.wrap (2 ^ k) = 2 ^ k := by rw [IntWalk.i64_left]; exact hwk
      go_wp2
      go_region_law (first
        | (refine step_app rfl _ _ 22 rfl Try.underlying22 w.heap.size u5 k _ rfl (hown.alloc _).drew (some ⟨wr.heap.size, 0, none⟩) 1 1 [((andn (andn (full n) (gn G k)) (2 ^ k) : Nat) : Int)] rfl (sl_one _ _).drew (by omega) (by simp; omega) ?_; intro v' wn hown' hgrow)
        | (go_simp; go_at_call 55; refine (all_go _ _ _ _ hn16).mono ?_; rintro e w' ⟨rfl, rfl⟩; rw [show 2 ^ n - 1 = full n from rfl]))
      go_wp2
      go_roundw
      case rel =>
        have hb1 : Below w.heap.size w wn := own_grown hown hbw _ (show (wr.alloc _).grownBy _ _ from ⟨hgrow.os, hgrow.tape, hgrow.output, hgrow.size, hgrow.block⟩)
        have e := ints_take (L := othr G) (k := k) (by rw [othr_length, HN.out]; exact hlt)
        rw [othr_gn (by rw [HN.out]; exact hlt), HN.out] at e
        exact ⟨k + 1, by omega, by go_num, by rw [e]; exact hown', hb1⟩
      case measure => simp [intOf]; omega
    · obtain rfl : k = n := by omega
      go_wp2
      go_ret2
      rw [ints_all (by rw [othr_length, HN.out]; omega)] at hown
      exact own_givesE hown hbw

theorem persist {w w' : World} {p : Nat} {o : Obj} (h : w.heap[p]? = some o) (hb : Below w.heap.size w w') : w'.heap[p]? = some o := by
  rw [hb.block p (lt_of_block h)]; exact h
theorem new_at (w : World) (o : Obj) : (w.alloc o).heap[w.heap.size]? = some o := by simp [heap_alloc_eq]

theorem drewB {w w' : World} (h : ∃ m, w' = w.drewN m) : Below w.heap.size w w' := by obtain ⟨m, rfl⟩ := h; exact drewN_below (Below.refl _ _)
theorem equal_same (w : World) (a c : Option Addr) (n p m q : Nat) (l : List Int) (hs : Sl w a n p l) (ht : Sl w c m q l) :
    Calls Try.prog 22 #[.slice a n p, .slice c m q] w fun e w' => e = .returned (.bool true) ∧ Below w.heap.size w w' :=
  (equal_go w a c n p m q l l hs ht).mono fun e w' ⟨he, hw⟩ => ⟨by simpa using he, drewB hw⟩

end Go.Proofs.Ytijnpcehjnaaiaa
