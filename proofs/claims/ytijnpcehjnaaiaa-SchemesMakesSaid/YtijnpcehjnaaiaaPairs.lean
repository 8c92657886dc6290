/- Walks: Pairs. -/
import Derived.Test.YtijnpcehjnaaiaaGrid
namespace Go.Proofs.Ytijnpcehjnaaiaa
open Go.RowKit

def prRow (a b : Nat) : List Nat := ((List.range b).filter fun y => decide (a < y)).map fun y => 2 ^ a ||| 2 ^ y
def prTo (n a b : Nat) : List Nat := (List.range a).flatMap (fun x => prRow x n) ++ prRow a b
def prL (n : Nat) : List Nat := (List.range n).flatMap fun x => prRow x n
theorem prRow_step {a b : Nat} (h : a < b) : prRow a (b + 1) = prRow a b ++ [2 ^ a ||| 2 ^ b] := by simp [prRow, List.range_succ, h]
theorem prRow_start (a : Nat) : prRow a (a + 1) = [] := by
  simp only [prRow, List.map_eq_nil_iff, List.filter_eq_nil_iff, List.mem_range, decide_eq_true_eq]; omega
theorem prTo_step {n a b : Nat} (h : a < b) : prTo n a (b + 1) = prTo n a b ++ [2 ^ a ||| 2 ^ b] := by simp [prTo, prRow_step h]
theorem prTo_start (n : Nat) : prTo n 0 1 = [] := by simp [prTo, prRow_start]
theorem prTo_row (n a : Nat) : prTo n a n = prTo n (a + 1) (a + 1 + 1) := by
  simp [prTo, List.range_succ, prRow_start]
theorem prTo_end (n : Nat) : prTo n n (n + 1) = prL n := by simp [prTo, prL, prRow_start]
def nearPairs (L : List Nat) (i j : Nat) : Bool := decide (gn L i &&& gn L j ≠ 0)
def pairsL (n : Nat) : List Nat := madeL (prL n).length (nearPairs (prL n))

set_option maxHeartbeats 400000 in
theorem pairs1_go (w : World) (p : Nat) (a : Option Addr) (n cap : Nat) (L : List Nat) (i j : Nat) (h2 : w.cell? ⟨p, 0, none⟩ = some (.slice a n cap)) (hs : Sl w a n cap (ints L)) (hL : ∀ x ∈ L, x < 65536) (hi : i < n) (hj : j < n) :
    Calls Try.prog 59 #[.int .i64 i, .int .i64 j, .pointer (some ⟨p, 0, none⟩)] w fun e w' => e = .returned (.bool (nearPairs L i j)) ∧ Below w.heap.size w w' := by
  rcases hs.parts with ⟨_, rfl, _⟩ | ⟨b, off, rfl, hs2⟩
  · omega
  obtain ⟨hb, hc⟩ := hs2.icells (by omega)
  have hci := hc i hi
  have hcj := hc j hj
  have l1 := gn_lt hL (by omega) i
  have l2 := gn_lt hL (by omega) j
  have han := i64_and_nat (gn L i) (gn L j) (by omega) (by omega)
  have HF := Lib.hid (show nearPairs L i j = decide (gn L i &&& gn L j ≠ 0) from rfl)
  clear hs hs2 hc
  generalize gn L i &&& gn L j = x at *
  go_enter Try.func59, Try.ntmps59
  go_wp2
  go_quiet (fail)
  go_wp2
  go_ret
  rw [HF.out]
  refine ⟨ret_bool ?_, drewN_below (Below.refl _ _)⟩
  rw [Bool.eq_iff_iff]; simp; try omega

theorem cf_pairs1 (args : Array Value) (w : World) : (callFunc 59 args).run Try.prog w = .ok (.enter 59 args) w := by kernel_rfl

set_option maxHeartbeats 400000 in
theorem pairs_bad (w : World) (n : Int) (h : n < 4 ∨ 6 < n) :
    Calls Try.prog 25 #[.int .i64 n] w fun e w' => e = .returned (.tuple #[.slice none 0 0, .int .i64 2]) ∧ Below w.heap.size w w' := by
  rcases h with h | h
  · go_enter Try.func25, Try.ntmps25
    go_wp2
    go_ret2
    exact ⟨rfl, Below.refl _ _⟩
  · have h' : ¬ n < 4 := by omega
    go_enter Try.func25, Try.ntmps25
    go_wp2
    go_ret2
    exact ⟨rfl, Below.refl _ _⟩

theorem prL_facts {n : Nat} (h4 : 4 ≤ n) (h6 : n ≤ 6) : (prL n).length ≤ 16 ∧ ∀ x ∈ prL n, x < 65536 := by
  have : n = 4 ∨ n = 5 ∨ n = 6 := by omega
  rcases this with rfl | rfl | rfl <;> decide

theorem pairs_kept {w wr wn : World} {v u : Value} {m : Nat} {xs : List Value} {E : TypeId} {o : Obj} (hv : wr.heap[w.heap.size]? = some (.cells #[u] E (0, 0))) (hown : wr.ownsRow (w.heap.size + 1) 3 1 v m xs)
    (hg : (wr.alloc o).drew.grownBy wn v.ownBlock) : wn.heap[w.heap.size]? = some (.cells #[u] E (0, 0)) := by
  have hlt := lt_of_block hv
  have h1 : (wr.alloc o).drew.heap[w.heap.size]? = some (.cells #[u] E (0, 0)) := (Below.heap_alloc wr o _ hlt).trans hv
  rw [hg.block _ (by show _ < (wr.alloc o).heap.size; simp; omega) ?_]
  · exact h1
  · intro e
    have := (hown.lt _ e.symm).1
    omega
theorem own_grown2 {w wr w1 : World} {e size k : Nat} {v : Value} {xs : List Value} (hown : wr.ownsRow (w.heap.size + 1) e size v k xs) (hb : Below w.heap.size w wr) (o : Obj) (hg : (wr.alloc o).grownBy w1 v.ownBlock) : Below w.heap.size w w1 :=
  (bal hb o).grown hg (bal hb o).size (fun j hj => by have := (hown.lt j hj).1; omega)

set_option maxHeartbeats 1000000 in
theorem pairs_go (w : World) (n : Nat) (h4 : 4 ≤ n) (h6 : n ≤ 6) :
    Calls Try.prog 25 #[.int .i64 n] w (GivesSlE w (ints (pairsL n)) 0) := by
  have hmf : ∀ (fn : Fn) (first cap : Array Value) (w : World), (Instr.makeFunc fn first cap).run Try.prog w = .ok (.func fn first cap) w := fun _ _ _ _ => rfl
  have i0 : ¬ n < 4 := by omega
  have i1 : ¬ 6 < n := by omega
  obtain ⟨hpl, hps⟩ := prL_facts h4 h6
  have HPL := Lib.hid hpl
  have HPS := Lib.hid hps
  clear hpl hps
  go_enter Try.func25, Try.ntmps25
  go_wp2
  go_loopw [14] (fun t wr => ∃ a : Nat, a ≤ n ∧ t = .int .i64 a ∧ ∃ v m, m ≤ a * 6 ∧ wr.heap[w.heap.size]? = some (.cells #[v] 22 (0, 0)) ∧ wr.ownsRow (w.heap.size + 1) 3 1 v m ((ints (prTo n a (a + 1))).map (Value.int .i64)) ∧ Below w.heap.size w wr) (fun t _ => n - (intOf t).toNat)
  case atStart => exact ⟨0, by omega, rfl, _, 0, by omega, new_at _ _, by rw [prTo_start]; exact World.ownsRow_nil _ _ _ _, bal (Below.refl _ _) _⟩
  case round =>
    obtain ⟨a, ha, rfl, v, m, hm, hv, hown, hbw⟩ := hrel
    by_cases hla : a < n
    · go_wp2
      obtain ⟨w2, rfl⟩ : ∃ w2 : World, w2 = wr := ⟨_, rfl⟩
      go_loopw [6] (fun t wr => ∃ b : Nat, a < b ∧ b ≤ n ∧ t = .int .i64 b ∧ ∃ v m, m + 6 ≤ a * 6 + b + 6 ∧ wr.heap[w.heap.size]? = some (.cells #[v] 22 (0, 0)) ∧ wr.ownsRow (w.heap.size + 1) 3 1 v m ((ints (prTo n a b)).map (Value.int .i64)) ∧ Below w.heap.size w wr) (fun t _ => n - (intOf t).toNat)
      case atStart => exact ⟨a + 1, by omega, by omega, by go_num, v, m, by omega, hv, hown, hbw⟩
      case round =>
        clear hv hown hbw hm
        obtain ⟨b, hab, hb, rfl, v, m, hm, hv, hown, hbw⟩ := hrel
        by_cases hlb : b < n
        · have c0 := one_at hv
          have f0 := free_at hv 0
          have hz := lt_of_block hv
          have pa := pow16 (show a < 16 by omega)
          have pb := pow16 (show b < 16 by omega)
          have wa : IntKind.i64.wrap (2 ^ a) = 2 ^ a := by rw [IntWalk.i64_left]; exact wrap_pow (by omega)
          have wb : IntKind.i64.wrap (2 ^ b) = 2 ^ b := by rw [IntWalk.i64_left]; exact wrap_pow (by omega)
          have hor := i64_or_nat (2 ^ a) (2 ^ b) (by omega) (by omega)
          rw [pow_cast, pow_cast] at hor
          go_wp2
          go_region_law? (refine step_app rfl _ _ 22 rfl Try.underlying22 (w.heap.size + 1) v m _ rfl (hown.alloc _).drew (some ⟨wr.heap.size, 0, none⟩) 1 1 [((2 ^ a ||| 2 ^ b : Nat) : Int)] rfl (sl_one _ _).drew (by omega) (by simp; omega) ?_; intro v' wn hown' hgrow; obtain ⟨a', cap', rfl⟩ := own_form hown'; have hvn := pairs_kept hv hown hgrow; have cn := one_at hvn; have fn := free_at hvn 0)
          all_goals
            go_wp2
            go_roundw
            case rel =>
              have hb1 : Below w.heap.size w wn := own_grown2 hown hbw _ (show (wr.alloc _).grownBy _ _ from ⟨hgrow.os, hgrow.tape, hgrow.output, hgrow.size, hgrow.block⟩)
              refine ⟨b + 1, by omega, by omega, by go_num, .slice a' (m + 1) cap', m + 1, by omega, one_setCell hvn, ?_, below_store hb1 _⟩
              rw [prTo_step hab, ints_append, ints_one]
              exact RowKit.ownsRow_setCell_below hown' (by simp) _
            case measure => simp [intOf]; omega
        · obtain rfl : b = n := by omega
          go_wp2
          go_roundw
          case rel => exact ⟨a + 1, by omega, by go_num, v, m, by omega, hv, by rw [← prTo_row]; exact hown, hbw⟩
          case measure => simp [intOf]; omega
    · obtain rfl : a = n := by omega
      rw [prTo_end] at hown
      obtain ⟨a', cap', rfl⟩ := own_form hown
      have hsl := own_sl hown
      have hml : m = (prL a).length := by have := hsl.len; rw [ints_length] at this; exact this.symm
      subst hml
      have c0 := one_at hv
      have hbr := Lib.hid hbw
      have hcall : ∀ (w' : World) (i j : Nat), Below wr.heap.size wr w' → i < (prL a).length → j < (prL a).length →
          Calls Try.prog 59 (#[.int .i64 i, .int .i64 j] ++ #[.pointer (some ⟨w.heap.size, 0, none⟩)]) w' fun e w'' => e = .returned (.bool (nearPairs (prL a) i j)) ∧ Below w'.heap.size w' w'' := fun w' i j hb hi hj =>
        pairs1_go w' _ a' _ cap' (prL a) i j (one_at (persist hv hb)) (hsl.mono hb) HPS.out hi hj
      have HC := Lib.hid hcall
      clear hcall hown hbw
      go_wp2_with fail
      refine (made_go _ _ HPL.out 59 _ (nearPairs (prL a)) cf_pairs1 HC.out).mono ?_
      rintro e w1 ⟨a2, n2, p2, rfl, hown2, hb2⟩
      go_wp2
      go_ret2
      exact ⟨a2, n2, p2, rfl, own_base hown2 hbr.out.size, btr hbr.out hb2⟩
end Go.Proofs.Ytijnpcehjnaaiaa
