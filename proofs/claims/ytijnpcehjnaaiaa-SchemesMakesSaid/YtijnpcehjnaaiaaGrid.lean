/- Walks: Grid. -/
import Derived.Test.YtijnpcehjnaaiaaSw
namespace Go.Proofs.Ytijnpcehjnaaiaa
open Go.RowKit

def nearGrid (n i j : Nat) : Bool := (i / n == j / n) || (i % n == j % n)

set_option maxHeartbeats 400000 in
theorem grid1_go (w : World) (p n i j : Nat) (h2 : w.cell? ⟨p, 0, none⟩ = some (.int .i64 n)) (hn : 1 ≤ n) (hn2 : n ≤ 4) (hi : i < 16) (hj : j < 16) :
    Calls Try.prog 60 #[.int .i64 i, .int .i64 j, .pointer (some ⟨p, 0, none⟩)] w fun e w' => e = .returned (.bool (nearGrid n i j)) ∧ Below w.heap.size w w' := by
  have e1 : (i : Int).tdiv n = ((i / n : Nat) : Int) := by rw [Int.tdiv_eq_ediv_of_nonneg (by omega)]; simp
  have e2 : (j : Int).tdiv n = ((j / n : Nat) : Int) := by rw [Int.tdiv_eq_ediv_of_nonneg (by omega)]; simp
  have e3 : (i : Int).tmod n = ((i % n : Nat) : Int) := by rw [Int.tmod_eq_emod_of_nonneg (by omega)]; simp
  have e4 : (j : Int).tmod n = ((j % n : Nat) : Int) := by rw [Int.tmod_eq_emod_of_nonneg (by omega)]; simp
  have f1 : (i : Int) / n = ((i / n : Nat) : Int) := by simp
  have f2 : (j : Int) / n = ((j / n : Nat) : Int) := by simp
  have f3 : (i : Int) % n = ((i % n : Nat) : Int) := by simp
  have f4 : (j : Int) % n = ((j % n : Nat) : Int) := by simp
  have w1 : IntKind.i64.wrap ((i / n : Nat) : Int) = ((i / n : Nat) : Int) := wrap_i64n _ (by have := Nat.div_le_self i n; omega)
  have w2 : IntKind.i64.wrap ((j / n : Nat) : Int) = ((j / n : Nat) : Int) := wrap_i64n _ (by have := Nat.div_le_self j n; omega)
  have hne : ¬ n = 0 := by omega
  have HF := Lib.hid (show nearGrid n i j = ((i / n == j / n) || (i % n == j % n)) from rfl)
  generalize i / n = a at *
  generalize j / n = b at *
  generalize i % n = c at *
  generalize j % n = d at *
  by_cases q : a = b
  · have tq : ((a : Int) == (b : Int)) = true := by rw [q]; simp
    have Q := Lib.hid q
    clear q
    go_enter Try.func60, Try.ntmps60
    go_wp2
    go_quiet (fail)
    go_wp2
    go_ret
    rw [HF.out, Q.out]
    exact ⟨by simp, drewN_below (Below.refl _ _)⟩
  · have tq : ((a : Int) == (b : Int)) = false := by simp; omega
    have tq2 : (a == b) = false := by simp [q]
    have tc : ((c : Int) == (d : Int)) = (c == d) := by rw [Bool.eq_iff_iff]; simp; omega
    have Q := Lib.hid tq2
    clear q
    go_enter Try.func60, Try.ntmps60
    go_wp2
    go_quiet (fail)
    go_wp2
    go_ret
    rw [HF.out, Q.out]
    exact ⟨by simp, drewN_below (Below.refl _ _)⟩

theorem cf_grid1 (args : Array Value) (w : World) : (callFunc 60 args).run Try.prog w = .ok (.enter 60 args) w := by kernel_rfl
def gridL (n : Nat) : List Nat := madeL (n * n) (nearGrid n)

set_option maxHeartbeats 400000 in
theorem grid_bad (w : World) (n : Int) (h : n < 2 ∨ 4 < n) :
    Calls Try.prog 26 #[.int .i64 n] w fun e w' => e = .returned (.tuple #[.slice none 0 0, .int .i64 2]) ∧ Below w.heap.size w w' := by
  rcases h with h | h
  · go_enter Try.func26, Try.ntmps26
    go_wp2
    go_ret2
    exact ⟨rfl, bal (Below.refl _ _) _⟩
  · have h' : ¬ n < 2 := by omega
    go_enter Try.func26, Try.ntmps26
    go_wp2
    go_ret2
    exact ⟨rfl, bal (Below.refl _ _) _⟩

set_option maxHeartbeats 400000 in
theorem grid_go (w : World) (n : Nat) (h2 : 2 ≤ n) (h4 : n ≤ 4) :
    Calls Try.prog 26 #[.int .i64 n] w (GivesSlE w (ints (gridL n)) 0) := by
  have hmf : ∀ (fn : Fn) (first cap : Array Value) (w : World), (Instr.makeFunc fn first cap).run Try.prog w = .ok (.func fn first cap) w := fun _ _ _ _ => rfl
  have i0 : ¬ n < 2 := by omega
  have i1 : ¬ 4 < n := by omega
  have hmul : n * n ≤ 16 := by have : n * n ≤ 4 * 4 := Nat.mul_le_mul h4 h4; omega
  have hm : (n : Int) * (n : Int) = ((n * n : Nat) : Int) := by simp
  have hw : wrap64 ((n * n : Nat) : Int) = ((n * n : Nat) : Int) := IntWalk.wrap64_in _ (by omega)
  have HM := Lib.hid hmul
  have hcall : ∀ (w' : World) (i j : Nat), Below (w.alloc (.cells #[.int .i64 n] 3)).heap.size (w.alloc (.cells #[.int .i64 n] 3)) w' → i < n * n → j < n * n →
      Calls Try.prog 60 (#[.int .i64 i, .int .i64 j] ++ #[.pointer (some ⟨w.heap.size, 0, none⟩)]) w' fun e w'' => e = .returned (.bool (nearGrid n i j)) ∧ Below w'.heap.size w' w'' := fun w' i j hb hi hj => by
    exact grid1_go w' _ n i j (one_at (persist (new_at _ _) hb)) (by omega) h4 (by have := HM.out; omega) (by have := HM.out; omega)
  have HC := Lib.hid hcall
  clear hcall hmul
  generalize hN : n * n = N at *
  have HN := Lib.hid hN
  clear hN
  go_enter Try.func26, Try.ntmps26
  go_wp2_with fail
  refine (made_go _ N HM.out 60 _ (nearGrid n) cf_grid1 HC.out).mono ?_
  rintro e w1 ⟨a', n', p', rfl, hown, hb⟩
  go_wp2
  go_ret2
  rw [← HN.out] at hown
  exact ⟨a', n', p', rfl, own_base hown (by simp), btr (bal (Below.refl _ _) _) hb⟩
end Go.Proofs.Ytijnpcehjnaaiaa
