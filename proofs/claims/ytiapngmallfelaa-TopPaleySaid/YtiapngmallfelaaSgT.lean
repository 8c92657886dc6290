/- Walks: signs: Times. -/
import Derived.Test.YtiapngmallfelaaSgB
import Derived.Test.YtiapngmallfelaaSw
namespace Go.Proofs.Ytiapngmallfelaa
open Go.RowKit

theorem cf_times1 (args : Array Value) (w : World) : (callFunc 32 args).run Try.prog w = .ok (.enter 32 args) w := by kernel_rfl

set_option maxRecDepth 100000 in
set_option maxHeartbeats 1000000 in
theorem times1_go (w : World) (px pn py : Nat) (a a' : Option Addr) (cap cap' n : Nat) (H K : List Nat) (i j : Nat) (hn4 : n = 4)
    (hx : w.cell? ⟨px, 0, none⟩ = some (.slice a n cap)) (hn : w.cell? ⟨pn, 0, none⟩ = some (.int .i64 n)) (hy : w.cell? ⟨py, 0, none⟩ = some (.slice a' n cap'))
    (_zx : px < w.heap.size) (_zn : pn < w.heap.size) (_zy : py < w.heap.size)
    (hs : Sl w a n cap (ints H)) (hs' : Sl w a' n cap' (ints K)) (hH : ∀ x ∈ H, x < 65536) (hK : ∀ x ∈ K, x < 65536) (hi : i < 16) (hj : j < 16) :
    Calls Try.prog 32 #[.int .i64 i, .int .i64 j, .pointer (some ⟨px, 0, none⟩), .pointer (some ⟨pn, 0, none⟩), .pointer (some ⟨py, 0, none⟩)] w fun e w' => e = .returned (.bool (timN H K i j)) ∧ Below w.heap.size w w' := by
  have HT := Lib.hid (show timN H K i j = ((gn H (i / n)).testBit (j / n) != (gn K (i % n)).testBit (j % n)) by subst hn4; rfl)
  have i1 : i / n < n := by subst hn4; omega
  have j1 : j / n < n := by subst hn4; omega
  have i2 : i % n < n := by subst hn4; omega
  have j2 : j % n < n := by subst hn4; omega
  have nn : n ≤ 4 := by omega
  have hne : ¬ n = 0 := by omega
  have e1 : (i : Int).tdiv n = ((i / n : Nat) : Int) := by rw [Int.tdiv_eq_ediv_of_nonneg (by omega)]; simp
  have e2 : (j : Int).tdiv n = ((j / n : Nat) : Int) := by rw [Int.tdiv_eq_ediv_of_nonneg (by omega)]; simp
  have e3 : (i : Int).tmod n = ((i % n : Nat) : Int) := by rw [Int.tmod_eq_emod_of_nonneg (by omega)]; simp
  have e4 : (j : Int).tmod n = ((j % n : Nat) : Int) := by rw [Int.tmod_eq_emod_of_nonneg (by omega)]; simp
  have f1 : (i : Int) / n = ((i / n : Nat) : Int) := by simp
  have f2 : (j : Int) / n = ((j / n : Nat) : Int) := by simp
  have f3 : (i : Int) % n = ((i % n : Nat) : Int) := by simp
  have f4 : (j : Int) % n = ((j % n : Nat) : Int) := by simp
  have HM1 := Lib.hid (fun k => is_go (w.drewN k) a n cap H (hs.mono (drewN_below (Below.refl _ _))) hH (i / n) (j / n) i1 (by omega))
  have HM2 := Lib.hid (fun k => is_go (w.drewN k) a' n cap' K (hs'.mono (drewN_below (Below.refl _ _))) hK (i % n) (j % n) i2 (by omega))
  have w1 : IntKind.i64.wrap ((i / n : Nat) : Int) = ((i / n : Nat) : Int) := wrap_i64n _ (by omega)
  have w2 : IntKind.i64.wrap ((j / n : Nat) : Int) = ((j / n : Nat) : Int) := wrap_i64n _ (by omega)
  have w3 : IntKind.i64.wrap ((i % n : Nat) : Int) = ((i % n : Nat) : Int) := wrap_i64n _ (by omega)
  have w4 : IntKind.i64.wrap ((j % n : Nat) : Int) = ((j % n : Nat) : Int) := wrap_i64n _ (by omega)
  clear hs hs' hn4
  generalize (gn H (i / n)).testBit (j / n) = b1 at *
  generalize (gn K (i % n)).testBit (j % n) = b2 at *
  generalize i / n = x1 at *
  generalize j / n = x2 at *
  generalize i % n = x3 at *
  generalize j % n = x4 at *
  go_enter Try.func32, Try.ntmps32
  go_wp2
  go_quiet (first
    | (go_at_call 33; with_reducible exact quiet_is (HM1.out _))
    | (go_at_call 33; with_reducible exact quiet_is (HM2.out _)))
  go_wp2
  go_ret
  rw [HT.out]
  exact ⟨rfl, drewN_below (Below.refl _ _)⟩

set_option maxRecDepth 100000 in
set_option maxHeartbeats 1000000 in
theorem times_go (w : World) (a a' : Option Addr) (cap cap' : Nat) (H K : List Nat) (hs : Sl w a 4 cap (ints H)) (hs' : Sl w a' 4 cap' (ints K)) (hH : ∀ i, i < 4 → gn H i < 2 ^ 4) (hK : ∀ i, i < 4 → gn K i < 2 ^ 4) (hH2 : ∀ x ∈ H, x < 65536) (hK2 : ∀ x ∈ K, x < 65536) :
    Calls Try.prog 9 #[.slice a 4 cap, .slice a' 4 cap'] w (GivesSlE w (ints (tim H K)) 0) := by
  have hmf : ∀ (fn : Fn) (first cap : Array Value) (w : World), (Instr.makeFunc fn first cap).run Try.prog w = .ok (.func fn first cap) w := fun _ _ _ _ => rfl
  go_enter Try.func9, Try.ntmps9
  go_wp2_with fail
  refine (sgvalid_go _ a 4 cap H 16 (hs.mono (bal (bal (Below.refl _ _) _) _)) (by omega) (by omega) (by omega) hH).mono ?_
  rintro e w1 ⟨rfl, hb⟩
  obtain ⟨hx1, hy1⟩ := persist2 hb
  have hB1 : Below w.heap.size w w1 := btr (bal (bal (Below.refl _ _) _) _) hb
  have cx := one_atB hx1
  have cy := one_atB hy1
  have zx := lt_of_block hx1
  have zy := lt_of_block hy1
  clear hb
  go_wp2_with fail
  refine (sgvalid_go _ a' 4 cap' K 16 (hs'.mono hB1) (by omega) (by omega) (by omega) hK).mono ?_
  rintro e w2 ⟨rfl, hb⟩
  have hx2 := persist hx1 hb
  have hy2 := persist hy1 hb
  have hB2 := btr hB1 hb
  clear hb hB1 hx1 hy1 cx cy zx zy
  have cx := one_atB hx2
  have cy := one_atB hy2
  have zx := lt_of_block hx2
  have zy := lt_of_block hy2
  have d1 : decide ((16 : Int) < (4 : Int) * 4) = false := by decide
  have hcall : ∀ (w' : World) (i j : Nat), Below (w2.alloc (.cells #[.int .i64 4] 3)).heap.size (w2.alloc (.cells #[.int .i64 4] 3)) w' → i < 16 → j < 16 →
      Calls Try.prog 32 (#[.int .i64 i, .int .i64 j] ++ #[.pointer (some ⟨w.heap.size, 0, none⟩), .pointer (some ⟨w2.heap.size, 0, none⟩), .pointer (some ⟨w.heap.size + 1, 0, none⟩)]) w' fun e w'' => e = .returned (.bool (timN H K i j)) ∧ Below w'.heap.size w' w'' := fun w' i j hb hi hj => by
    have hbw := btr (bal hB2 _) hb
    have kx := persist (persist hx2 (bal (Below.refl _ _) _)) hb
    have ky := persist (persist hy2 (bal (Below.refl _ _) _)) hb
    have kn := persist (new_at _ _) hb
    exact times1_go w' _ _ _ a a' cap cap' 4 H K i j rfl (one_atB kx) (one_atB kn) (one_atB ky) (lt_of_block kx) (lt_of_block kn) (lt_of_block ky) (hs.mono hbw) (hs'.mono hbw) hH2 hK2 hi hj
  have HC := Lib.hid hcall
  clear hcall
  go_wp2_with fail
  refine (smade_go _ 16 (by omega) 32 _ (timN H K) cf_times1 HC.out).mono ?_
  rintro e w3 ⟨a3, n3, p3, rfl, ho3, hb3⟩
  go_wp2
  go_ret2
  exact ⟨a3, n3, p3, rfl, own_base ho3 (Nat.le_trans hB2.size (by simp)), btr (bal hB2 _) hb3⟩
end Go.Proofs.Ytiapngmallfelaa
