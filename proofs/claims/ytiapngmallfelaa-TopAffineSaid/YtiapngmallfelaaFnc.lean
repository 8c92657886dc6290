/- Walks: arcs: dot, cross. -/
import Derived.Test.YtiapngmallfelaaFnb
namespace Go.Proofs.Ytiapngmallfelaa
open Go.RowKit
set_option linter.unusedSimpArgs false

theorem addN {a b : Nat} (ha : a ≤ 100) (hb : b ≤ 100) : IntKind.i64.wrap ((a : Int) + (b : Int)) = ((a + b : Nat) : Int) := by
  rw [IntWalk.i64_left, IntWalk.wrap64_in _ (by omega)]; omega
theorem subN {a b : Nat} (ha : a ≤ 100) (hb : b ≤ 100) : IntKind.i64.wrap ((a : Int) - (b : Int)) = (a : Int) - (b : Int) := by
  rw [IntWalk.i64_left, IntWalk.wrap64_in _ (by omega)]
def T3N (x : Nat × Nat × Nat) : Value := .agg #[.int .i64 (x.1 : Int), .int .i64 (x.2.1 : Int), .int .i64 (x.2.2 : Int)]
def In3 (p : Nat) (x : Nat × Nat × Nat) : Prop := x.1 < p ∧ x.2.1 < p ∧ x.2.2 < p
def dotN (p : Nat) (x y : Nat × Nat × Nat) : Nat := (x.1 * y.1 + x.2.1 * y.2.1 + x.2.2 * y.2.2) % p
def crN (p m n : Nat) : Nat := (m + 24 - n) % p
def crossN (p : Nat) (x y : Nat × Nat × Nat) : Nat × Nat × Nat := (crN p (x.2.1 * y.2.2) (x.2.2 * y.2.1), crN p (x.2.2 * y.1) (x.1 * y.2.2), crN p (x.1 * y.2.1) (x.2.1 * y.1))
theorem amodS_go (w : World) (pk p m n : Nat) (hk : w.cell? ⟨pk, 0, none⟩ = some (.int .i64 p)) (hp : p = 2 ∨ p = 3) (hm : m ≤ 4) (hn : n ≤ 4) :
    Calls Try.prog 87 #[.pointer (some ⟨pk, 0, none⟩), .int .i64 ((m : Int) - (n : Int))] w fun e w' => e = .returned (.int .i64 ((crN p m n : Nat) : Int)) ∧ Below w.heap.size w w' := by
  refine (amod_go w pk p ((m : Int) - n) hk hp (by omega)).mono ?_
  rintro e w' ⟨rfl, q, rfl⟩
  refine ⟨?_, drewN_below (Below.refl _ _)⟩
  unfold crN
  rcases hp with rfl | rfl
  · congr 2; omega
  · congr 2; omega
set_option maxHeartbeats 2000000 in
theorem adot_go (w : World) (pk p : Nat) (x y : Nat × Nat × Nat) (hkl : pk < w.heap.size) (hk : w.cell? ⟨pk, 0, none⟩ = some (.int .i64 p)) (hp : p = 2 ∨ p = 3) (hx : In3 p x) (hy : In3 p y) :
    Calls Try.prog 74 #[.pointer (some ⟨pk, 0, none⟩), T3N x, T3N y] w fun e w' => e = .returned (.int .i64 ((dotN p x y : Nat) : Int)) ∧ Below w.heap.size w w' := by
  obtain ⟨x0, x1, x2⟩ := x
  obtain ⟨y0, y1, y2⟩ := y
  obtain ⟨hx0, hx1, hx2⟩ := hx
  obtain ⟨hy0, hy1, hy2⟩ := hy
  unfold dotN T3N
  dsimp only at *
  obtain ⟨m0, l0⟩ := mulN (a := x0) (f := y0) (by omega) (by omega)
  obtain ⟨m1, l1⟩ := mulN (a := x1) (f := y1) (by omega) (by omega)
  obtain ⟨m2, l2⟩ := mulN (a := x2) (f := y2) (by omega) (by omega)
  generalize x0 * y0 = p0 at *
  generalize x1 * y1 = p1 at *
  generalize x2 * y2 = p2 at *
  have k1 := addN (a := p0) (b := p1) (by omega) (by omega)
  have k2 := addN (a := p0 + p1) (b := p2) (by omega) (by omega)
  generalize hq1 : p0 + p1 = q1 at *
  generalize hq2 : q1 + p2 = q2 at *
  have hq : q2 ≤ 12 := by omega
  have hk2 := (bal (bal (Below.refl w.heap.size w) (.cells #[.int .i64 x0, .int .i64 x1, .int .i64 x2] 90)) (.cells #[.int .i64 y0, .int .i64 y1, .int .i64 y2] 90))
  have HB0 := Lib.hid hk2
  have hk3 := (hk2.cell (p := ⟨pk, 0, none⟩) hkl).trans hk
  have HK3 := Lib.hid hk3
  clear hk2 hk3 hq1 hq2 l0 l1 l2
  go_enter Try.func74, Try.ntmps74
  go_wp2_with fail
  refine (amodN_go _ pk p q2 HK3.out hp (by omega)).mono ?_
  rintro e w' ⟨rfl, q, rfl⟩
  go_wp2
  go_ret
  exact ⟨rfl, drewN_below HB0.out⟩
set_option maxHeartbeats 4000000 in
theorem across_go (w : World) (pk p : Nat) (x y : Nat × Nat × Nat) (hkl : pk < w.heap.size) (hk : w.cell? ⟨pk, 0, none⟩ = some (.int .i64 p)) (hp : p = 2 ∨ p = 3) (hx : In3 p x) (hy : In3 p y) :
    Calls Try.prog 73 #[.pointer (some ⟨pk, 0, none⟩), T3N x, T3N y] w fun e w' => e = .returned (T3N (crossN p x y)) ∧ Below w.heap.size w w' := by
  obtain ⟨x0, x1, x2⟩ := x
  obtain ⟨y0, y1, y2⟩ := y
  obtain ⟨hx0, hx1, hx2⟩ := hx
  obtain ⟨hy0, hy1, hy2⟩ := hy
  unfold crossN T3N
  dsimp only at *
  obtain ⟨m0, l0⟩ := mulN (a := x1) (f := y2) (by omega) (by omega)
  obtain ⟨m1, l1⟩ := mulN (a := x2) (f := y1) (by omega) (by omega)
  obtain ⟨m2, l2⟩ := mulN (a := x2) (f := y0) (by omega) (by omega)
  obtain ⟨m3, l3⟩ := mulN (a := x0) (f := y2) (by omega) (by omega)
  obtain ⟨m4, l4⟩ := mulN (a := x0) (f := y1) (by omega) (by omega)
  obtain ⟨m5, l5⟩ := mulN (a := x1) (f := y0) (by omega) (by omega)
  generalize x1 * y2 = p0 at *
  generalize x2 * y1 = p1 at *
  generalize x2 * y0 = p2 at *
  generalize x0 * y2 = p3 at *
  generalize x0 * y1 = p4 at *
  generalize x1 * y0 = p5 at *
  have k1 := subN (a := p0) (b := p1) (by omega) (by omega)
  have k2 := subN (a := p2) (b := p3) (by omega) (by omega)
  have k3 := subN (a := p4) (b := p5) (by omega) (by omega)
  obtain ⟨W, hW⟩ : ∃ W, ((w.alloc (.cells #[.int .i64 x0, .int .i64 x1, .int .i64 x2] 90)).alloc (.cells #[.int .i64 y0, .int .i64 y1, .int .i64 y2] 90)).alloc (.cells #[.int .i64 0, .int .i64 0, .int .i64 0] 90) = W := ⟨_, rfl⟩
  have HB0 := Lib.hid (bal (bal (bal (Below.refl w.heap.size w) (.cells #[.int .i64 x0, .int .i64 x1, .int .i64 x2] 90)) (.cells #[.int .i64 y0, .int .i64 y1, .int .i64 y2] 90)) (.cells #[.int .i64 0, .int .i64 0, .int .i64 0] 90))
  have hX : W.heap[w.heap.size]? = some (.cells #[.int .i64 x0, .int .i64 x1, .int .i64 x2] 90 (0, 0)) := by
    rw [← hW]; exact (Below.heap_alloc _ _ _ (by simp; omega)).trans ((Below.heap_alloc _ _ _ (by simp)).trans (new_at w _))
  have hY : W.heap[w.heap.size + 1]? = some (.cells #[.int .i64 y0, .int .i64 y1, .int .i64 y2] 90 (0, 0)) := by
    rw [← hW]
    have h := new_at (w.alloc (.cells #[.int .i64 x0, .int .i64 x1, .int .i64 x2] 90)) (.cells #[.int .i64 y0, .int .i64 y1, .int .i64 y2] 90)
    exact (Below.heap_alloc _ _ _ (by simp)).trans (by simpa using h)
  have hZ : W.heap[w.heap.size + 1 + 1]? = some (.cells #[.int .i64 0, .int .i64 0, .int .i64 0] 90 (0, 0)) := by
    rw [← hW]
    have h := new_at ((w.alloc (.cells #[.int .i64 x0, .int .i64 x1, .int .i64 x2] 90)).alloc (.cells #[.int .i64 y0, .int .i64 y1, .int .i64 y2] 90)) (.cells #[.int .i64 0, .int .i64 0, .int .i64 0] 90)
    simpa using h
  have HX := Lib.hid hX
  have HY := Lib.hid hY
  have HZ := Lib.hid hZ
  rw [hW] at HB0
  have HKW := Lib.hid ((HB0.out.cell (p := ⟨pk, 0, none⟩) hkl).trans hk)
  have hkW : pk < W.heap.size := Nat.lt_of_lt_of_le hkl HB0.out.size
  have HSX := Lib.hid (fun (w' : World) (hb : Below W.heap.size W w') => (show w'.cell? ⟨w.heap.size, 0, none⟩ = some (.int .i64 (x0 : Int)) ∧ w'.cell? ⟨w.heap.size, 1, none⟩ = some (.int .i64 (x1 : Int)) ∧ w'.cell? ⟨w.heap.size, 2, none⟩ = some (.int .i64 (x2 : Int)) ∧ w'.cell? ⟨w.heap.size + 1, 0, none⟩ = some (.int .i64 (y0 : Int)) ∧ w'.cell? ⟨w.heap.size + 1, 1, none⟩ = some (.int .i64 (y1 : Int)) ∧ w'.cell? ⟨w.heap.size + 1, 2, none⟩ = some (.int .i64 (y2 : Int)) from
    have h1 := persist HX.out hb
    have h2 := persist HY.out hb
    ⟨cell_of h1 0 rfl, cell_of h1 1 rfl, cell_of h1 2 rfl, cell_of h2 0 rfl, cell_of h2 1 rfl, cell_of h2 2 rfl⟩))
  have HPK := Lib.hid (fun (w' : World) (hb : Below W.heap.size W w') => (show w'.cell? ⟨pk, 0, none⟩ = some (.int .i64 p) from (hb.cell (p := ⟨pk, 0, none⟩) hkW).trans HKW.out))
  have HL := Lib.hid (And.intro l0 (And.intro l1 (And.intro l2 (And.intro l3 (And.intro l4 l5)))))
  have HW := Lib.hid hW
  clear hX hY hZ hW hk l0 l1 l2 l3 l4 l5
  go_enter Try.func73, Try.ntmps73
  go_wp2_with fail
  rw [HW.out]
  have hD : Below W.heap.size W W.drew := (Below.refl _ _).drew
  obtain ⟨r0, r1, r2, r3, r4, r5⟩ := HSX.out _ hD
  obtain ⟨z0, hz0⟩ : ∃ z, crN p p0 p1 = z := ⟨_, rfl⟩
  obtain ⟨z1, hz1⟩ : ∃ z, crN p p2 p3 = z := ⟨_, rfl⟩
  obtain ⟨z2, hz2⟩ : ∃ z, crN p p4 p5 = z := ⟨_, rfl⟩
  have HC0 := Lib.hid (fun (w' : World) (hb : Below W.heap.size W w') => amodS_go w' pk p p0 p1 (HPK.out w' hb) hp HL.out.1 HL.out.2.1)
  have HC1 := Lib.hid (fun (w' : World) (hb : Below W.heap.size W w') => amodS_go w' pk p p2 p3 (HPK.out w' hb) hp HL.out.2.2.1 HL.out.2.2.2.1)
  have HC2 := Lib.hid (fun (w' : World) (hb : Below W.heap.size W w') => amodS_go w' pk p p4 p5 (HPK.out w' hb) hp HL.out.2.2.2.2.1 HL.out.2.2.2.2.2)
  rw [hz0] at HC0
  rw [hz1] at HC1
  rw [hz2] at HC2
  have HE := Lib.hid (And.intro hz0 (And.intro hz1 hz2))
  clear hz0 hz1 hz2
  have HSY := Lib.hid (fun (w' : World) (hb : Below W.heap.size W w') (v0 v1 v2 : Value) => (show (((w'.setCell ⟨w.heap.size + 1 + 1, 0, none⟩ v0).setCell ⟨w.heap.size + 1 + 1, 1, none⟩ v1).setCell ⟨w.heap.size + 1 + 1, 2, none⟩ v2).cell? ⟨w.heap.size, 0, none⟩ = some (.int .i64 (x0 : Int)) ∧ (((w'.setCell ⟨w.heap.size + 1 + 1, 0, none⟩ v0).setCell ⟨w.heap.size + 1 + 1, 1, none⟩ v1).setCell ⟨w.heap.size + 1 + 1, 2, none⟩ v2).cell? ⟨w.heap.size, 1, none⟩ = some (.int .i64 (x1 : Int)) ∧ (((w'.setCell ⟨w.heap.size + 1 + 1, 0, none⟩ v0).setCell ⟨w.heap.size + 1 + 1, 1, none⟩ v1).setCell ⟨w.heap.size + 1 + 1, 2, none⟩ v2).cell? ⟨w.heap.size, 2, none⟩ = some (.int .i64 (x2 : Int)) ∧ (((w'.setCell ⟨w.heap.size + 1 + 1, 0, none⟩ v0).setCell ⟨w.heap.size + 1 + 1, 1, none⟩ v1).setCell ⟨w.heap.size + 1 + 1, 2, none⟩ v2).cell? ⟨w.heap.size + 1, 0, none⟩ = some (.int .i64 (y0 : Int)) ∧ (((w'.setCell ⟨w.heap.size + 1 + 1, 0, none⟩ v0).setCell ⟨w.heap.size + 1 + 1, 1, none⟩ v1).setCell ⟨w.heap.size + 1 + 1, 2, none⟩ v2).cell? ⟨w.heap.size + 1, 1, none⟩ = some (.int .i64 (y1 : Int)) ∧ (((w'.setCell ⟨w.heap.size + 1 + 1, 0, none⟩ v0).setCell ⟨w.heap.size + 1 + 1, 1, none⟩ v1).setCell ⟨w.heap.size + 1 + 1, 2, none⟩ v2).cell? ⟨w.heap.size + 1, 2, none⟩ = some (.int .i64 (y2 : Int)) from
    have hA : ∀ (u : World) (i : Nat) (v : Value) (blk off : Nat), blk ≠ w.heap.size + 1 + 1 → (u.setCell ⟨w.heap.size + 1 + 1, i, none⟩ v).cell? ⟨blk, off, none⟩ = u.cell? ⟨blk, off, none⟩ := fun u i v blk off hne => World.cell?_setCell_other _ _ _ _ (by intro e; injection e with e; exact hne e.symm)
    have n0 : w.heap.size ≠ w.heap.size + 1 + 1 := by omega
    have n1 : w.heap.size + 1 ≠ w.heap.size + 1 + 1 := by omega
    have h := HSX.out _ hb
    ⟨by rw [hA _ _ _ _ _ n0, hA _ _ _ _ _ n0, hA _ _ _ _ _ n0]; exact h.1, by rw [hA _ _ _ _ _ n0, hA _ _ _ _ _ n0, hA _ _ _ _ _ n0]; exact h.2.1, by rw [hA _ _ _ _ _ n0, hA _ _ _ _ _ n0, hA _ _ _ _ _ n0]; exact h.2.2.1, by rw [hA _ _ _ _ _ n1, hA _ _ _ _ _ n1, hA _ _ _ _ _ n1]; exact h.2.2.2.1, by rw [hA _ _ _ _ _ n1, hA _ _ _ _ _ n1, hA _ _ _ _ _ n1]; exact h.2.2.2.2.1, by rw [hA _ _ _ _ _ n1, hA _ _ _ _ _ n1, hA _ _ _ _ _ n1]; exact h.2.2.2.2.2⟩))
  go_region_held3 (fun w' => w'.cell? ⟨w.heap.size, 0, none⟩ = some (.int .i64 (x0 : Int)) ∧ w'.cell? ⟨w.heap.size, 1, none⟩ = some (.int .i64 (x1 : Int)) ∧ w'.cell? ⟨w.heap.size, 2, none⟩ = some (.int .i64 (x2 : Int)) ∧ w'.cell? ⟨w.heap.size + 1, 0, none⟩ = some (.int .i64 (y0 : Int)) ∧ w'.cell? ⟨w.heap.size + 1, 1, none⟩ = some (.int .i64 (y1 : Int)) ∧ w'.cell? ⟨w.heap.size + 1, 2, none⟩ = some (.int .i64 (y2 : Int))) (first | exact HSX.out _ hD | exact HSY.out _ hD _ _ _ | go_keep)
    (first
      | ((with_reducible refine (HC0.out _ hD).mono ?_); rintro e w' ⟨rfl, hb⟩; replace hD := btr hD hb; clear hb)
      | ((with_reducible refine (HC1.out _ hD).mono ?_); rintro e w' ⟨rfl, hb⟩; replace hD := btr hD hb; clear hb)
      | ((with_reducible refine (HC2.out _ hD).mono ?_); rintro e w' ⟨rfl, hb⟩; replace hD := btr hD hb; clear hb; (have hZ := persist HZ.out hD); (have s0 := cell_of hZ 0 rfl); (have s1 := cell_of hZ 1 rfl); (have s2 := cell_of hZ 2 rfl); (have f0 := free_at hZ 0); (have f1 := free_at hZ 1); (have f2 := free_at hZ 2); (have zz := lt_of_block hZ)))
  have hZ := persist HZ.out hD
  have HR := Lib.hid (set_at (set_at (set_at hZ 0 (.int .i64 (z0 : Int))) 1 (.int .i64 (z1 : Int))) 2 (.int .i64 (z2 : Int)))
  have HBE := Lib.hid ((((btr HB0.out hD).setCell (p := ⟨w.heap.size + 1 + 1, 0, none⟩) (by show w.heap.size ≤ w.heap.size + 1 + 1; omega) (.int .i64 (z0 : Int))).setCell (p := ⟨w.heap.size + 1 + 1, 1, none⟩) (by show w.heap.size ≤ w.heap.size + 1 + 1; omega) (.int .i64 (z1 : Int))).setCell (p := ⟨w.heap.size + 1 + 1, 2, none⟩) (by show w.heap.size ≤ w.heap.size + 1 + 1; omega) (.int .i64 (z2 : Int)))
  have t0 := cell_of HR.out 0 rfl
  have t1 := cell_of HR.out 1 rfl
  have t2 := cell_of HR.out 2 rfl
  clear hZ hD r0 r1 r2 r3 r4 r5
  go_wp2
  exact bodyPost_ret (v := .agg #[.int .i64 (z0 : Int), .int .i64 (z1 : Int), .int .i64 (z2 : Int)]) (by simp [results, Try.results73, go_sem, *]) rfl ⟨by rw [HE.out.1, HE.out.2.1, HE.out.2.2], HBE.out⟩
end Go.Proofs.Ytiapngmallfelaa
