/- Chapter 9: a world with one act more; Less. -/
import Derived.Test.YtcmakddnjmeklaaWi
namespace Go.Proofs.Ytcmakddnjmeklaa
open Go.RowKit

theorem ActsTr.wide {w : World} {lo hi hi' : Nat} {v : Value} {A : List Ac} {E : Nat → Value} {D : Nat → Nat} (h : ActsTr w lo hi v A E D) (hh : hi ≤ hi') : ActsTr w lo hi' v A E D :=
  ⟨h.1.wide hh, h.2.1, h.2.2.1, Nat.le_trans h.2.2.2.1 hh, h.2.2.2.2⟩
theorem ActsTr.lt {w : World} {lo hi : Nat} {v : Value} {A : List Ac} {E : Nat → Value} {D : Nat → Nat} (h : ActsTr w lo hi v A E D) {b : Nat} (hb : v.ownBlock = some b) : lo ≤ b ∧ b < hi ∧ b < w.heap.size := by
  have q := h.1.1.lt b hb
  exact ⟨q.1, h.1.2 b hb, q.2⟩
theorem acl_set {A : List (List Ac)} {s : Nat} {x : List Ac} {i : Nat} (hi : i < A.length) : acl (A.set s x) i = if s = i then x else acl A i := by
  unfold acl
  rw [List.getD_eq_getElem?_getD, List.getElem?_set]
  by_cases q : s = i
  · subst q; simp [hi]
  · rw [if_neg q, if_neg q, List.getD_eq_getElem?_getD]
/-- One act more in a state: the slice of that state grown, and laid into its place. -/
theorem acts2_more {w w1 w2 : World} {lo : Nat} {xo : Option Addr} {n c s : Nat} {A : List (List Ac)} {E : Nat → Value} {D : Nat → Nat} (h : Acts2Tr w lo w.heap.size (.slice xo n c) A E D) (hs : s < A.length) {E' : Nat → Value} {D' : Nat → Nat} (hs' : ActsTr w (D s) (D (s + 1)) (E s) (acl A s) E' D')
    (hb : Below w.heap.size w w1) {ob : Obj} {x : Ac} {o' v' : Value} (hE : w1.ownsRow w.heap.size 3 1 o' x.o.length (x.o.map (Value.int .i64)))
    (hown : w2.ownsRow (D s) 50 2 v' ((acl A s).length + 1) (cells2 (fun i => .int .i64 (ac (acl A s) i).g) E' (acl A s).length ++ [.int .i64 x.g, o'])) (hg : (w1.alloc ob).grownBy w2 (E s).ownBlock) :
    ∃ g0, xo = some ⟨g0, 0, none⟩ ∧ lo ≤ g0 ∧ g0 < w2.heap.size ∧ (∃ cs, w2.heap[g0]? = some (.cells cs 49 (0, 0))) ∧ w2.cell? ⟨g0, s, none⟩ = some (E s) ∧ A2Sl (w2.setCell ⟨g0, s, none⟩ v') xo n c (A.set s (acl A s ++ [x])) := by
  have h0 := h
  obtain ⟨h1, h2, h3, h4, h5⟩ := h
  have hn : n = A.length := by
    obtain ⟨a2, c2, e⟩ := own_form h1.1
    injection e
  subst hn
  obtain ⟨g0, rfl, hlo, hg0, hnc, hc, hcells, _, cur, hcur⟩ := own_cells h1.1 (by omega)
  have hds : D (s + 1) ≤ w.heap.size := by have := mono_le h3 (s + 1) A.length (by omega) (by omega); omega
  have hk := app_keep hs'.1.1 hb hg
  have hcur2 := (hk.2.2 g0 cur _ (by decide) hcur).trans hcur
  have hsz : w.heap.size ≤ w2.heap.size := by have := hb.size; have := hk.1; omega
  have hcell2 : ∀ i, i < A.length → w2.cell? ⟨g0, i, none⟩ = some (E i) := fun i hi => by
    have q := hcells i (E i) (by simp [hi])
    rw [cells_at hcur] at q
    rw [cells_at hcur2]; exact q
  refine ⟨g0, rfl, hlo, by omega, ⟨cur, hcur2⟩, hcell2 s hs, by simp, hnc, hc, .inr (.inr ⟨g0, 0, rfl, by simp [World.setCell]; omega, fun i hi => ?_⟩)⟩
  rw [Nat.zero_add, Nat.mul_one]
  have hset := set_at hcur2 s v'
  have hsc : cur.size > s := by
    have q := hcells s (E s) (by simp [hs])
    rw [cells_at hcur] at q
    exact (Array.getElem?_eq_some_iff.1 q).1
  unfold A2El
  rw [acl_set hi]
  by_cases q : s = i
  · subst q
    rw [if_pos rfl]
    have hA := ActsTr.snoc (w0 := w) (lo := D s) (hs'.wide hds) (by have := mono_le h3 s A.length (by omega) (by omega); omega) hb hE hown hg
    have hA3 : ActsOwn (w2.setCell ⟨g0, s, none⟩ v') (D s) w2.heap.size v' (acl A s ++ [x]) := hA.keep fun b cs e _ _ he hbb => by
      refine Below.heap_setCell _ _ _ _ ?_
      rintro rfl
      rw [hcur2] at hbb
      injection hbb with hbb
      injection hbb with _ h4
      rcases he with rfl | rfl <;> exact absurd h4 (by decide)
    obtain ⟨a, cc, e, hsl⟩ := hA3.sl
    subst e
    exact ⟨a, _, cc, by rw [cells_at hset]; simp [hsc], hsl⟩
  · rw [if_neg q]
    have hA3 : ActsOwn (w2.setCell ⟨g0, s, none⟩ v') (D i) (D (i + 1)) (E i) (acl A i) := (h5 i hi).keep fun b cs e hbl hbh he hbb => by
      rw [Below.heap_setCell _ _ _ _ (by
        rintro rfl
        rw [hcur] at hbb
        injection hbb with hbb
        injection hbb with _ h4
        rcases he with rfl | rfl <;> exact absurd h4 (by decide))]
      refine app_block hb hg b (by have := mono_le h3 (i + 1) A.length (by omega) (by omega); omega) (fun e => ?_)
      have u := hs'.lt e
      rcases Nat.lt_or_gt_of_ne q with q | q
      · have := mono_le h3 (s + 1) i (by omega) (by omega); omega
      · have := mono_le h3 (i + 1) s (by omega) (by omega); omega
    obtain ⟨a, cc, e, hsl⟩ := hA3.sl
    refine ⟨a, _, cc, ?_, hsl⟩
    rw [← e, cells_at hset, Array.getElem?_setIfInBounds_ne q, ← cells_at hcur2]
    exact hcell2 i hi

set_option maxHeartbeats 400000 in
theorem less_go (w : World) (x y : Fr) (hx : FrLow x) (hy : FrLow y) :
    Calls Try.prog 26 #[fv x, fv y] w fun e w' => e = .returned (.bool (decide (x.n * y.d < y.n * x.d))) ∧ Below w.heap.size w w' := by
  obtain ⟨x1, x2, x3, x4, _⟩ := hx
  obtain ⟨y1, y2, y3, y4, _⟩ := hy
  have m1 := mul_le3 (A := 4294967296) (B := 67108864) x3 x4 (show -67108864 ≤ y.d by omega) y2 (by omega)
  have m2 := mul_le3 (A := 4294967296) (B := 67108864) y3 y4 (show -67108864 ≤ x.d by omega) x2 (by omega)
  obtain ⟨xn, xd⟩ := x
  obtain ⟨yn, yd⟩ := y
  have m1 : -(4294967296 * 67108864) ≤ xn * yd ∧ xn * yd ≤ 4294967296 * 67108864 := m1
  have m2 : -(4294967296 * 67108864) ≤ yn * xd ∧ yn * xd ≤ 4294967296 * 67108864 := m2
  have h3 := box3 w (.cells #[.int .i64 xn, .int .i64 xd] 53) (.cells #[.int .i64 yn, .int .i64 yd] 53)
  clear h3
  have HB := Lib.hid (bal (bal (Below.refl w.heap.size w) (.cells #[.int .i64 xn, .int .i64 xd] 53)) (.cells #[.int .i64 yn, .int .i64 yd] 53))
  show Calls Try.prog _ #[.agg #[.int .i64 xn, .int .i64 xd], .agg #[.int .i64 yn, .int .i64 yd]] w fun e w' => e = .returned (.bool (decide (xn * yd < yn * xd))) ∧ Below w.heap.size w w'
  generalize hp : xn * yd = p at *
  generalize hq : yn * xd = q at *
  go_enter Try.func26, Try.ntmps26
  go_wp2
  go_ret
  exact ⟨rfl, HB.out⟩
end Go.Proofs.Ytcmakddnjmeklaa
