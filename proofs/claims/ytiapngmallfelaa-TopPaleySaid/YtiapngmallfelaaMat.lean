/- Rows of rows in memory, as a table of integers. -/
import Derived.Test.YtiapngmallfelaaSgT
namespace Go.Proofs.Ytiapngmallfelaa
open Go.RowKit

/-- Block A holds n slices of n integers each, in blocks of their own, from block B on. -/
def MatAt (w : World) (B A n : Nat) (blk cap : Nat → Nat) (f : Nat → Nat → Int) : Prop :=
  B ≤ A ∧ A < w.heap.size ∧
  (∀ i, i < n → w.cell? ⟨A, i, none⟩ = some (.slice (some ⟨blk i, 0, none⟩) n (cap i)) ∧ w.frozen? ⟨A, i, none⟩ = false) ∧
  (∀ i, i < n → B ≤ blk i ∧ blk i < w.heap.size ∧ blk i ≠ A ∧ n ≤ cap i ∧ cap i ≤ maxLen) ∧
  (∀ i j, i < n → j < n → w.cell? ⟨blk i, j, none⟩ = some (.int .i64 (f i j)) ∧ w.frozen? ⟨blk i, j, none⟩ = false) ∧
  (∀ i j, i < n → j < n → blk i = blk j → i = j)

theorem MatAt.drewN {w : World} {B A n m : Nat} {blk cap : Nat → Nat} {f : Nat → Nat → Int} (h : MatAt w B A n blk cap f) : MatAt (w.drewN m) B A n blk cap f := h
theorem MatAt.mono {w w' : World} {B A n : Nat} {blk cap : Nat → Nat} {f : Nat → Nat → Int} (h : MatAt w B A n blk cap f) (hb : Below w.heap.size w w') : MatAt w' B A n blk cap f := by
  obtain ⟨h1, h2, h3, h4, h5, h6⟩ := h
  refine ⟨h1, Nat.lt_of_lt_of_le h2 hb.size, fun i hi => ?_, fun i hi => ?_, fun i j hi hj => ?_, h6⟩
  · exact ⟨(hb.cell (p := ⟨A, i, none⟩) h2).trans (h3 i hi).1, (hb.frozen (p := ⟨A, i, none⟩) h2).trans (h3 i hi).2⟩
  · obtain ⟨k1, k2, k3⟩ := h4 i hi
    exact ⟨k1, Nat.lt_of_lt_of_le k2 hb.size, k3⟩
  · have k := (h4 i hi).2.1
    exact ⟨(hb.cell (p := ⟨blk i, j, none⟩) k).trans (h5 i j hi hj).1, (hb.frozen (p := ⟨blk i, j, none⟩) k).trans (h5 i j hi hj).2⟩
theorem MatAt.congr {w : World} {B A n : Nat} {blk cap : Nat → Nat} {f g : Nat → Nat → Int} (h : MatAt w B A n blk cap f) (e : ∀ i j, i < n → j < n → f i j = g i j) : MatAt w B A n blk cap g := by
  obtain ⟨h1, h2, h3, h4, h5, h6⟩ := h
  exact ⟨h1, h2, h3, h4, fun i j hi hj => by rw [← e i j hi hj]; exact h5 i j hi hj, h6⟩
/-- One entry is set. -/
theorem MatAt.set {w : World} {B A n : Nat} {blk cap : Nat → Nat} {f : Nat → Nat → Int} (h : MatAt w B A n blk cap f) {i j : Nat} (hi : i < n) (hj : j < n) (v : Int) :
    MatAt (w.setCell ⟨blk i, j, none⟩ (.int .i64 v)) B A n blk cap (fun r c => if r = i ∧ c = j then v else f r c) := by
  obtain ⟨h1, h2, h3, h4, h5, h6⟩ := h
  have hsz : (w.setCell ⟨blk i, j, none⟩ (.int .i64 v)).heap.size = w.heap.size := by simp [World.setCell]
  refine ⟨h1, by rw [hsz]; exact h2, fun r hr => ?_, fun r hr => ?_, fun r c hr hc => ?_, h6⟩
  · refine ⟨?_, by rw [World.frozen?_setCell]; exact (h3 r hr).2⟩
    rw [World.cell?_setCell_other _ _ _ _ (by intro e; injection e with e1; exact (h4 i hi).2.2.1 e1)]
    exact (h3 r hr).1
  · rw [hsz]; exact h4 r hr
  · refine ⟨?_, by rw [World.frozen?_setCell]; exact (h5 r c hr hc).2⟩
    show _ = some (Value.int .i64 (if r = i ∧ c = j then v else f r c))
    by_cases e : r = i ∧ c = j
    · obtain ⟨rfl, rfl⟩ := e
      rw [if_pos ⟨rfl, rfl⟩]
      exact World.cell?_setCell_same _ _ _ (h5 r c hr hc).1
    · rw [if_neg e, World.cell?_setCell_other _ _ _ _ ?_]
      · exact (h5 r c hr hc).1
      · intro q; injection q with q1 q2
        exact e ⟨(h6 i r hi hr q1).symm, q2.symm⟩
/-- Two rows change places. -/
def sw2 (k p i : Nat) : Nat := if i = k then p else if i = p then k else i
theorem MatAt.swap {w : World} {B A n : Nat} {blk cap : Nat → Nat} {f : Nat → Nat → Int} (h : MatAt w B A n blk cap f) {k p : Nat} (hk : k < n) (hp : p < n) :
    MatAt ((w.setCell ⟨A, k, none⟩ (.slice (some ⟨blk p, 0, none⟩) n (cap p))).setCell ⟨A, p, none⟩ (.slice (some ⟨blk k, 0, none⟩) n (cap k))) B A n (fun i => blk (sw2 k p i)) (fun i => cap (sw2 k p i)) (fun i => f (sw2 k p i)) := by
  obtain ⟨h1, h2, h3, h4, h5, h6⟩ := h
  have hs : ∀ i, i < n → sw2 k p i < n := fun i hi => by unfold sw2; split <;> (try split) <;> omega
  have hinj : ∀ i j, sw2 k p i = sw2 k p j → i = j := fun i j e => by
    unfold sw2 at e
    split at e <;> split at e <;> (try split at e) <;> (try split at e) <;> omega
  have hsz : ∀ (w : World) (a : Addr) (v : Value), (w.setCell a v).heap.size = w.heap.size := fun w a v => by simp [World.setCell]
  refine ⟨h1, by rw [hsz, hsz]; exact h2, fun i hi => ?_, fun i hi => ?_, fun i j hi hj => ?_, fun i j hi hj e => hinj i j (h6 _ _ (hs i hi) (hs j hj) e)⟩
  · refine ⟨?_, by rw [World.frozen?_setCell, World.frozen?_setCell]; exact (h3 i hi).2⟩
    show _ = some (Value.slice (some ⟨blk (sw2 k p i), 0, none⟩) n (cap (sw2 k p i)))
    by_cases e1 : i = p
    · subst e1
      have : sw2 k i i = k := by unfold sw2; split <;> simp_all
      rw [this]
      obtain ⟨u, hu⟩ := cell?_setCell_some (p := ⟨A, k, none⟩) (x := .slice (some ⟨blk i, 0, none⟩) n (cap i)) (h3 i hi).1
      exact World.cell?_setCell_same _ _ _ hu
    · rw [World.cell?_setCell_other _ _ _ _ (by intro q; injection q with _ q2; exact e1 q2.symm)]
      by_cases e2 : i = k
      · subst e2
        have : sw2 i p i = p := by unfold sw2; rw [if_pos rfl]
        rw [this]
        exact World.cell?_setCell_same _ _ _ (h3 i hi).1
      · have : sw2 k p i = i := by unfold sw2; rw [if_neg e2, if_neg e1]
        rw [this, World.cell?_setCell_other _ _ _ _ (by intro q; injection q with _ q2; exact e2 q2.symm)]
        exact (h3 i hi).1
  · rw [hsz, hsz]; exact h4 _ (hs i hi)
  · have hA := (h4 _ (hs i hi)).2.2.1
    refine ⟨?_, by rw [World.frozen?_setCell, World.frozen?_setCell]; exact (h5 _ j (hs i hi) hj).2⟩
    rw [World.cell?_setCell_other _ _ _ _ (by intro q; injection q with q1; exact hA q1.symm), World.cell?_setCell_other _ _ _ _ (by intro q; injection q with q1; exact hA q1.symm)]
    exact (h5 _ j (hs i hi) hj).1
end Go.Proofs.Ytiapngmallfelaa
