/- Rows of rows while they are made. -/
import Derived.Test.YtiapngmallfelaaPiv
namespace Go.Proofs.Ytiapngmallfelaa
open Go.RowKit

/-- Block A holds n slices; the first r are whole, those behind r are nil. -/
def RowsAt (w : World) (B A n r : Nat) (blk cap : Nat → Nat) (f : Nat → Nat → Int) : Prop :=
  B ≤ A ∧ A < w.heap.size ∧ (∀ i, i < n → w.frozen? ⟨A, i, none⟩ = false) ∧
  (∀ i, i < r → w.cell? ⟨A, i, none⟩ = some (.slice (some ⟨blk i, 0, none⟩) n (cap i))) ∧
  (∀ i, r < i → i < n → w.cell? ⟨A, i, none⟩ = some (.slice none 0 0)) ∧
  (∀ i, i < r → A < blk i ∧ blk i < w.heap.size ∧ n ≤ cap i ∧ cap i ≤ maxLen) ∧
  (∀ i j, i < r → j < n → w.cell? ⟨blk i, j, none⟩ = some (.int .i64 (f i j)) ∧ w.frozen? ⟨blk i, j, none⟩ = false) ∧
  (∀ i j, i < r → j < r → blk i = blk j → i = j)

theorem RowsAt.mat {w : World} {B A n : Nat} {blk cap : Nat → Nat} {f : Nat → Nat → Int} (h : RowsAt w B A n n blk cap f) : MatAt w B A n blk cap f := by
  obtain ⟨h1, h2, h3, h4, h5, h6, h7, h8⟩ := h
  exact ⟨h1, h2, fun i hi => ⟨h4 i hi, h3 i hi⟩, fun i hi => ⟨by have := (h6 i hi).1; omega, (h6 i hi).2.1, by have := (h6 i hi).1; omega, (h6 i hi).2.2⟩, h7, h8⟩
/-- All blocks below R stay. -/
theorem RowsAt.keep {w w' : World} {B A n r R : Nat} {blk cap : Nat → Nat} {f : Nat → Nat → Int} (h : RowsAt w B A n r blk cap f) (hA : A < R) (hb : ∀ i, i < r → blk i < R) (hsz : w.heap.size ≤ w'.heap.size)
    (hk : ∀ k, k < R → w'.heap[k]? = w.heap[k]?) : RowsAt w' B A n r blk cap f := by
  obtain ⟨h1, h2, h3, h4, h5, h6, h7, h8⟩ := h
  have c : ∀ b o, b < R → w'.cell? ⟨b, o, none⟩ = w.cell? ⟨b, o, none⟩ := fun b o q => by simp only [World.cell?]; rw [hk b q]
  have z : ∀ b o, b < R → w'.frozen? ⟨b, o, none⟩ = w.frozen? ⟨b, o, none⟩ := fun b o q => by simp only [World.frozen?]; rw [hk b q]
  exact ⟨h1, Nat.lt_of_lt_of_le h2 hsz, fun i hi => (z A i hA).trans (h3 i hi), fun i hi => (c A i hA).trans (h4 i hi), fun i hi hn => (c A i hA).trans (h5 i hi hn),
    fun i hi => ⟨(h6 i hi).1, Nat.lt_of_lt_of_le (h6 i hi).2.1 hsz, (h6 i hi).2.2⟩, fun i j hi hj => ⟨(c _ j (hb i hi)).trans (h7 i j hi hj).1, (z _ j (hb i hi)).trans (h7 i j hi hj).2⟩, h8⟩
/-- The head of the row that is being made is set. -/
theorem RowsAt.head {w : World} {B A n r : Nat} {blk cap : Nat → Nat} {f : Nat → Nat → Int} (h : RowsAt w B A n r blk cap f) (v : Value) : RowsAt (w.setCell ⟨A, r, none⟩ v) B A n r blk cap f := by
  obtain ⟨h1, h2, h3, h4, h5, h6, h7, h8⟩ := h
  have hsz : (w.setCell ⟨A, r, none⟩ v).heap.size = w.heap.size := by simp [World.setCell]
  refine ⟨h1, by rw [hsz]; exact h2, fun i hi => by rw [World.frozen?_setCell]; exact h3 i hi, fun i hi => ?_, fun i hi hn => ?_, fun i hi => by rw [hsz]; exact h6 i hi, fun i j hi hj => ⟨?_, by rw [World.frozen?_setCell]; exact (h7 i j hi hj).2⟩, h8⟩
  · rw [World.cell?_setCell_other _ _ _ _ (by intro q; injection q with _ q2; omega)]; exact h4 i hi
  · rw [World.cell?_setCell_other _ _ _ _ (by intro q; injection q with _ q2; omega)]; exact h5 i hi hn
  · rw [World.cell?_setCell_other _ _ _ _ (by intro q; injection q with q1; have := (h6 i hi).1; omega)]; exact (h7 i j hi hj).1
/-- A row is whole. -/
theorem RowsAt.next {w : World} {B A n r g cp : Nat} {blk cap : Nat → Nat} {f : Nat → Nat → Int} (h : RowsAt w B A n r blk cap f) (hr : r < n) (hc : w.cell? ⟨A, r, none⟩ = some (.slice (some ⟨g, 0, none⟩) n cp))
    (hg : A < g) (hgs : g < w.heap.size) (hcp : n ≤ cp) (hcm : cp ≤ maxLen) (hnew : ∀ i, i < r → blk i ≠ g) (hrow : ∀ j, j < n → w.cell? ⟨g, j, none⟩ = some (.int .i64 (f r j)) ∧ w.frozen? ⟨g, j, none⟩ = false) :
    RowsAt w B A n (r + 1) (fun i => if i = r then g else blk i) (fun i => if i = r then cp else cap i) f := by
  obtain ⟨h1, h2, h3, h4, h5, h6, h7, h8⟩ := h
  refine ⟨h1, h2, h3, fun i hi => ?_, fun i hi hn => h5 i (by omega) hn, fun i hi => ?_, fun i j hi hj => ?_, fun i j hi hj e => ?_⟩
  · show _ = some (Value.slice (some ⟨if i = r then g else blk i, 0, none⟩) n (if i = r then cp else cap i))
    by_cases e : i = r
    · subst e; rw [if_pos rfl, if_pos rfl]; exact hc
    · rw [if_neg e, if_neg e]; exact h4 i (by omega)
  · show A < (if i = r then g else blk i) ∧ (if i = r then g else blk i) < w.heap.size ∧ n ≤ (if i = r then cp else cap i) ∧ (if i = r then cp else cap i) ≤ maxLen
    by_cases e : i = r
    · rw [if_pos e, if_pos e]; exact ⟨hg, hgs, hcp, hcm⟩
    · rw [if_neg e, if_neg e]; exact h6 i (by omega)
  · show w.cell? ⟨if i = r then g else blk i, j, none⟩ = _ ∧ w.frozen? ⟨if i = r then g else blk i, j, none⟩ = false
    by_cases e : i = r
    · subst e; rw [if_pos rfl]; exact hrow j hj
    · rw [if_neg e]; exact h7 i j (by omega) hj
  · have e' : (if i = r then g else blk i) = (if j = r then g else blk j) := e
    by_cases q1 : i = r
    · by_cases q2 : j = r
      · omega
      · rw [if_pos q1, if_neg q2] at e'; exact absurd e'.symm (hnew j (by omega))
    · by_cases q2 : j = r
      · rw [if_neg q1, if_pos q2] at e'; exact absurd e' (hnew i (by omega))
      · rw [if_neg q1, if_neg q2] at e'; exact h8 i j (by omega) (by omega) e'
end Go.Proofs.Ytiapngmallfelaa
