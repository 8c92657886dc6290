
/- Walks: once, numbers. -/
import Derived.Test.YtiapngmallfelaaGraph
namespace Go.Proofs.Ytiapngmallfelaa
open Go.RowKit

theorem cells_at {w : World} {p : Nat} {c : Array Value} {E : TypeId} (h : w.heap[p]? = some (.cells c E (0, 0))) (i : Nat) : w.cell? ⟨p, i, none⟩ = c[i]? := by simp [World.cell?, h]
theorem free_at {w : World} {p : Nat} {c : Array Value} {E : TypeId} (h : w.heap[p]? = some (.cells c E (0, 0))) (i : Nat) : w.frozen? ⟨p, i, none⟩ = false := by simp [World.frozen?, h]
theorem set_at {w : World} {p : Nat} {c : Array Value} {E : TypeId} (h : w.heap[p]? = some (.cells c E (0, 0))) (i : Nat) (v : Value) : (w.setCell ⟨p, i, none⟩ v).heap[p]? = some (.cells (c.setIfInBounds i v) E (0, 0)) := by
  simp [World.setCell, Array.getElem?_modify, h]
theorem grown_set {w w' : World} {p i : Nat} (h : w.grownBy w' (some p)) (v : Value) : w.grownBy (w'.setCell ⟨p, i, none⟩ v) (some p) :=
  ⟨h.os, h.tape, h.output, by simpa [World.setCell] using h.size, fun k hk hne => by
    rw [Below.heap_setCell _ _ _ _ (by intro e; exact hne (by rw [e]))]; exact h.block k hk hne⟩

/-! ### type once -/
abbrev Once := Int × Bool × Bool
def onceCells (s : Once) : Array Value := #[.int .i64 s.1, .bool s.2.1, .bool s.2.2]
def tellSt (s : Once) (v : Int) : Once := (v, true, s.2.2 || (s.2.1 && s.1 != v))
def TellPost (w : World) (p : Nat) (s : Once) (v : Int) (e : Ending) (w' : World) : Prop :=
  e = .returned (.tuple #[]) ∧ w'.heap[p]? = some (.cells (onceCells (tellSt s v)) 79 (0, 0)) ∧ w.grownBy w' (some p)

theorem tell_end {w : World} {p : Nat} {s : Once} {v : Int} (h : w.heap[p]? = some (.cells (onceCells s) 79 (0, 0))) (f : Bool) (hf : f = (tellSt s v).2.2) :
    TellPost w p s v (.returned (.tuple #[])) (((w.setCell ⟨p, 2, none⟩ (.bool f)).setCell ⟨p, 0, none⟩ (.int .i64 v)).setCell ⟨p, 1, none⟩ (.bool true)) := by
  refine ⟨rfl, ?_, grown_set (grown_set (grown_set ⟨rfl, rfl, rfl, Nat.le_refl _, fun _ _ _ => rfl⟩ _) _) _⟩
  rw [set_at (set_at (set_at h 2 _) 0 _) 1 _, hf]
  simp [onceCells, tellSt]

set_option maxHeartbeats 400000 in
theorem tell_go (w : World) (p : Nat) (n v : Int) (told fail : Bool) (h : w.heap[p]? = some (.cells (onceCells (n, told, fail)) 79 (0, 0))) :
    Calls Try.prog 62 #[.pointer (some ⟨p, 0, none⟩), .int .i64 v] w (TellPost w p (n, told, fail) v) := by
  have c0 : w.cell? ⟨p, 0, none⟩ = some (.int .i64 n) := by rw [cells_at h]; rfl
  have c1 : w.cell? ⟨p, 1, none⟩ = some (.bool told) := by rw [cells_at h]; rfl
  have c2 : w.cell? ⟨p, 2, none⟩ = some (.bool fail) := by rw [cells_at h]; rfl
  have f0 := free_at h 0
  have f1 := free_at h 1
  have f2 := free_at h 2
  have HH := Lib.hid h
  clear h
  cases fail with
  | true =>
    go_enter Try.func62, Try.ntmps62
    go_wp2
    go_end0
    exact tell_end HH.out _ rfl
  | false =>
    cases told with
    | false =>
      go_enter Try.func62, Try.ntmps62
      go_wp2
      go_end0
      exact tell_end HH.out _ rfl
    | true =>
      go_enter Try.func62, Try.ntmps62
      go_wp2
      go_end0
      exact tell_end HH.out _ (by simp [tellSt])

end Go.Proofs.Ytiapngmallfelaa
