
/- Walks: bits.TrailingZeros; rooks.columns: the iterator. -/
import Derived.Test.YtiapngmallfelaaDoorZb
import Derived.RangeFuncNested
import Derived.RangeFuncBound
import Derived.RangeFuncCalls
import Derived.RangeFuncLeaves
import Derived.Shelf.Abstract
import Derived.OwnWalkIn
import Derived.TacticsInMore
import Derived.LoopNIn
import Derived.LoopIn
namespace Go.Proofs.YtiapngmallfelaaDoor
open Go.RowKit
set_option linter.unusedSimpArgs false
def tzN (s : Nat) : Nat := if s % 2 = 1 then 0 else if s / 2 % 2 = 1 then 1 else if s / 4 % 2 = 1 then 2 else if s / 8 % 2 = 1 then 3 else 4
def ixN (s : Nat) : Nat := 2 ^ tzN s - 1
/-- The table that TrailingZeros64 reads, at the places that numbers below 32 reach. -/
def Tab (w : World) : Prop := 1 < w.heap.size ∧ w.cell? ⟨1, 0, none⟩ = some (.int .u8 0) ∧ w.cell? ⟨1, 1, none⟩ = some (.int .u8 1) ∧ w.cell? ⟨1, 3, none⟩ = some (.int .u8 2) ∧ w.cell? ⟨1, 7, none⟩ = some (.int .u8 3) ∧ w.cell? ⟨1, 15, none⟩ = some (.int .u8 4)
theorem Tab.mono {w w' : World} (h : Tab w) (hs : w.heap.size ≤ w'.heap.size) (hb : w'.heap[1]? = w.heap[1]?) : Tab w' := by
  have k : ∀ o, w'.cell? ⟨1, o, none⟩ = w.cell? ⟨1, o, none⟩ := fun o => by unfold World.cell?; simp only [hb]
  obtain ⟨h0, h1, h2, h3, h4, h5⟩ := h
  exact ⟨by omega, (k _).trans h1, (k _).trans h2, (k _).trans h3, (k _).trans h4, (k _).trans h5⟩
theorem Tab.at {w : World} (h : Tab w) (s : Nat) : w.cell? ⟨1, ixN s, none⟩ = some (.int .u8 ((tzN s : Nat) : Int)) ∧ tzN s < 5 ∧ ixN s < 16 := by
  obtain ⟨_, h1, h2, h3, h4, h5⟩ := h
  have ht : tzN s = 0 ∨ tzN s = 1 ∨ tzN s = 2 ∨ tzN s = 3 ∨ tzN s = 4 := by unfold tzN; split; simp; split; simp; split; simp; split; simp; simp
  unfold ixN
  rcases ht with e | e | e | e | e <;> rw [e]
  · exact ⟨h1, by decide, by decide⟩
  · exact ⟨h2, by decide, by decide⟩
  · exact ⟨h3, by decide, by decide⟩
  · exact ⟨h4, by decide, by decide⟩
  · exact ⟨h5, by decide, by decide⟩
theorem tz_ix {s : Nat} (h0 : 0 < s) (hs : s < 32) : IntKind.u64.wrap (bits .and .u64 (s : Int) (IntKind.u64.wrap (-(s : Int))) * 285870213051353865) / 288230376151711744 = ((ixN s : Nat) : Int) := by
  have h : ((List.range 32).all fun s => s == 0 || IntKind.u64.wrap (bits .and .u64 (s : Int) (IntKind.u64.wrap (-(s : Int))) * 285870213051353865) / 288230376151711744 == ((ixN s : Nat) : Int)) = true := by kernel_rfl
  have h1 := List.all_eq_true.1 h s (List.mem_range.2 hs)
  simp only [Bool.or_eq_true, beq_iff_eq] at h1
  rcases h1 with h1 | h1
  · omega
  · exact h1
theorem tz64_go (w : World) (s : Nat) (h0 : 0 < s) (hs : s < 32) (hT : Tab w) :
    Calls Tryd.prog 45 #[.int .u64 (s : Int)] w fun e w' => e = .returned (.int .i64 ((tzN s : Nat) : Int)) ∧ w = w' := by
  have d0 : ((s : Int) == 0) = false := by rw [beq_eq_false_iff_ne]; omega
  have hix := tz_ix h0 hs
  obtain ⟨hc, ht, hi⟩ := hT.at s
  have hz := hT.1
  clear hT
  generalize tzN s = t at *
  generalize ixN s = i at *
  have k1 : IntKind.i64.wrap (t : Int) = (t : Int) := by rw [IntWalk.i64_left]; exact IntWalk.wrap64_in _ (by omega)
  go_enter Tryd.func45, Tryd.ntmps45
  go_wp2
  go_ret
  exact ⟨rfl, rfl⟩
theorem tz_go (w : World) (s : Nat) (h0 : 0 < s) (hs : s < 32) (hT : Tab w) :
    Calls Tryd.prog 34 #[.int .u64 (s : Int)] w fun e w' => e = .returned (.int .i64 ((tzN s : Nat) : Int)) ∧ w = w' := by
  have HC := Lib.hid (tz64_go w s h0 hs hT)
  clear hT
  go_enter Tryd.func34, Tryd.ntmps34
  go_wp2_with fail
  refine HC.out.mono ?_
  rintro e w' ⟨rfl, rfl⟩
  go_wp2
  go_ret
  exact ⟨rfl, rfl⟩
end Go.Proofs.YtiapngmallfelaaDoor
