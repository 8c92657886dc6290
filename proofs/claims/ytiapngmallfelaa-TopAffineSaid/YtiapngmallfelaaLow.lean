
/- Walks: the small functions on sets and slices. -/
import Derived.Test.YtiapngmallfelaaOnes
namespace Go.Proofs.Ytiapngmallfelaa
open Go.RowKit

/-- A contract's ending of a function that only computes. -/
def Is (w : World) (v : Value) (e : Ending) (w' : World) : Prop := e = .returned v ∧ w = w'

set_option maxHeartbeats 400000 in
theorem ones64_go (w : World) (x : Nat) (h : x < 65536) :
    Calls Try.prog 82 #[.int .u64 x] w fun e w' => e = .returned (.int .i64 (pop x)) ∧ w = w' := by
  have b := oc_bounds h
  have r1 := oc1_go x (by omega)
  have r2 := oc2_go (oc1 x) (by omega)
  have r3 := oc3_go (oc2 (oc1 x)) (by omega)
  have r4 := oc4_go (oc3 (oc2 (oc1 x))) (by omega)
  have r5 := oc5_go (oc4 (oc3 (oc2 (oc1 x)))) (by omega)
  have r6 := oc6_go (oc5 (oc4 (oc3 (oc2 (oc1 x))))) (by omega)
  have bd : oc6 (oc5 (oc4 (oc3 (oc2 (oc1 x))))) < 16000000 := by
    have : oc6 (oc5 (oc4 (oc3 (oc2 (oc1 x))))) = oc5 (oc4 (oc3 (oc2 (oc1 x)))) + oc5 (oc4 (oc3 (oc2 (oc1 x)))) / 4294967296 := rfl
    omega
  have fin : oc6 (oc5 (oc4 (oc3 (oc2 (oc1 x))))) % 128 = pop x := oc_pop h
  have r7 : bits .and .i64 (wrap64 (oc6 (oc5 (oc4 (oc3 (oc2 (oc1 x))))) : Int)) 127 = (pop x : Int) := by
    rw [IntWalk.wrap64_in _ (by omega), i64_and127]; omega
  generalize oc6 (oc5 (oc4 (oc3 (oc2 (oc1 x))))) = o6 at *
  generalize oc5 (oc4 (oc3 (oc2 (oc1 x)))) = o5 at *
  generalize oc4 (oc3 (oc2 (oc1 x))) = o4 at *
  generalize oc3 (oc2 (oc1 x)) = o3 at *
  generalize oc2 (oc1 x) = o2 at *
  generalize oc1 x = o1 at *
  clear fin bd b
  go_enter Try.func82, Try.ntmps82
  go_wp2
  go_ret
  exact ⟨rfl, rfl⟩

theorem ones_go (w : World) (x : Nat) (h : x < 65536) :
    Calls Try.prog 68 #[.int .u64 x] w fun e w' => e = .returned (.int .i64 (pop x)) ∧ w = w' := by
  go_enter Try.func68, Try.ntmps68
  go_wp2_with (go_at_call 82; refine (ones64_go _ _ h).mono ?_; rintro e w' ⟨rfl, rfl⟩)
  go_ret
  exact ⟨rfl, rfl⟩

theorem wrapu (x : Nat) (h : x < 65536) : IntKind.u64.wrap (x : Int) = x := by rw [IntKind.wrap_u64]; omega

theorem count_go (w : World) (x : Nat) (h : x < 65536) :
    Calls Try.prog 63 #[.int .i64 x] w fun e w' => e = .returned (.int .i64 (pop x)) ∧ w = w' := by
  have hw := wrapu x h
  go_enter Try.func63, Try.ntmps63
  go_wp2_with (go_at_call 68; refine (ones_go _ _ h).mono ?_; rintro e w' ⟨rfl, rfl⟩)
  go_ret
  exact ⟨rfl, rfl⟩

end Go.Proofs.Ytiapngmallfelaa
