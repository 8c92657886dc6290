/-
  The law SchemesSpectra holds: for every input the Go function returns true and leaves its arguments as they were. No condition.
-/
import Derived.Test.YtijnpcehjnaaiaaRows
import Derived.Test.YtijnpcehjnaaiaaRow
import Derived.Test.YtijnpcehjnaaiaaLSpectra
import Derived.WalkKit
import Derived.ProofKit
import Derived.OpenShut
import Derived.ShutString
import Derived.Lib.SmallJoins
namespace Go.Proofs.Ytijnpcehjnaaiaa.schemesSpectra
open Go.ChangeShapes Go.WideShapes Go.ChangeAt Go.RowKit Go.Joins

theorem own : ownKnob Try.prog.godebug = none := by kernel_rfl
theorem cells : Try.prog.cellsOf 32 = 4 := by kernel_rfl

/-! ### The walk -/
theorem walk (a b c d : Int) (w : World) :
    Calls Try.prog 12 #[agg4 a b c d] w fun e w' => e = .returned (.bool true) ∧ Below w.heap.size w w' := by
  exact lspec_walk w a b c d

/-! ### The row's step -/
set_option maxRecDepth 100000 in
theorem lifted (os : Os) (started : os.Started) (H : Type) (enc : TypeId × Value → H) :
    ReturnsInHanded {} Try.checked os 12 .any (Rows.schemesSpectraSpec.pre6 enc Try.prog Try.f12 Rows.schemesSpectraRow.domain false) (Rows.schemesSpectraSpec.post enc Try.prog Try.f12 false true false false) := by
  refine returnsInHanded_of_change (C := Try.checked) own started (by kernel_rfl) Try.func12
    (ChangeSpec.witness6 (enc := enc) (C := Try.checked) false ⟨#[], #[.agg #[.int .i64 0, .int .i64 0, .int .i64 0, .int .i64 0]], []⟩ 8 (by kernel_rfl) (by kernel_rfl) (by kernel_rfl) (by kernel_rfl)) ?_
  intro W base args ds gs before hval0 hW hcnd _
  have hval : ∀ (j : Nat) t v, Try.f12.params[j]? = some t → args[j]? = some v → Value.okWide Try.prog W .any base t v := hval0
  have hW' := hW
  obtain ⟨p, q, hA0, hV, rfl, hfz, hnd⟩ := hW
  have hA : DataW.TrodAll enc Try.prog W 0 (fun _ => true) true Try.f12.params.toList args.toList ds p := hA0
  rw [Try.params12] at hA hval
  obtain ⟨v0, vs0, d0, ds0, p0, q0, hargs, rfl, rfl, h0, r0⟩ := trodAll_cons hA
  obtain ⟨rfl, rfl, rfl⟩ := trodAll_nil r0
  obtain rfl : args = #[v0] := by cases args; simp_all
  obtain ⟨rfl, rfl⟩ := trodVars_none hV
  obtain ⟨c0, c1, c2, c3, y0, y1, y2, y3, n, rfl, rfl, rfl, t0, t1, t2, t3⟩ := open_agg4 Try.underlying32 (by kernel_rfl) cells (hval 0 32 v0 rfl rfl) h0
  obtain ⟨a0, e0, rfl, w0⟩ := DataW.trod_int Try.underlying3 t0
  obtain ⟨a1, e1, rfl, w1⟩ := DataW.trod_int Try.underlying3 t1
  obtain ⟨a2, e2, rfl, w2⟩ := DataW.trod_int Try.underlying3 t2
  obtain ⟨a3, e3, rfl, w3⟩ := DataW.trod_int Try.underlying3 t3
  simp at e0 e1 e2 e3
  subst e0 e1 e2 e3
  clear hA0 hval0
  refine (walk a0 a1 a2 a3 W).mono fun e W' ⟨he, hg⟩ => ?_
  subst he
  exact ⟨_, rfl, _, _, _, [], _, [], hW', (trodAll_cons_mk (shut_bool Try.underlying4 _) trodAll_mk0), (trodAll_cons_mk (shut_agg4 Try.underlying32 (by kernel_rfl) cells ⟨1, trod_int_mk 0 Try.underlying3 w0⟩ ⟨1, trod_int_mk 0 Try.underlying3 w1⟩ ⟨1, trod_int_mk 0 Try.underlying3 w2⟩ ⟨1, trod_int_mk 0 Try.underlying3 w3⟩) trodAll_mk0), rfl, hg.frame _, fun h => by cases h⟩

theorem over : Rows.schemesSpectraRow.holds Try.pinned (OpenSpec.ofChange Rows.schemesSpectraSpec) :=
  OpenClaim.holds_of_wide 12 Try.f12 rfl rfl rfl rfl rfl rfl rfl ⟨rfl, rfl, rfl, rfl, rfl⟩ rfl rfl rfl rfl rfl (by kernel_rfl) Try.func12 (by kernel_rfl)
    (of_decide_eq_true (by kernel_rfl)) (by unfold Func.isWrapper; first | (rw [if_pos (by decide +kernel)]; kernel_rfl) | (rw [if_neg (by decide +kernel)]; exact ⟨rfl, rfl⟩))
    (fun os started H enc _ => lifted os started H enc)

/-- The statement. -/
theorem proved : Rows.SchemesSpectraSaid :=
  over
#print axioms proved
end Go.Proofs.Ytijnpcehjnaaiaa.schemesSpectra
