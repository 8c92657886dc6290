/- Walks: arcs: lowest. -/
import Derived.Test.YtiapngmallfelaaFna
import Derived.Test.YtiapngmallfelaaSgB
namespace Go.Proofs.Ytiapngmallfelaa
open Go.RowKit
set_option linter.unusedSimpArgs false

def T3 (a b c : Int) : Value := .agg #[.int .i64 a, .int .i64 b, .int .i64 c]
theorem amodN_go (w : World) (pk p n : Nat) (hk : w.cell? ⟨pk, 0, none⟩ = some (.int .i64 p)) (hp : p = 2 ∨ p = 3) (hn : n ≤ 1000) :
    Calls Try.prog 87 #[.pointer (some ⟨pk, 0, none⟩), .int .i64 (n : Int)] w fun e w' => e = .returned (.int .i64 ((n % p : Nat) : Int)) ∧ ∃ m, w' = w.drewN m := by
  have h := amod_go w pk p (n : Int) hk hp (by omega)
  rw [← Int.natCast_emod] at h
  exact h
theorem mulN {a f : Nat} (ha : a ≤ 2) (hf : f ≤ 2) : IntKind.i64.wrap ((a : Int) * (f : Int)) = ((a * f : Nat) : Int) ∧ a * f ≤ 4 := by
  have h : a * f ≤ 2 * 2 := Nat.mul_le_mul ha hf
  have e : ((a * f : Nat) : Int) = (a : Int) * (f : Int) := by simp
  rw [← e]
  exact ⟨by rw [IntWalk.i64_left]; exact IntWalk.wrap64_in _ (by omega), by omega⟩
theorem cell_of {w : World} {b : Nat} {A : Array Value} {E : TypeId} (h : w.heap[b]? = some (.cells A E (0, 0))) (i : Nat) {v : Value} (hv : A[i]? = some v) : w.cell? ⟨b, i, none⟩ = some v := by rw [cells_at h]; exact hv
def lwC (a b c f p k : Nat) : Array Value := #[.int .i64 ((if 0 < k then a * f % p else a : Nat) : Int), .int .i64 ((if 1 < k then b * f % p else b : Nat) : Int), .int .i64 ((if 2 < k then c * f % p else c : Nat) : Int)]
set_option maxHeartbeats 4000000 in
theorem alow_go (w : World) (pk p a b c i f : Nat) (hkl : pk < w.heap.size) (hk : w.cell? ⟨pk, 0, none⟩ = some (.int .i64 p)) (hp : p = 2 ∨ p = 3) (ha : a < p) (hb : b < p) (hc : c < p) (hi : i < 3) (h0 : ∀ j, j < i → nth [(a : Int), (b : Int), (c : Int)] j = 0) (hf : nth [(a : Int), (b : Int), (c : Int)] i = (f : Int)) (hf1 : 1 ≤ f ∧ f < p) :
    Calls Try.prog 70 #[.pointer (some ⟨pk, 0, none⟩), T3 a b c] w fun e w' => e = .returned (T3 ((a * f % p : Nat) : Int) ((b * f % p : Nat) : Int) ((c * f % p : Nat) : Int)) ∧ Below w.heap.size w w' := by
  have HB0 := Lib.hid (bal (bal (Below.refl w.heap.size w) (.cells #[.int .i64 a, .int .i64 b, .int .i64 c] 90)) (.cells #[.int .i64 0, .int .i64 0, .int .i64 0] 90))
  have HX := Lib.hid (show ((w.alloc (.cells #[.int .i64 a, .int .i64 b, .int .i64 c] 90)).alloc (.cells #[.int .i64 0, .int .i64 0, .int .i64 0] 90)).heap[w.heap.size]? = some (.cells (lwC a b c f p 0) 90 (0, 0)) from (Below.heap_alloc _ _ _ (by simp)).trans (new_at w _))
  have HY := Lib.hid (show ((w.alloc (.cells #[.int .i64 a, .int .i64 b, .int .i64 c] 90)).alloc (.cells #[.int .i64 0, .int .i64 0, .int .i64 0] 90)).heap[w.heap.size + 1]? = some (.cells #[.int .i64 0, .int .i64 0, .int .i64 0] 90 (0, 0)) by
    have h := new_at (w.alloc (.cells #[.int .i64 a, .int .i64 b, .int .i64 c] 90)) (.cells #[.int .i64 0, .int .i64 0, .int .i64 0] 90)
    simpa using h)
  have HPK := Lib.hid (fun (w' : World) (hb : Below w.heap.size w w') => (show w'.cell? ⟨pk, 0, none⟩ = some (.int .i64 p) from (hb.cell (p := ⟨pk, 0, none⟩) hkl).trans hk))
  have HI := Lib.hid (And.intro h0 hf)
  have ma := mulN (a := a) (f := f) (by omega) (by omega)
  have mb := mulN (a := b) (f := f) (by omega) (by omega)
  have mc := mulN (a := c) (f := f) (by omega) (by omega)
  have HMA := Lib.hid ma
  have HMB := Lib.hid mb
  have HMC := Lib.hid mc
  clear hk h0 hf ma mb mc
  unfold T3
  go_enter Try.func70, Try.ntmps70
  go_wp2_with fail
  generalize (w.alloc (.cells #[.int .i64 a, .int .i64 b, .int .i64 c] 90)).alloc (.cells #[.int .i64 0, .int .i64 0, .int .i64 0] 90) = V at *
  have hsl : Sl V (some ⟨w.heap.size, 0, none⟩) 3 3 [(a : Int), (b : Int), (c : Int)] := by
    refine ⟨rfl, Nat.le_refl _, by unfold maxLen; omega, .inr (.inr ⟨_, 0, rfl, lt_of_block HX.out, fun j hj => ?_⟩)⟩
    have : j = 0 ∨ j = 1 ∨ j = 2 := by omega
    rcases this with rfl | rfl | rfl
    · exact cell_of HX.out 0 rfl
    · exact cell_of HX.out 1 rfl
    · exact cell_of HX.out 2 rfl
  refine (lwidx_go V _ 3 3 i _ hsl (by omega) hi HI.out.1 (by rw [HI.out.2]; omega)).mono ?_
  rintro e w' ⟨rfl, rfl⟩
  have hfi : V.cell? ⟨w.heap.size, i, none⟩ = some (.int .i64 (f : Int)) := by
    obtain ⟨b', o', e, _, hcc, _⟩ := sl_at hsl (by omega)
    injection e with e
    injection e with e1 e2
    subst e1 e2
    have h2 := hcc i hi
    rw [Nat.zero_add, HI.out.2] at h2
    exact h2
  clear hsl
  go_wp2_with fail
  refine (ainv_go V pk p f (HPK.out V HB0.out) hp hf1).mono ?_
  rintro e w' ⟨rfl, q, rfl⟩
  have HB1 := Lib.hid (show Below w.heap.size w (V.drewN q) from drewN_below HB0.out)
  have HX1 := Lib.hid (show (V.drewN q).heap[w.heap.size]? = some (.cells (lwC a b c f p 0) 90 (0, 0)) from HX.out)
  have HY1 := Lib.hid (show (V.drewN q).heap[w.heap.size + 1]? = some (.cells #[.int .i64 0, .int .i64 0, .int .i64 0] 90 (0, 0)) from HY.out)
  clear HB0 HX HY hfi
  generalize V.drewN q = U at *
  go_wp2
  go_loopw [15] (fun t wr => ∃ k : Nat, k ≤ 3 ∧ t = .int .i64 k ∧ Hid (wr.heap[w.heap.size]? = some (.cells (lwC a b c f p k) 90 (0, 0))) ∧ Hid (wr.heap[w.heap.size + 1]? = some (.cells #[.int .i64 0, .int .i64 0, .int .i64 0] 90 (0, 0))) ∧ Hid (Below w.heap.size w wr)) (fun t _ => 3 - (intOf t).toNat)
  case atStart => exact ⟨0, by omega, rfl, HX1, HY1, HB1⟩
  case round =>
    clear HX1 HY1 HB1
    obtain ⟨k, hk, rfl, HX, HY, HB⟩ := hrel
    have hk4 : k = 0 ∨ k = 1 ∨ k = 2 ∨ k = 3 := by omega
    clear hk
    rcases hk4 with rfl | rfl | rfl | rfl
    · have e1 : wr.cell? ⟨w.heap.size, 0, none⟩ = some (.int .i64 (a : Int)) := cell_of HX.out 0 rfl
      have k1 := HMA.out.1
      have hz := lt_of_block HX.out
      go_wp2_with fail
      refine (amodN_go wr pk p (a * f) (HPK.out wr HB.out) hp (by have := HMA.out.2; omega)).mono ?_
      rintro e w' ⟨rfl, q2, rfl⟩
      clear k1
      have HX2 := Lib.hid (show ((wr.drewN q2).setCell ⟨w.heap.size, 0, none⟩ (.int .i64 ((a * f % p : Nat) : Int))).heap[w.heap.size]? = some (.cells (lwC a b c f p 1) 90 (0, 0)) from set_at (w := wr.drewN q2) HX.out 0 (.int .i64 ((a * f % p : Nat) : Int)))
      have HY2 := Lib.hid (show ((wr.drewN q2).setCell ⟨w.heap.size, 0, none⟩ (.int .i64 ((a * f % p : Nat) : Int))).heap[w.heap.size + 1]? = some (.cells #[.int .i64 0, .int .i64 0, .int .i64 0] 90 (0, 0)) from (Below.heap_setCell (wr.drewN q2) ⟨w.heap.size, 0, none⟩ _ (w.heap.size + 1) (by show w.heap.size + 1 ≠ w.heap.size; omega)).trans HY.out)
      have HB2 := Lib.hid (show Below w.heap.size w ((wr.drewN q2).setCell ⟨w.heap.size, 0, none⟩ (.int .i64 ((a * f % p : Nat) : Int))) from (drewN_below HB.out).setCell (Nat.le_refl _) _)
      have e1d : (wr.drewN q2).cell? ⟨w.heap.size, 0, none⟩ = some (.int .i64 (a : Int)) := e1
      have e2d : (wr.drewN q2).frozen? ⟨w.heap.size, 0, none⟩ = false := free_at (w := wr.drewN q2) HX.out 0
      have hzd : w.heap.size < (wr.drewN q2).heap.size := hz
      clear e1 HX HY HB hz
      generalize a * f % p = r at *
      generalize wr.drewN q2 = U2 at *
      go_wp2
      go_roundw
      case rel => go_light; exact ⟨1, by omega, by go_num, HX2, HY2, HB2⟩
      case measure => simp [intOf]
    · have e1 : wr.cell? ⟨w.heap.size, 1, none⟩ = some (.int .i64 (b : Int)) := cell_of HX.out 1 rfl
      have k1 := HMB.out.1
      have hz := lt_of_block HX.out
      go_wp2_with fail
      refine (amodN_go wr pk p (b * f) (HPK.out wr HB.out) hp (by have := HMB.out.2; omega)).mono ?_
      rintro e w' ⟨rfl, q2, rfl⟩
      clear k1
      have HX2 := Lib.hid (show ((wr.drewN q2).setCell ⟨w.heap.size, 1, none⟩ (.int .i64 ((b * f % p : Nat) : Int))).heap[w.heap.size]? = some (.cells (lwC a b c f p 2) 90 (0, 0)) from set_at (w := wr.drewN q2) HX.out 1 (.int .i64 ((b * f % p : Nat) : Int)))
      have HY2 := Lib.hid (show ((wr.drewN q2).setCell ⟨w.heap.size, 1, none⟩ (.int .i64 ((b * f % p : Nat) : Int))).heap[w.heap.size + 1]? = some (.cells #[.int .i64 0, .int .i64 0, .int .i64 0] 90 (0, 0)) from (Below.heap_setCell (wr.drewN q2) ⟨w.heap.size, 1, none⟩ _ (w.heap.size + 1) (by show w.heap.size + 1 ≠ w.heap.size; omega)).trans HY.out)
      have HB2 := Lib.hid (show Below w.heap.size w ((wr.drewN q2).setCell ⟨w.heap.size, 1, none⟩ (.int .i64 ((b * f % p : Nat) : Int))) from (drewN_below HB.out).setCell (Nat.le_refl _) _)
      have e1d : (wr.drewN q2).cell? ⟨w.heap.size, 1, none⟩ = some (.int .i64 (b : Int)) := e1
      have e2d : (wr.drewN q2).frozen? ⟨w.heap.size, 1, none⟩ = false := free_at (w := wr.drewN q2) HX.out 1
      have hzd : w.heap.size < (wr.drewN q2).heap.size := hz
      clear e1 HX HY HB hz
      generalize b * f % p = r at *
      generalize wr.drewN q2 = U2 at *
      go_wp2
      go_roundw
      case rel => go_light; exact ⟨2, by omega, by go_num, HX2, HY2, HB2⟩
      case measure => simp [intOf]
    · have e1 : wr.cell? ⟨w.heap.size, 2, none⟩ = some (.int .i64 (c : Int)) := cell_of HX.out 2 rfl
      have k1 := HMC.out.1
      have hz := lt_of_block HX.out
      go_wp2_with fail
      refine (amodN_go wr pk p (c * f) (HPK.out wr HB.out) hp (by have := HMC.out.2; omega)).mono ?_
      rintro e w' ⟨rfl, q2, rfl⟩
      clear k1
      have HX2 := Lib.hid (show ((wr.drewN q2).setCell ⟨w.heap.size, 2, none⟩ (.int .i64 ((c * f % p : Nat) : Int))).heap[w.heap.size]? = some (.cells (lwC a b c f p 3) 90 (0, 0)) from set_at (w := wr.drewN q2) HX.out 2 (.int .i64 ((c * f % p : Nat) : Int)))
      have HY2 := Lib.hid (show ((wr.drewN q2).setCell ⟨w.heap.size, 2, none⟩ (.int .i64 ((c * f % p : Nat) : Int))).heap[w.heap.size + 1]? = some (.cells #[.int .i64 0, .int .i64 0, .int .i64 0] 90 (0, 0)) from (Below.heap_setCell (wr.drewN q2) ⟨w.heap.size, 2, none⟩ _ (w.heap.size + 1) (by show w.heap.size + 1 ≠ w.heap.size; omega)).trans HY.out)
      have HB2 := Lib.hid (show Below w.heap.size w ((wr.drewN q2).setCell ⟨w.heap.size, 2, none⟩ (.int .i64 ((c * f % p : Nat) : Int))) from (drewN_below HB.out).setCell (Nat.le_refl _) _)
      have e1d : (wr.drewN q2).cell? ⟨w.heap.size, 2, none⟩ = some (.int .i64 (c : Int)) := e1
      have e2d : (wr.drewN q2).frozen? ⟨w.heap.size, 2, none⟩ = false := free_at (w := wr.drewN q2) HX.out 2
      have hzd : w.heap.size < (wr.drewN q2).heap.size := hz
      clear e1 HX HY HB hz
      generalize c * f % p = r at *
      generalize wr.drewN q2 = U2 at *
      go_wp2
      go_roundw
      case rel => go_light; exact ⟨3, by omega, by go_num, HX2, HY2, HB2⟩
      case measure => simp [intOf]
    · have r0 : wr.cell? ⟨w.heap.size, 0, none⟩ = some (.int .i64 ((a * f % p : Nat) : Int)) := cell_of HX.out 0 rfl
      have r1 : wr.cell? ⟨w.heap.size, 1, none⟩ = some (.int .i64 ((b * f % p : Nat) : Int)) := cell_of HX.out 1 rfl
      have r2 : wr.cell? ⟨w.heap.size, 2, none⟩ = some (.int .i64 ((c * f % p : Nat) : Int)) := cell_of HX.out 2 rfl
      have s0 : wr.cell? ⟨w.heap.size + 1, 0, none⟩ = some (.int .i64 0) := cell_of HY.out 0 rfl
      have s1 : wr.cell? ⟨w.heap.size + 1, 1, none⟩ = some (.int .i64 0) := cell_of HY.out 1 rfl
      have s2 : wr.cell? ⟨w.heap.size + 1, 2, none⟩ = some (.int .i64 0) := cell_of HY.out 2 rfl
      have f0 := free_at HY.out 0
      have f1 := free_at HY.out 1
      have f2 := free_at HY.out 2
      have z1 := lt_of_block HX.out
      have z2 := lt_of_block HY.out
      obtain ⟨ra, hra⟩ : ∃ z, ((a * f % p : Nat) : Int) = z := ⟨_, rfl⟩
      obtain ⟨rb, hrb⟩ : ∃ z, ((b * f % p : Nat) : Int) = z := ⟨_, rfl⟩
      obtain ⟨rc, hrc⟩ : ∃ z, ((c * f % p : Nat) : Int) = z := ⟨_, rfl⟩
      have HRA := Lib.hid hra
      have HRB := Lib.hid hrb
      have HRC := Lib.hid hrc
      rw [hra] at r0
      rw [hrb] at r1
      rw [hrc] at r2
      have HR := Lib.hid (set_at (set_at (set_at HY.out 0 (.int .i64 ra)) 1 (.int .i64 rb)) 2 (.int .i64 rc))
      have HBE := Lib.hid (((HB.out.setCell (p := ⟨w.heap.size + 1, 0, none⟩) (by show w.heap.size ≤ w.heap.size + 1; omega) (.int .i64 ra)).setCell (p := ⟨w.heap.size + 1, 1, none⟩) (by show w.heap.size ≤ w.heap.size + 1; omega) (.int .i64 rb)).setCell (p := ⟨w.heap.size + 1, 2, none⟩) (by show w.heap.size ≤ w.heap.size + 1; omega) (.int .i64 rc))
      have t0 : (((wr.setCell ⟨w.heap.size + 1, 0, none⟩ (.int .i64 ra)).setCell ⟨w.heap.size + 1, 1, none⟩ (.int .i64 rb)).setCell ⟨w.heap.size + 1, 2, none⟩ (.int .i64 rc)).cell? ⟨w.heap.size + 1, 0, none⟩ = some (.int .i64 ra) := cell_of HR.out 0 rfl
      have t1 : (((wr.setCell ⟨w.heap.size + 1, 0, none⟩ (.int .i64 ra)).setCell ⟨w.heap.size + 1, 1, none⟩ (.int .i64 rb)).setCell ⟨w.heap.size + 1, 2, none⟩ (.int .i64 rc)).cell? ⟨w.heap.size + 1, 1, none⟩ = some (.int .i64 rb) := cell_of HR.out 1 rfl
      have t2 : (((wr.setCell ⟨w.heap.size + 1, 0, none⟩ (.int .i64 ra)).setCell ⟨w.heap.size + 1, 1, none⟩ (.int .i64 rb)).setCell ⟨w.heap.size + 1, 2, none⟩ (.int .i64 rc)).cell? ⟨w.heap.size + 1, 2, none⟩ = some (.int .i64 rc) := cell_of HR.out 2 rfl
      clear HX HY HB hra hrb hrc
      go_wp2
      exact bodyPost_ret (v := .agg #[.int .i64 ra, .int .i64 rb, .int .i64 rc]) (by simp [results, Try.results70, go_sem, *]) rfl ⟨by rw [HRA.out, HRB.out, HRC.out], HBE.out⟩
end Go.Proofs.Ytiapngmallfelaa
