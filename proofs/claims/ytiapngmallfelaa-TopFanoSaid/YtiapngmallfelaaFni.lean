/- Walks: signs: Squares; TopFano: plants. -/
import Derived.Test.YtiapngmallfelaaFnh
namespace Go.Proofs.Ytiapngmallfelaa
open Go.RowKit
open Go.Maps
set_option linter.unusedSimpArgs false

def sqS (r : Nat) : Bool := r == 0 || (List.range 7).any fun x => x * x % 7 == r
def nearS (i j : Nat) : Bool := decide (0 < i) && (j == 0 || !sqS ((j + 7 - i) % 7))
def sqD7 : Nat → DataW Unit
  | 0 => (DataW.map []).put (.int .i64 0) (.lit (.bool true))
  | k + 1 => (sqD7 k).put (.int .i64 ((k * k % 7 : Nat) : Int)) (.lit (.bool true))
theorem sqD7_at {r : Nat} (hr : r < 7) : (sqD7 7).atKey (.int .i64 (r : Int)) (.lit (.bool false)) = .lit (.bool (sqS r)) :=
  match r, hr with
  | 0, _ => rfl
  | 1, _ => rfl
  | 2, _ => rfl
  | 3, _ => rfl
  | 4, _ => rfl
  | 5, _ => rfl
  | 6, _ => rfl
theorem plain_bool_inv {H : Type} {e : TypeId} (he : Try.prog.underlying e = some .bool) {v : Value} {z : DataW H × List MemPlace} (h : plainElem Try.prog e v = some z) : ∃ x, v = .bool x ∧ z = (.lit (.bool x), []) := by
  unfold plainElem at h
  rw [he] at h
  cases v <;> simp at h
  exact ⟨_, rfl, h.symm⟩
theorem keyInt : Keyed Try.prog 3 := int_keyed Try.underlying3
theorem sq7_look {w : World} {b n r : Nat} (hown : w.ownsMap Try.prog 3 (plainElem Try.prog 4) b n (sqD7 7)) (hr : r < 7) :
    (Instr.lookup 60 (.map (some b)) (.int .i64 (r : Int)) false).run Try.prog w = .ok (.bool (sqS r)) w := by
  have hz : (zeroValue 4).run Try.prog w = .ok (.bool false) w := by kernel_rfl
  have hwf : (Lit.int .i64 (r : Int)).wf = true := WalkArith.wf_i64 (by omega)
  obtain ⟨v, ps, hrun, hv⟩ := hown.lookup keyInt Try.underlying60 hz (plainElem_bool Try.underlying4 false) (keyOf_int_mk Try.underlying3 hwf)
  obtain ⟨x, rfl, hx⟩ := plain_bool_inv Try.underlying4 hv
  rw [sqD7_at hr] at hx
  simp only [Prod.mk.injEq, DataW.lit.injEq, Lit.bool.injEq] at hx
  rw [hx.1]; exact hrun
set_option maxHeartbeats 1000000 in
theorem sqc_go (w : World) (b n q1 q2 i j : Nat) (h2 : w.cell? ⟨q1, 0, none⟩ = some (.map (some b))) (h3 : w.cell? ⟨q2, 0, none⟩ = some (.int .i64 7)) (hown : w.ownsMap Try.prog 3 (plainElem Try.prog 4) b n (sqD7 7)) (hi : i < 8) (hj : j < 8) :
    Calls Try.prog 44 #[.int .i64 i, .int .i64 j, .pointer (some ⟨q1, 0, none⟩), .pointer (some ⟨q2, 0, none⟩)] w fun e w' => e = .returned (.bool (nearS i j)) ∧ Below w.heap.size w w' := by
  have hr : (j + 7 - i) % 7 < 7 := Nat.mod_lt _ (by omega)
  have w1 : IntKind.i64.wrap ((j : Int) - (i : Int)) = (j : Int) - (i : Int) := by rw [IntWalk.i64_left]; exact IntWalk.wrap64_in _ (by omega)
  have w2 : IntKind.i64.wrap ((j : Int) - (i : Int) + 7) = ((j + 7 - i : Nat) : Int) := by rw [IntWalk.i64_left]; rw [IntWalk.wrap64_in _ (by omega)]; omega
  have e3 : ((j + 7 - i : Nat) : Int).tmod 7 = (((j + 7 - i) % 7 : Nat) : Int) := by rw [Int.tmod_eq_emod_of_nonneg (by omega)]; omega
  have e4 : ((j + 7 - i : Nat) : Int) % 7 = (((j + 7 - i) % 7 : Nat) : Int) := by omega
  have hl : ∀ m, (Instr.lookup 60 (.map (some b)) (.int .i64 (((j + 7 - i) % 7 : Nat) : Int)) false).run Try.prog (w.drewN m) = .ok (.bool (sqS ((j + 7 - i) % 7))) (w.drewN m) := fun m => sq7_look (w := w.drewN m) hown hr
  have HF := Lib.hid (show nearS i j = (decide (0 < i) && (j == 0 || !sqS ((j + 7 - i) % 7))) from rfl)
  clear hown
  generalize (j + 7 - i) % 7 = r at *
  generalize j + 7 - i = s at *
  by_cases hi0 : i = 0
  · subst hi0
    have HG := Lib.hid (show nearS 0 j = false by rw [HF.out]; rfl)
    clear HF
    go_enter Try.func44, Try.ntmps44
    go_wp2
    go_quiet (fail)
    go_wp2
    go_ret
    rw [HG.out]
    exact ⟨rfl, drewN_below (Below.refl _ _)⟩
  · have d1 : decide (0 < i) = true := by simp; omega
    by_cases hj0 : j = 0
    · subst hj0
      have HG := Lib.hid (show nearS i 0 = true by rw [HF.out]; simp; omega)
      clear HF
      go_enter Try.func44, Try.ntmps44
      go_wp2
      go_quiet (fail)
      go_wp2
      go_ret
      rw [HG.out]
      exact ⟨rfl, drewN_below (Below.refl _ _)⟩
    · have d2 : ((j : Int) == 0) = false := by rw [beq_eq_false_iff_ne]; omega
      have d3 : (j == 0) = false := by rw [beq_eq_false_iff_ne]; exact hj0
      have HG := Lib.hid (show nearS i j = !sqS r by
        rw [HF.out, show decide (0 < i) = true by simp; omega, show (j == 0) = false by rw [beq_eq_false_iff_ne]; exact hj0]; rfl)
      clear HF hi0 hj0
      go_enter Try.func44, Try.ntmps44
      go_wp2
      go_quiet (fail)
      go_wp2
      go_ret
      rw [HG.out]
      exact ⟨rfl, drewN_below (Below.refl _ _)⟩
theorem cf_sqc (args : Array Value) (w : World) : (callFunc 44 args).run Try.prog w = .ok (.enter 44 args) w := by kernel_rfl
def SqSt (w wr : World) (q k : Nat) : Prop :=
  wr.heap[w.heap.size]? = some (.cells #[.int .i64 7] 3 (0, 0)) ∧ wr.heap[q]? = some (.cells #[.map (some (w.heap.size + 1))] 60 (0, 0)) ∧
  wr.ownsMap Try.prog 3 (plainElem Try.prog 4) (w.heap.size + 1) (k + 1) (sqD7 k) ∧ Below w.heap.size w wr
set_option maxRecDepth 100000 in
set_option maxHeartbeats 4000000 in
theorem squares7_go (w : World) : Calls Try.prog 16 #[.int .i64 7] w (GivesSlE w (ints (mdL 8 nearS)) 0) := by
  have hmm := @run_makeMap Try.prog
  have hmf : ∀ (fn : Fn) (first cap : Array Value) (w : World), (Instr.makeFunc fn first cap).run Try.prog w = .ok (.func fn first cap) w := fun _ _ _ _ => rfl
  have h0 := World.ownsMap_made (w.alloc (.cells #[.int .i64 7] 3)) Try.prog 3 (plainElem (H := Unit) Try.prog 4)
  simp only [World.size_alloc] at h0
  obtain ⟨w0, hrun0, hown0, hgrow0⟩ := h0.update keyInt Try.underlying60 (by unfold maxLen; omega) (keyOf_int_mk Try.underlying3 (a := 0) (by decide)) (plainElem_bool Try.underlying4 true)
  have hz0 : w.heap.size + 1 + 1 ≤ w0.heap.size := by have := hgrow0.size; simpa using this
  have HST := Lib.hid (show SqSt w (w0.alloc (.cells #[.map (some (w.heap.size + 1))] 60)) w0.heap.size 0 from by
    have hb0 : Below w.heap.size w w0 := (bal (bal (Below.refl w.heap.size w) (.cells #[.int .i64 7] 3)) (.map #[] 0)).grown hgrow0 (by simp; omega) (fun j hj => by injection hj with e; omega)
    refine ⟨?_, new_at _ _, hown0.alloc _, bal hb0 _⟩
    refine (Below.heap_alloc _ _ _ (by omega)).trans ((hgrow0.block _ (by simp; omega) (by intro e; injection e with e; omega)).trans ((Below.heap_alloc _ _ _ (by simp)).trans (new_at w _)))) 
  have cp := one_atB HST.out.1
  have zp := lt_of_block HST.out.1
  clear hown0 hgrow0 h0
  go_enter Try.func16, Try.ntmps16
  go_wp2
  clear cp zp hrun0
  obtain ⟨q, hq⟩ : ∃ q, w0.heap.size = q := ⟨_, rfl⟩
  rw [hq] at HST hz0 ⊢
  generalize w0.alloc (.cells #[.map (some (w.heap.size + 1))] 60) = V at *
  have cp := one_atB HST.out.1
  go_loopw [19] (fun t wr => ∃ k : Nat, k ≤ 7 ∧ t = .int .i64 k ∧ Hid (SqSt w wr q k)) (fun t _ => 7 - (intOf t).toNat)
  case atStart => exact ⟨0, by omega, rfl, HST⟩
  case round =>
    clear HST cp
    obtain ⟨k, hk, rfl, HS⟩ := hrel
    obtain ⟨hp, hm, hown, hbw⟩ := HS.out
    have cp := one_atB hp
    have cm := one_atB hm
    have zp := lt_of_block hp
    have zm := lt_of_block hm
    by_cases hlk : k < 7
    · have hkk : k * k ≤ 36 := by have : k * k ≤ 6 * 6 := Nat.mul_le_mul (by omega) (by omega); omega
      have hr : k * k % 7 < 7 := Nat.mod_lt _ (by omega)
      have e1 : (k : Int) * (k : Int) = ((k * k : Nat) : Int) := by simp
      have w1 : IntKind.i64.wrap ((k * k : Nat) : Int) = ((k * k : Nat) : Int) := wrap_i64n _ (by omega)
      have e3 : ((k * k : Nat) : Int).tmod 7 = ((k * k % 7 : Nat) : Int) := by rw [Int.tmod_eq_emod_of_nonneg (by omega)]; omega
      have e4 : ((k * k : Nat) : Int) % 7 = ((k * k % 7 : Nat) : Int) := by omega
      have hwf : (Lit.int .i64 ((k * k % 7 : Nat) : Int)).wf = true := WalkArith.wf_i64 (by omega)
      obtain ⟨wn, hrun, hown', hgrow⟩ := hown.drew.update keyInt Try.underlying60 (by unfold maxLen; omega) (keyOf_int_mk Try.underlying3 hwf) (plainElem_bool Try.underlying4 true)
      have hD : (sqD7 k).put (.int .i64 ((k * k % 7 : Nat) : Int)) (.lit (.bool true)) = sqD7 (k + 1) := rfl
      rw [hD] at hown'
      have hq' : wn.heap[w.heap.size]? = some (.cells #[.int .i64 7] 3 (0, 0)) := by
        rw [hgrow.block _ (by show _ < wr.heap.size; omega) (by simp)]; exact hp
      have hm' : wn.heap[q]? = some (.cells #[.map (some (w.heap.size + 1))] 60 (0, 0)) := by
        rw [hgrow.block _ (by show _ < wr.heap.size; omega) (by intro e; injection e with e; omega)]; exact hm
      have hb' : Below w.heap.size w wn := hbw.drew.grown hgrow (by show _ ≤ wr.heap.size; omega) (fun j hj => by simp at hj; omega)
      have HS2 := Lib.hid (show SqSt w wn q (k + 1) from ⟨hq', hm', hown', hb'⟩)
      clear hp hm hown hq' hm' hown' hgrow hb' hD HS hbw
      generalize k * k % 7 = r at *
      generalize k * k = kk at *
      go_wp2
      go_region
      all_goals
        go_wp2
        go_roundw
        case rel => first | exact ⟨k + 1, by omega, by go_num, HS2⟩ | (go_light; exact ⟨k + 1, by omega, by go_num, HS2⟩)
        case measure => simp [intOf]; omega
    · obtain rfl : k = 7 := by omega
      have hcall : ∀ (w' : World) (i j : Nat), Below wr.heap.size wr w' → i < 8 → j < 8 →
          Calls Try.prog 44 (#[.int .i64 i, .int .i64 j] ++ #[.pointer (some ⟨q, 0, none⟩), .pointer (some ⟨w.heap.size, 0, none⟩)]) w' fun e w'' => e = .returned (.bool (nearS i j)) ∧ Below w'.heap.size w' w'' := fun w' i j hb hi hj =>
        sqc_go w' _ _ _ _ i j (one_atB (persist hm hb)) (one_atB (persist hp hb)) (own_map_mono hown hb) hi hj
      have HC := Lib.hid hcall
      have hbr := Lib.hid hbw
      clear hcall hown hbw hm hp HS
      go_wp2_with fail
      refine (smade_go _ 8 (by omega) 44 _ nearS cf_sqc HC.out).mono ?_
      rintro e w1 ⟨a2, n2, p2, rfl, hown2, hb2⟩
      go_wp2
      go_ret2
      exact ⟨a2, n2, p2, rfl, own_base hown2 hbr.out.size, btr hbr.out hb2⟩
/-! ### plants -/
theorem plants_go (w : World) : Calls Try.prog 21 #[] w fun e w' => e = .returned (.bool true) ∧ Below w.heap.size w w' := by
  have HM := Lib.hid (show mdL 2 dblN = [0, 2] by decide)
  go_enter Try.func21, Try.ntmps21
  go_wp2_with fail
  refine (double1_go w).mono ?_
  rintro e w1 ⟨a3, n3, c3, rfl, ho3, hb3⟩
  rw [HM.out] at ho3
  have HS := Lib.hid (own_sl ho3)
  have HB := Lib.hid hb3
  clear ho3 hb3
  go_wp2_with fail
  refine (equal_go _ _ _ _ _ 2 2 _ [0, 2] (HS.out.mono (bal (Below.refl _ _) _)) (sl_two w1 0 2)).mono ?_
  rintro e w2 ⟨rfl, m, rfl⟩
  go_wp2
  go_ret
  exact ⟨by simp [ints], drewN_below (bal HB.out _)⟩
end Go.Proofs.Ytiapngmallfelaa
