
/- Walks: Squares. -/
import Derived.Test.YtiapngmallfelaaPairs
import Derived.Maps.Own
namespace Go.Proofs.Ytiapngmallfelaa
open Go.RowKit
open Go.Maps

def sqOf (p r : Nat) : Bool := (List.range p).any fun x => x * x % p == r
def nearSq (p i j : Nat) : Bool := sqOf p ((i + p - j) % p)
def squaresL (p : Nat) : List Nat := madeL p (nearSq p)
def sqD (p : Nat) : Nat → DataW Unit
  | 0 => .map []
  | k + 1 => (sqD p k).put (.int .i64 ((k * k % p : Nat) : Int)) (.lit (.bool true))
theorem sqD_at {p r : Nat} (hp : p = 5 ∨ p = 13) (hr : r < p) : (sqD p p).atKey (.int .i64 (r : Int)) (.lit (.bool false)) = .lit (.bool (sqOf p r)) := by
  rcases hp with rfl | rfl
  · match r, hr with
    | 0, _ => rfl
    | 1, _ => rfl
    | 2, _ => rfl
    | 3, _ => rfl
    | 4, _ => rfl
  · match r, hr with
    | 0, _ => rfl
    | 1, _ => rfl
    | 2, _ => rfl
    | 3, _ => rfl
    | 4, _ => rfl
    | 5, _ => rfl
    | 6, _ => rfl
    | 7, _ => rfl
    | 8, _ => rfl
    | 9, _ => rfl
    | 10, _ => rfl
    | 11, _ => rfl
    | 12, _ => rfl
theorem plain_bool_inv {H : Type} {e : TypeId} (he : Try.prog.underlying e = some .bool) {v : Value} {z : DataW H × List MemPlace} (h : plainElem Try.prog e v = some z) : ∃ x, v = .bool x ∧ z = (.lit (.bool x), []) := by
  unfold plainElem at h
  rw [he] at h
  cases v <;> simp at h
  exact ⟨_, rfl, h.symm⟩
theorem keyInt : Keyed Try.prog 3 := int_keyed Try.underlying3
theorem sq_look {w : World} {b n p r : Nat} (hown : w.ownsMap Try.prog 3 (plainElem Try.prog 4) b n (sqD p p)) (hp : p = 5 ∨ p = 13) (hr : r < p) :
    (Instr.lookup 60 (.map (some b)) (.int .i64 (r : Int)) false).run Try.prog w = .ok (.bool (sqOf p r)) w := by
  have hz : (zeroValue 4).run Try.prog w = .ok (.bool false) w := by kernel_rfl
  have hwf : (Lit.int .i64 (r : Int)).wf = true := WalkArith.wf_i64 (by omega)
  obtain ⟨v, ps, hrun, hv⟩ := hown.lookup keyInt Try.underlying60 hz (plainElem_bool Try.underlying4 false) (keyOf_int_mk Try.underlying3 hwf)
  obtain ⟨x, rfl, hx⟩ := plain_bool_inv Try.underlying4 hv
  rw [sqD_at hp hr] at hx
  simp only [Prod.mk.injEq, DataW.lit.injEq, Lit.bool.injEq] at hx
  rw [hx.1]; exact hrun

theorem own_map_mono {H : Type} {w w' : World} {k : TypeId} {R : Value → Option (DataW H × List MemPlace)} {b n : Nat} {D : DataW H} (h : w.ownsMap Try.prog k R b n D) (hb : Below w.heap.size w w') : w'.ownsMap Try.prog k R b n D :=
  h.kept (row := none) ⟨hb.os, hb.tape, hb.output, hb.size, fun k hk _ => hb.block k hk⟩ (by simp)

set_option maxHeartbeats 400000 in
theorem sq1_go (w : World) (b n q1 q2 p i j : Nat) (h2 : w.cell? ⟨q1, 0, none⟩ = some (.map (some b))) (h3 : w.cell? ⟨q2, 0, none⟩ = some (.int .i64 p)) (hown : w.ownsMap Try.prog 3 (plainElem Try.prog 4) b n (sqD p p)) (hp : p = 5 ∨ p = 13) (hi : i < p) (hj : j < p) :
    Calls Try.prog 37 #[.int .i64 i, .int .i64 j, .pointer (some ⟨q1, 0, none⟩), .pointer (some ⟨q2, 0, none⟩)] w fun e w' => e = .returned (.bool (nearSq p i j)) ∧ Below w.heap.size w w' := by
  have hp13 : p ≤ 13 := by omega
  have w1 : IntKind.i64.wrap ((i : Int) - (j : Int)) = (i : Int) - (j : Int) := by rw [IntWalk.i64_left]; exact IntWalk.wrap64_in _ (by omega)
  have w2 : IntKind.i64.wrap ((i : Int) - (j : Int) + (p : Int)) = ((i + p - j : Nat) : Int) := by rw [IntWalk.i64_left]; rw [IntWalk.wrap64_in _ (by omega)]; omega
  have hr : (i + p - j) % p < p := Nat.mod_lt _ (by omega)
  have e3 : ((i + p - j : Nat) : Int).tmod p = (((i + p - j) % p : Nat) : Int) := by rw [Int.tmod_eq_emod_of_nonneg (by omega)]; simp
  have e4 : ((i + p - j : Nat) : Int) % p = (((i + p - j) % p : Nat) : Int) := by simp
  have hl : ∀ m, (Instr.lookup 60 (.map (some b)) (.int .i64 (((i + p - j) % p : Nat) : Int)) false).run Try.prog (w.drewN m) = .ok (.bool (sqOf p ((i + p - j) % p))) (w.drewN m) := fun m => sq_look (w := w.drewN m) hown hp hr
  have HF := Lib.hid (show nearSq p i j = sqOf p ((i + p - j) % p) from rfl)
  have hne : ¬ p = 0 := by omega
  clear hown hp
  generalize (i + p - j) % p = r at *
  generalize i + p - j = s at *
  go_enter Try.func37, Try.ntmps37
  go_wp2
  go_quiet (fail)
  go_wp2
  go_ret
  rw [HF.out]
  exact ⟨rfl, drewN_below (Below.refl _ _)⟩

theorem cf_sq1 (args : Array Value) (w : World) : (callFunc 37 args).run Try.prog w = .ok (.enter 37 args) w := by kernel_rfl

theorem squares_bad (w : World) (p : Int) (h5 : p ≠ 5) (h13 : p ≠ 13) :
    Calls Try.prog 11 #[.int .i64 p] w fun e w' => e = .returned (.tuple #[.slice none 0 0, .int .i64 2]) ∧ Below w.heap.size w w' := by
  have t5 : (p != 5) = true := by simp [h5]
  have t13 : (p != 13) = true := by simp [h13]
  go_enter Try.func11, Try.ntmps11
  go_wp2
  go_ret2
  exact ⟨rfl, bal (Below.refl _ _) _⟩

def SqSt (w wr : World) (p k : Nat) : Prop :=
  wr.heap[w.heap.size]? = some (.cells #[.int .i64 p] 3 (0, 0)) ∧ wr.heap[w.heap.size + 1 + 1]? = some (.cells #[.map (some (w.heap.size + 1))] 60 (0, 0)) ∧
  wr.ownsMap Try.prog 3 (plainElem Try.prog 4) (w.heap.size + 1) k (sqD p k) ∧ Below w.heap.size w wr

set_option maxHeartbeats 1000000 in
theorem squares_go (w : World) (p : Nat) (hp : p = 5 ∨ p = 13) :
    Calls Try.prog 11 #[.int .i64 p] w (GivesSlE w (ints (squaresL p)) 0) := by
  have hmf : ∀ (fn : Fn) (first cap : Array Value) (w : World), (Instr.makeFunc fn first cap).run Try.prog w = .ok (.func fn first cap) w := fun _ _ _ _ => rfl
  have hmm := @run_makeMap Try.prog
  have hp13 : p ≤ 13 := by omega
  have hne : ¬ p = 0 := by omega
  have t5 : ((p : Int) != 5 && (p : Int) != 13) = false := by rcases hp with rfl | rfl <;> rfl
  have HP := Lib.hid hp
  clear hp
  have hstart : SqSt w (((w.alloc (.cells #[.int .i64 p] 3)).alloc (.map #[] 0)).alloc (.cells #[.map (some (w.heap.size + 1))] 60)) p 0 := by
    refine ⟨?_, ?_, ?_, bal (bal (bal (Below.refl _ _) _) _) _⟩
    · simp only [heap_alloc_eq, Array.getElem?_push, Array.size_push]; rw [if_neg (by omega), if_neg (by omega), if_pos trivial]
    · simp only [heap_alloc_eq, Array.getElem?_push, Array.size_push]; rw [if_pos trivial]
    · have := World.ownsMap_made (w.alloc (.cells #[.int .i64 p] 3)) Try.prog 3 (plainElem (H := Unit) Try.prog 4)
      have e : (w.alloc (.cells #[.int .i64 p] 3)).heap.size = w.heap.size + 1 := by simp
      rw [e] at this
      exact this.alloc _
  have HST := Lib.hid hstart
  clear hstart
  by_cases c5 : (p : Int) = 5
  · have u5 : ((p : Int) != 5) = false := by simp [c5]
    have C5 := Lib.hid c5
    clear c5 t5
    go_enter Try.func11, Try.ntmps11
    go_wp2
    go_loopw [14] (fun t wr => ∃ k : Nat, k ≤ p ∧ t = .int .i64 k ∧ SqSt w wr p k) (fun t _ => p - (intOf t).toNat)
    case atStart => exact ⟨0, by omega, rfl, HST.out⟩
    case round =>
      obtain ⟨k, hk, rfl, hst⟩ := hrel
      obtain ⟨hq, hm, hown, hbw⟩ := hst
      have cq := one_at hq
      have cm := one_at hm
      by_cases hlk : k < p
      · have hkk : k * k ≤ 169 := by have : k * k ≤ 13 * 13 := Nat.mul_le_mul (by omega) (by omega); omega
        have hr : k * k % p < p := Nat.mod_lt _ (by omega)
        have e1 : (k : Int) * (k : Int) = ((k * k : Nat) : Int) := by simp
        have w1 : IntKind.i64.wrap ((k * k : Nat) : Int) = ((k * k : Nat) : Int) := wrap_i64n _ (by omega)
        have e3 : ((k * k : Nat) : Int).tmod p = ((k * k % p : Nat) : Int) := by rw [Int.tmod_eq_emod_of_nonneg (by omega)]; simp
        have e4 : ((k * k : Nat) : Int) % p = ((k * k % p : Nat) : Int) := by simp
        have hwf : (Lit.int .i64 ((k * k % p : Nat) : Int)).wf = true := WalkArith.wf_i64 (by omega)
        obtain ⟨wn, hrun, hown', hgrow⟩ := hown.drew.update keyInt Try.underlying60 (by unfold maxLen; omega) (keyOf_int_mk Try.underlying3 hwf) (plainElem_bool Try.underlying4 true)
        have hD : (sqD p k).put (.int .i64 ((k * k % p : Nat) : Int)) (.lit (.bool true)) = sqD p (k + 1) := rfl
        rw [hD] at hown'
        have hsz := lt_of_block hm
        have hq' : wn.heap[w.heap.size]? = some (.cells #[.int .i64 p] 3 (0, 0)) := by
          rw [hgrow.block _ (by show _ < wr.heap.size; omega) (by simp)]; exact hq
        have hm' : wn.heap[w.heap.size + 1 + 1]? = some (.cells #[.map (some (w.heap.size + 1))] 60 (0, 0)) := by
          rw [hgrow.block _ (by show _ < wr.heap.size; omega) (by simp)]; exact hm
        have hb' : Below w.heap.size w wn := hbw.drew.grown hgrow (by show _ ≤ wr.heap.size; omega) (fun j hj => by simp at hj; omega)
        have HS := Lib.hid (show SqSt w wn p (k + 1) from ⟨hq', hm', hown', hb'⟩)
        clear hq hm hown hq' hm' hown' hgrow hb' hD
        generalize k * k % p = r at *
        generalize k * k = kk at *
        go_wp2
        go_region
        all_goals
          go_wp2
          go_roundw
          case rel => exact ⟨k + 1, by omega, by go_num, HS.out⟩
          case measure => simp [intOf]; omega
      · obtain rfl : k = p := by omega
        have hcall : ∀ (w' : World) (i j : Nat), Below wr.heap.size wr w' → i < k → j < k →
            Calls Try.prog 37 (#[.int .i64 i, .int .i64 j] ++ #[.pointer (some ⟨w.heap.size + 1 + 1, 0, none⟩), .pointer (some ⟨w.heap.size, 0, none⟩)]) w' fun e w'' => e = .returned (.bool (nearSq k i j)) ∧ Below w'.heap.size w' w'' := fun w' i j hb hi hj =>
          sq1_go w' _ _ _ _ k i j (one_at (persist hm hb)) (one_at (persist hq hb)) (own_map_mono hown hb) HP.out hi hj
        have HC := Lib.hid hcall
        have hbr := Lib.hid hbw
        clear hcall hown hbw
        go_wp2_with fail
        refine (made_go _ k (by omega) 37 _ (nearSq k) cf_sq1 HC.out).mono ?_
        rintro e w1 ⟨a2, n2, p2, rfl, hown2, hb2⟩
        go_wp2
        go_ret2
        exact ⟨a2, n2, p2, rfl, own_base hown2 hbr.out.size, btr hbr.out hb2⟩
  · have u5 : ((p : Int) != 5) = true := by simp [c5]
    have u13 : ((p : Int) != 13) = false := by rcases HP.out with rfl | rfl <;> first | rfl | exact absurd rfl c5
    clear c5 t5
    go_enter Try.func11, Try.ntmps11
    go_wp2
    go_loopw [14] (fun t wr => ∃ k : Nat, k ≤ p ∧ t = .int .i64 k ∧ SqSt w wr p k) (fun t _ => p - (intOf t).toNat)
    case atStart => exact ⟨0, by omega, rfl, HST.out⟩
    case round =>
      obtain ⟨k, hk, rfl, hst⟩ := hrel
      obtain ⟨hq, hm, hown, hbw⟩ := hst
      have cq := one_at hq
      have cm := one_at hm
      by_cases hlk : k < p
      · have hkk : k * k ≤ 169 := by have : k * k ≤ 13 * 13 := Nat.mul_le_mul (by omega) (by omega); omega
        have hr : k * k % p < p := Nat.mod_lt _ (by omega)
        have e1 : (k : Int) * (k : Int) = ((k * k : Nat) : Int) := by simp
        have w1 : IntKind.i64.wrap ((k * k : Nat) : Int) = ((k * k : Nat) : Int) := wrap_i64n _ (by omega)
        have e3 : ((k * k : Nat) : Int).tmod p = ((k * k % p : Nat) : Int) := by rw [Int.tmod_eq_emod_of_nonneg (by omega)]; simp
        have e4 : ((k * k : Nat) : Int) % p = ((k * k % p : Nat) : Int) := by simp
        have hwf : (Lit.int .i64 ((k * k % p : Nat) : Int)).wf = true := WalkArith.wf_i64 (by omega)
        obtain ⟨wn, hrun, hown', hgrow⟩ := hown.drew.update keyInt Try.underlying60 (by unfold maxLen; omega) (keyOf_int_mk Try.underlying3 hwf) (plainElem_bool Try.underlying4 true)
        have hD : (sqD p k).put (.int .i64 ((k * k % p : Nat) : Int)) (.lit (.bool true)) = sqD p (k + 1) := rfl
        rw [hD] at hown'
        have hsz := lt_of_block hm
        have hq' : wn.heap[w.heap.size]? = some (.cells #[.int .i64 p] 3 (0, 0)) := by
          rw [hgrow.block _ (by show _ < wr.heap.size; omega) (by simp)]; exact hq
        have hm' : wn.heap[w.heap.size + 1 + 1]? = some (.cells #[.map (some (w.heap.size + 1))] 60 (0, 0)) := by
          rw [hgrow.block _ (by show _ < wr.heap.size; omega) (by simp)]; exact hm
        have hb' : Below w.heap.size w wn := hbw.drew.grown hgrow (by show _ ≤ wr.heap.size; omega) (fun j hj => by simp at hj; omega)
        have HS := Lib.hid (show SqSt w wn p (k + 1) from ⟨hq', hm', hown', hb'⟩)
        clear hq hm hown hq' hm' hown' hgrow hb' hD
        generalize k * k % p = r at *
        generalize k * k = kk at *
        go_wp2
        go_region
        all_goals
          go_wp2
          go_roundw
          case rel => exact ⟨k + 1, by omega, by go_num, HS.out⟩
          case measure => simp [intOf]; omega
      · obtain rfl : k = p := by omega
        have hcall : ∀ (w' : World) (i j : Nat), Below wr.heap.size wr w' → i < k → j < k →
            Calls Try.prog 37 (#[.int .i64 i, .int .i64 j] ++ #[.pointer (some ⟨w.heap.size + 1 + 1, 0, none⟩), .pointer (some ⟨w.heap.size, 0, none⟩)]) w' fun e w'' => e = .returned (.bool (nearSq k i j)) ∧ Below w'.heap.size w' w'' := fun w' i j hb hi hj =>
          sq1_go w' _ _ _ _ k i j (one_at (persist hm hb)) (one_at (persist hq hb)) (own_map_mono hown hb) HP.out hi hj
        have HC := Lib.hid hcall
        have hbr := Lib.hid hbw
        clear hcall hown hbw
        go_wp2_with fail
        refine (made_go _ k (by omega) 37 _ (nearSq k) cf_sq1 HC.out).mono ?_
        rintro e w1 ⟨a2, n2, p2, rfl, hown2, hb2⟩
        go_wp2
        go_ret2
        exact ⟨a2, n2, p2, rfl, own_base hown2 hbr.out.size, btr hbr.out hb2⟩
end Go.Proofs.Ytiapngmallfelaa
