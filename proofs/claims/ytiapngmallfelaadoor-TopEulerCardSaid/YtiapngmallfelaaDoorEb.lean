
/- Walks: rooks.columns: the iterator; the law of a range over it. -/
import Derived.Test.YtiapngmallfelaaDoorEa
namespace Go.Proofs.YtiapngmallfelaaDoor
open Go.RowKit Go.Shelf
attribute [local go_sem] Oper.semAt_some
set_option linter.unusedSimpArgs false
def bitsL (s : Nat) : List Nat := (List.range 5).filter fun j => s / 2 ^ j % 2 == 1
def clr (s : Nat) : Nat := s &&& (s - 1)
theorem bits_step {s : Nat} (h0 : 0 < s) (hs : s < 32) : bitsL s = tzN s :: bitsL (clr s) ∧ clr s < s ∧ bits .and .i64 (s : Int) ((s : Int) - 1) = ((clr s : Nat) : Int) := by
  have h : ((List.range 32).all fun s => s == 0 || (bitsL s == tzN s :: bitsL (clr s) && decide (clr s < s) && bits .and .i64 (s : Int) ((s : Int) - 1) == ((clr s : Nat) : Int))) = true := by kernel_rfl
  have h1 := List.all_eq_true.1 h s (List.mem_range.2 hs)
  simp only [Bool.or_eq_true, beq_iff_eq, Bool.and_eq_true, decide_eq_true_eq] at h1
  rcases h1 with h1 | h1
  · omega
  · exact ⟨h1.1.1, h1.1.2, h1.2⟩
theorem bits_zero : bitsL 0 = [] := by decide
/-- The number in a box. -/
def cellN (w : World) (B : Nat) : Nat := match w.cell? ⟨B, 0, none⟩ with
  | some (.int _ z) => z.toNat
  | _ => 0
theorem cellN_box {w : World} {B r : Nat} (h : w.heap[B]? = some (.cells #[.int .i64 (r : Int)] 3 (0, 0))) : cellN w B = r := by
  unfold cellN
  rw [one_atB h]
  rfl
def BoxN (w : World) (B r : Nat) : Prop := w.heap[B]? = some (.cells #[.int .i64 (r : Int)] 3 (0, 0))
set_option maxHeartbeats 2000000 in
theorem cols1_in (n l Bs s : Nat) (hs : s < 32) (J : List Nat → World → Prop)
    (hJs : ∀ pre A (v : Int), J pre A → J pre (A.setCell ⟨Bs, 0, none⟩ (.int .i64 v)))
    (hJt : ∀ pre A, J pre A → Tab A)
    (hY : ∀ (pre : List Nat) (x : Nat) (A : World), J pre A → pre ++ [x] <+: bitsL s → x < 5 → (∃ r, BoxN A Bs r) → YieldAt Fence.wide (n - 1) Tryd.prog l #[.int .i64 (x : Int)] A fun e A' => e = .returned (.bool true) ∧ J (pre ++ [x]) A' ∧ A'.heap[Bs]? = A.heap[Bs]?)
    (W : World) (hB : BoxN W Bs s) (h0 : J [] W) :
    CallsIn Fence.wide n Tryd.prog 33 #[.func (.yield l) #[] #[], .pointer (some ⟨Bs, 0, none⟩)] W fun e W' => (∃ v, e = .returned v) ∧ J (bitsL s) W' := by
  refine callsIn_of_wp Tryd.func33 rfl trivial ?_ rfl
  simp only [Tryd.ntmps33, List.size_toArray, List.length_cons, List.length_nil, Nat.reduceAdd, Nat.reduceSub, Array.replicate_succ, Array.replicate_zero, List.push_toArray, List.append_toArray, List.nil_append, List.cons_append]
  gi_wp2
  gi_loopw [] (fun wr => ∃ (pre : List Nat) (r : Nat), r < 32 ∧ Hid (bitsL s = pre ++ bitsL r) ∧ Hid (BoxN wr Bs r) ∧ Hid (J pre wr)) (fun wr => cellN wr Bs)
  case atStart =>
    exact ⟨[], s, hs, Lib.hid rfl, Lib.hid hB, Lib.hid h0⟩
  case round =>
    obtain ⟨pre, r, hr, HE, HB, HJ⟩ := hrel
    have e1 := one_atB HB.out
    have z1 := lt_of_block HB.out
    by_cases h0 : r = 0
    · subst h0
      have HE2 := Lib.hid (show bitsL s = pre by rw [HE.out, bits_zero, List.append_nil])
      gi_wp2
      go_end0
      exact ⟨⟨_, rfl⟩, by rw [HE2.out]; exact HJ.out⟩
    · obtain ⟨hb1, hb2, hb3⟩ := bits_step (s := r) (by omega) hr
      have hne : ¬ (r : Int) = 0 := by omega
      have HTZ := Lib.hid (tz_go wr r (by omega) hr (hJt _ _ HJ.out))
      have ht5 := ((hJt _ _ HJ.out).at r).2.1
      have HY := Lib.hid (hY pre (tzN r) wr HJ.out (by rw [HE.out, hb1]; exact ⟨bitsL (clr r), by simp⟩) ht5 ⟨r, HB.out⟩)
      have HE2 := Lib.hid (show bitsL s = (pre ++ [tzN r]) ++ bitsL (clr r) by rw [HE.out, hb1]; simp)
      generalize tzN r = x at *
      generalize clr r = r2 at *
      have kc : IntKind.u64.wrap (r : Int) = (r : Int) := by rw [IntKind.wrap_u64 _]; omega
      clear hb1 h0
      gi_wp2
      refine ⟨trivial, (fun h => by cases h), (callsIn_wide.2 HTZ.out).mono ?_⟩
      rintro e w' ⟨rfl, rfl⟩
      obtain ⟨fn, tmps, assign, body, hy, hR⟩ := HY.out
      gi_wp2
      refine ⟨(fun h => by cases h), hR.mono ?_⟩
      rintro e W3 ⟨rfl, hJ3, hB3⟩
      have hB4 : BoxN W3 Bs r := hB3.trans HB.out
      have HJ4 := Lib.hid (hJs _ _ (r2 : Int) hJ3)
      have HB5 : Hid (BoxN (W3.setCell ⟨Bs, 0, none⟩ (.int .i64 (r2 : Int))) Bs r2) := Lib.hid (set_at hB4 0 _)
      have e1' := one_atB hB4
      have f1' := free_at hB4 0
      have z1' := lt_of_block hB4
      have hm1 : cellN wr Bs = r := cellN_box HB.out
      have hm2 : cellN (W3.setCell ⟨Bs, 0, none⟩ (.int .i64 (r2 : Int))) Bs = r2 := cellN_box HB5.out
      have HM := Lib.hid (And.intro hm1 hm2)
      clear hm1 hm2 hB4 hB3 hJ3 hy hR e1 z1
      gi_wp2
      exact ⟨⟨pre ++ [x], r2, by omega, HE2, HB5, HJ4⟩, by rw [HM.out.1, HM.out.2]; exact hb2⟩
/-! ### the range over it -/
/-- Nothing that lay has turned but the iterator's box and the loop's two blocks. -/
structure Near (S Bs : Nat) (W W' : World) : Prop where
  os : W'.os = W.os
  tape : W'.tape = W.tape
  output : W'.output = W.output
  size : W.heap.size ≤ W'.heap.size
  block : ∀ k, k < W.heap.size → k ≠ Bs → k ≠ S → k ≠ S + 1 → W'.heap[k]? = W.heap[k]?
def roundOk (R : World → Prop) : Exit → Act → World → Prop
  | .normal, _, W => R W
  | _, _, _ => False
theorem near_alloc (S Bs : Nat) (W : World) (o : Obj) : Near S Bs W (W.alloc o) :=
  have h := bal (Below.refl W.heap.size W) o
  ⟨h.os, h.tape, h.output, h.size, fun k hk _ _ _ => h.block k hk⟩
theorem near_put (S Bs : Nat) (W : World) (o : Obj) : Near S Bs W (W.putObj (S + 1) o) :=
  ⟨rfl, rfl, rfl, by rw [World.putObj_size]; exact Nat.le_refl _, fun _ _ _ _ h => World.putObj_heap_other h⟩
theorem near_set (S Bs : Nat) (W : World) (v : Value) : Near S Bs W (W.setCell ⟨Bs, 0, none⟩ v) :=
  ⟨rfl, rfl, rfl, by rw [World.size_setCell]; exact Nat.le_refl _, fun k _ h _ _ => Below.heap_setCell _ _ _ k h⟩
theorem enters_cols : Enters Tryd.prog 33 := enters_of Tryd.func33 (by kernel_rfl) rfl
theorem range_cols {n : Nat} {g : Operand} {ps : Array Tmp} {assign body : Code} {Q : Exit → Act → World → Prop} {a : Act} {w : World} (Bs s : Nat) (hs : s < 32)
    (hg : a.eval g = .func (.func 33) #[] #[.pointer (some ⟨Bs, 0, none⟩)]) (hps : ps.size = 1) (hB : BoxN w Bs s)
    (I : List Nat → World → Prop) (h0 : I [] w) (hI : ∀ pre A A', I pre A → w.heap.size ≤ A.heap.size → Near w.heap.size Bs A A' → I pre A') (hT : ∀ pre A, I pre A → Tab A) (a₁ : Nat → Act)
    (hassign : ∀ (l x : Nat) (W : World) (K : Act → World → Prop), K (a₁ x) W →
      assign.wpIn (Fence.wide.inRound l) (n - 1 - 1) Tryd.prog (Exit.then K (fun _ _ _ => False)) { tmps := (ps.zip #[.int .i64 (x : Int)]).foldl (fun t (p, v) => t.setIfInBounds p v) a.tmps, defers := [] } W)
    (hbody : ∀ (l : Nat) (pre : List Nat) (x : Nat) (W : World), I pre W → pre ++ [x] <+: bitsL s → x < 5 → w.heap.size + 2 ≤ W.heap.size →
      body.wpIn (Fence.wide.inRound l) (n - 1 - 1) Tryd.prog (roundOk fun W' => I (pre ++ [x]) W' ∧ W'.heap[Bs]? = W.heap[Bs]? ∧ W'.heap[w.heap.size]? = W.heap[w.heap.size]? ∧ W'.heap[w.heap.size + 1]? = W.heap[w.heap.size + 1]? ∧ W.heap.size ≤ W'.heap.size) (a₁ x) W)
    (hdone : ∀ W, I (bitsL s) W → W.heap[w.heap.size]? = some (.deferred (some [])) → Q .normal { a with defers := { target := .collected w.heap.size, args := #[] } :: a.defers } W) :
    (Code.rangeFunc g ps assign body).wpIn Fence.wide n Tryd.prog Q a w := by
  have hBl := lt_of_block hB
  refine wpIn_rangeFunc ?_
  intro fn _
  obtain ⟨rec, hrec⟩ : ∃ rec : LoopState → Option Code → Loop, rec = fun st pe => { state := st, pending := pe, fn, tmps := a.tmps, params := ps, assign, body, defers := w.heap.size } := ⟨_, rfl⟩
  obtain ⟨W1, hW1⟩ : ∃ W1, (w.alloc (.deferred (some []))).alloc (.loop (rec .ready none)) = W1 := ⟨_, rfl⟩
  have hL1 : W1.heap[w.heap.size + 1]? = some (.loop (rec .ready none)) := by
    rw [← hW1]
    have h := World.alloc_heap_new (w.alloc (.deferred (some []))) (.loop (rec .ready none))
    rwa [World.size_alloc] at h
  have hD1 : W1.heap[w.heap.size]? = some (.deferred (some [])) := by
    rw [← hW1]
    exact (Below.heap_alloc _ _ _ (by simp)).trans (World.alloc_heap_new w _)
  have hI1 : I [] W1 := by
    rw [← hW1]
    exact hI _ _ _ (hI _ _ _ h0 (Nat.le_refl _) (near_alloc _ _ _ _)) (by simp) (near_alloc _ _ _ _)
  have hB1 : BoxN W1 Bs s := by
    rw [← hW1]
    exact persist hB (bal (bal (Below.refl _ _) _) _)
  refine ⟨w.heap.size + 1, [{ target := .collected w.heap.size, args := #[] }], W1, { target := .fn (.func 33) #[.pointer (some ⟨Bs, 0, none⟩)], args := #[.func (.yield (w.heap.size + 1)) #[] #[]] }, W1, 33,
    #[.func (.yield (w.heap.size + 1)) #[] #[], .pointer (some ⟨Bs, 0, none⟩)], W1, ?_, ?_, fun _ _ => trivial, ?_, fun h => (by cases h), ?_⟩
  · rw [← hW1, hrec]; exact run_enterLoop_outer _ _ _ _ _
  · simp only [resolve, hg]
    simp [go_sem]
  · simp [invoke, go_sem, enters_cols]
  · refine (cols1_in (n - 1) (w.heap.size + 1) Bs s hs (fun pre W => I pre W ∧ W.heap[w.heap.size + 1]? = some (.loop (rec .ready none)) ∧ W.heap[w.heap.size]? = some (.deferred (some [])) ∧ w.heap.size + 2 ≤ W.heap.size)
      (fun pre A v h => ⟨hI _ _ _ h.1 (by omega) (near_set _ _ _ _), (Below.heap_setCell _ _ _ _ (by show w.heap.size + 1 ≠ Bs; omega)).trans h.2.1, (Below.heap_setCell _ _ _ _ (by show w.heap.size ≠ Bs; omega)).trans h.2.2.1, by rw [World.size_setCell]; exact h.2.2.2⟩)
      (fun pre A h => hT _ _ h.1) ?_ W1 hB1 ⟨hI1, hL1, hD1, by have := (Array.getElem?_eq_some_iff.1 hL1).1; omega⟩).mono ?_
    · rintro pre x A ⟨hi, hl, hd, hz⟩ hpre hx5 ⟨r, hbox⟩
      have hlt : w.heap.size + 1 < A.heap.size := by omega
      have hy := run_yield (P := Tryd.prog) (args := #[.int .i64 (x : Int)]) hl (by rw [hrec]; exact hps.symm)
      rw [hrec] at hy
      refine ⟨fn, _, assign, body, hy, roundIn_of_wpIn trivial (hassign _ x A _ ⟨_, run_beginRound hl (by rw [hrec]), ?_⟩)⟩
      have hl2 : (A.putObj (w.heap.size + 1) (.loop { rec .ready none with state := .busy })).heap[w.heap.size + 1]? = some (.loop { rec .ready none with state := .busy }) := World.putObj_heap_same hlt
      have hd2 : (A.putObj (w.heap.size + 1) (.loop { rec .ready none with state := .busy })).heap[w.heap.size]? = some (.deferred (some [])) := (World.putObj_heap_other (by omega)).trans hd
      refine wpIn_mono (hbody _ pre x _ (hI _ _ _ hi (by omega) (near_put _ Bs _ _)) hpre hx5 (by rw [World.putObj_size]; omega)) ?_
      rintro e a3 W3 hp
      cases e with
      | normal =>
        obtain ⟨hi3, hb3, hd3, hl3, hz3⟩ := hp
        rw [World.putObj_size] at hz3
        rw [hl2] at hl3
        rw [hd2] at hd3
        rw [World.putObj_heap_other (by omega)] at hb3
        have hr := run_endRound (P := Tryd.prog) none hl3
        rw [hrec] at hr hl3 ⊢
        refine ⟨_, _, hr, rfl, ⟨hI _ _ _ hi3 (by omega) (near_put _ Bs _ _), World.putObj_heap_same (by omega), (World.putObj_heap_other (by omega)).trans hd3, by rw [World.putObj_size]; omega⟩, (World.putObj_heap_other (by omega)).trans hb3⟩
      | ret => exact hp.elim
      | exit id => exact hp.elim
      | goto t => exact hp.elim
      | panic ch => exact hp.elim
      | outgrown => exact hp.elim
    · rintro e W2 ⟨⟨v, rfl⟩, hi, hl, hd, hz⟩
      have hend := run_endLoop (P := Tryd.prog) hl (by rw [hrec]; simp)
      rw [hrec] at hend
      exact ⟨none, _, hend, hdone _ (hI _ _ _ hi (by omega) (near_put _ Bs _ _)) ((World.putObj_heap_other (by omega)).trans hd)⟩
end Go.Proofs.YtiapngmallfelaaDoor
