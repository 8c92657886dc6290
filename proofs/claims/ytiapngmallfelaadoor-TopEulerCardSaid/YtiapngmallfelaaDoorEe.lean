
/- rooks: what permutations holds, and what a step of it leaves. -/
import Derived.Test.YtiapngmallfelaaDoorEd
namespace Go.Proofs.YtiapngmallfelaaDoor
open Go.RowKit
set_option linter.unusedSimpArgs false
/-- Where things lie while permutations runs. -/
structure Px where
  xb : Nat
  xo : Nat
  ob : Nat
  xm : Nat
  xl : Nat
  xg : Nat
  m : Nat
  ab : Option Addr
  cb : Nat
  B : List Nat
  base : Nat
structure Px.Ok (X : Px) : Prop where
  m1 : 1 ≤ X.m
  m5 : X.m ≤ 5
  bv : ∀ i, gn X.B i < 64
  one : 1 < X.base
  lb : X.xb < X.base
  lo : X.xo < X.base
  lob : X.ob < X.base
  lm : X.xm < X.base
  ll : X.xl < X.base
  lg : X.xg < X.base
  ab : ∀ b o, X.ab = some ⟨b, o, none⟩ → b < X.base ∧ b ≠ X.xl ∧ b ≠ X.ob
  n1 : X.xl ≠ 1 ∧ X.ob ≠ 1
  n2 : X.xl ≠ X.xb ∧ X.xl ≠ X.xo ∧ X.xl ≠ X.ob ∧ X.xl ≠ X.xm ∧ X.xl ≠ X.xg
  n3 : X.ob ≠ X.xb ∧ X.ob ≠ X.xo ∧ X.ob ≠ X.xm ∧ X.ob ≠ X.xg
def vals (l : List Nat) : List Value := (ints l).map (Value.int .i64)
structure PI (X : Px) (cnt pre : List Nat) (W : World) : Prop where
  hb : W.heap[X.xb]? = some (.cells #[.slice X.ab X.m X.cb] 23 (0, 0))
  ho : W.heap[X.xo]? = some (.cells #[.slice (some ⟨X.ob, 0, none⟩) (X.m + 1) (X.m + 1)] 23 (0, 0))
  hob : W.heap[X.ob]? = some (.cells ((cnt.map fun x : Nat => Value.int .i64 (x : Int)).toArray) 3 (0, 0))
  hm : W.heap[X.xm]? = some (.cells #[.func (.func 12) #[] #[.pointer (some ⟨X.xo, 0, none⟩), .pointer (some ⟨X.xb, 0, none⟩)]] 41 (0, 0))
  hg : W.heap[X.xg]? = some (.cells #[.func (.func 21) #[] #[.pointer (some ⟨X.xm, 0, none⟩), .pointer (some ⟨X.xl, 0, none⟩), .pointer (some ⟨X.xg, 0, none⟩)]] 37 (0, 0))
  hl : ∃ v, W.heap[X.xl]? = some (.cells #[v] 23 (0, 0)) ∧ W.ownsRow X.base 3 1 v pre.length (vals pre)
  hB : Sl W X.ab X.m X.cb (ints X.B)
  tab : Tab W
  hcl : cnt.length = X.m + 1
  hsz : X.base ≤ W.heap.size
def ownB (X : Px) (W : World) : Option Nat := match W.cell? ⟨X.xl, 0, none⟩ with
  | some v => v.ownBlock
  | none => none
theorem ownB_is {X : Px} {W : World} {v : Value} (h : W.heap[X.xl]? = some (.cells #[v] 23 (0, 0))) : ownB X W = v.ownBlock := by
  unfold ownB
  rw [one_atB h]
theorem ownB_same {X : Px} {W W' : World} (h : W'.heap[X.xl]? = W.heap[X.xl]?) : ownB X W' = ownB X W := by
  unfold ownB World.cell?
  simp only [h]
structure Mv (X : Px) (W W' : World) : Prop where
  os : W'.os = W.os
  tape : W'.tape = W.tape
  output : W'.output = W.output
  size : W.heap.size ≤ W'.heap.size
  block : ∀ x, x < W.heap.size → x ≠ X.xl → x ≠ X.ob → ownB X W ≠ some x → W'.heap[x]? = W.heap[x]?
  own : ∀ x, x < W.heap.size → x ≠ X.xl → x ≠ X.ob → ownB X W ≠ some x → ownB X W' ≠ some x
theorem Mv.refl (X : Px) (W : World) : Mv X W W := ⟨rfl, rfl, rfl, Nat.le_refl _, fun _ _ _ _ _ => rfl, fun _ _ _ _ h => h⟩
theorem Mv.trans {X : Px} {A B C : World} (h : Mv X A B) (k : Mv X B C) : Mv X A C :=
  ⟨k.os.trans h.os, k.tape.trans h.tape, k.output.trans h.output, Nat.le_trans h.size k.size,
   fun x a b c d => (k.block x (Nat.lt_of_lt_of_le a h.size) b c (h.own x a b c d)).trans (h.block x a b c d),
   fun x a b c d => k.own x (Nat.lt_of_lt_of_le a h.size) b c (h.own x a b c d)⟩
/-- A step that turns nothing below the start's heap but what may be turned. -/
theorem Mv.next {X : Px} {A B C : World} (h : Mv X A B) (h1 : C.os = B.os) (h2 : C.tape = B.tape) (h3 : C.output = B.output) (h4 : B.heap.size ≤ C.heap.size)
    (h5 : ∀ x, x < A.heap.size → x ≠ X.xl → x ≠ X.ob → ownB X B ≠ some x → C.heap[x]? = B.heap[x]?) (h6 : ∀ x, x < A.heap.size → ownB X C = some x → ownB X B = some x) : Mv X A C :=
  ⟨h1.trans h.os, h2.trans h.tape, h3.trans h.output, Nat.le_trans h.size h4, fun x a b c d => (h5 x a b c (h.own x a b c d)).trans (h.block x a b c d),
   fun x a b c d e => h.own x a b c d (h6 x a e)⟩
theorem cells_same {W W' : World} {k : Nat} (h : W'.heap[k]? = W.heap[k]?) (o : Nat) : W'.cell? ⟨k, o, none⟩ = W.cell? ⟨k, o, none⟩ := by unfold World.cell?; simp only [h]
theorem Sl.keep {W W' : World} {a : Option Addr} {n cap : Nat} {l : List Int} (h : Sl W a n cap l) (hs : W.heap.size ≤ W'.heap.size) (hb : ∀ b o, a = some ⟨b, o, none⟩ → b < W.heap.size → W'.heap[b]? = W.heap[b]?) : Sl W' a n cap l := by
  obtain ⟨h1, h2, h3, h | h | ⟨b, off, rfl, hlt, hc⟩⟩ := h
  · exact ⟨h1, h2, h3, .inl h⟩
  · exact ⟨h1, h2, h3, .inr (.inl h)⟩
  · exact ⟨h1, h2, h3, .inr (.inr ⟨b, off, rfl, by omega, fun i hi => (cells_same (hb b off rfl hlt) _).trans (hc i hi)⟩)⟩
/-- What permutations holds stays while other blocks are turned. -/
theorem PI.keep {X : Px} (hX : X.Ok) {cnt pre : List Nat} {W W' : World} (h : PI X cnt pre W) (hs : W.heap.size ≤ W'.heap.size)
    (hb : ∀ x, x < X.base → W'.heap[x]? = W.heap[x]?) (ho : ∀ x, ownB X W = some x → W'.heap[x]? = W.heap[x]?) : PI X cnt pre W' := by
  obtain ⟨v, hv, hown⟩ := h.hl
  refine ⟨(hb _ hX.lb).trans h.hb, (hb _ hX.lo).trans h.ho, (hb _ hX.lob).trans h.hob, (hb _ hX.lm).trans h.hm, (hb _ hX.lg).trans h.hg, ⟨v, (hb _ hX.ll).trans hv, ?_⟩, ?_, ?_, h.hcl, Nat.le_trans h.hsz hs⟩
  · obtain ⟨h1, h2 | ⟨g, c, cur, e1, e2, e3, r⟩⟩ := hown
    · exact ⟨h1, .inl h2⟩
    · refine ⟨h1, .inr ⟨g, c, cur, e1, e2, ?_, r⟩⟩
      rw [ho g (by rw [ownB_is hv, e1]; rfl)]
      exact e3
  · exact h.hB.keep hs fun b o e hl => hb _ (hX.ab b o e).1
  · exact h.tab.mono hs (hb 1 hX.one)
theorem PI.pre1 {X : Px} {cnt pre : List Nat} {W : World} (h : PI X cnt pre W) : ∃ a c, W.heap[X.xl]? = some (.cells #[.slice a pre.length c] 23 (0, 0)) ∧ W.ownsRow X.base 3 1 (.slice a pre.length c) pre.length (vals pre) := by
  obtain ⟨v, hv, hown⟩ := h.hl
  obtain ⟨a, c, rfl⟩ := own_slice hown
  exact ⟨a, c, hv, hown⟩
/-- append and the store into the box. -/
theorem PI.push {X : Px} (hX : X.Ok) {cnt pre : List Nat} {W W2 : World} {v v' : Value} {x : Nat} (o : Obj) (h : PI X cnt pre W) (hv : W.heap[X.xl]? = some (.cells #[v] 23 (0, 0))) (hown : W.ownsRow X.base 3 1 v pre.length (vals pre))
    (h2 : W2.ownsRow X.base 3 1 v' (pre.length + 1) ((ints pre ++ [(x : Int)]).map (Value.int .i64))) (hg : (W.alloc o).grownBy W2 v.ownBlock) (hw : v'.ownBlock = v.ownBlock ∨ v'.ownBlock = some (W.alloc o).heap.size) :
    PI X cnt (pre ++ [x]) (W2.setCell ⟨X.xl, 0, none⟩ v') ∧ Mv X W (W2.setCell ⟨X.xl, 0, none⟩ v') := by
  have hs : W.heap.size + 1 ≤ W2.heap.size := by have := hg.size; simpa using this
  have hge : ∀ g, v.ownBlock = some g → X.base ≤ g ∧ g < W.heap.size := hown.lt
  have hge2 : ∀ g, v'.ownBlock = some g → X.base ≤ g ∧ g < W2.heap.size := h2.lt
  have k1 : ∀ k, k < W.heap.size → v.ownBlock ≠ some k → W2.heap[k]? = W.heap[k]? := fun k hk hne => (hg.block k (by simp; omega) (fun e => hne e.symm)).trans (Below.heap_alloc W o k (by omega))
  have k2 : ∀ k, k < X.base → W2.heap[k]? = W.heap[k]? := fun k hk => k1 k (by have := h.hsz; omega) (fun e => by have := (hge k e).1; omega)
  have k3 : ∀ k, k ≠ X.xl → (W2.setCell ⟨X.xl, 0, none⟩ v').heap[k]? = W2.heap[k]? := fun k hk => Below.heap_setCell _ _ _ k hk
  have k4 : (W2.setCell ⟨X.xl, 0, none⟩ v').heap[X.xl]? = some (.cells #[v'] 23 (0, 0)) := set_at ((k2 _ hX.ll).trans hv) 0 v'
  have k5 := hX.n2
  have k6 := hX.n1
  have k7 := h.hsz
  have hown3 : (W2.setCell ⟨X.xl, 0, none⟩ v').ownsRow X.base 3 1 v' (pre ++ [x]).length (vals (pre ++ [x])) := by
    have e1 : vals (pre ++ [x]) = (ints pre ++ [(x : Int)]).map (Value.int .i64) := by unfold vals; rw [ints_app]; rfl
    rw [e1, List.length_append]
    obtain ⟨h3, h4 | ⟨g, c, cur, e2, e3, e4, r⟩⟩ := h2
    · exact ⟨h3, .inl h4⟩
    · refine ⟨h3, .inr ⟨g, c, cur, e2, e3, ?_, r⟩⟩
      rw [k3 g (by have := hX.ll; omega)]
      exact e4
  refine ⟨⟨?_, ?_, ?_, ?_, ?_, ⟨v', k4, hown3⟩, ?_, ?_, h.hcl, by rw [World.size_setCell]; omega⟩, ⟨?_, ?_, ?_, by rw [World.size_setCell]; omega, ?_, ?_⟩⟩
  · rw [k3 _ (by omega), k2 _ hX.lb]; exact h.hb
  · rw [k3 _ (by omega), k2 _ hX.lo]; exact h.ho
  · rw [k3 _ (by omega), k2 _ hX.lob]; exact h.hob
  · rw [k3 _ (by omega), k2 _ hX.lm]; exact h.hm
  · rw [k3 _ (by omega), k2 _ hX.lg]; exact h.hg
  · exact h.hB.keep (by rw [World.size_setCell]; omega) fun b o e hl => by
      have := hX.ab b o e
      rw [k3 _ (by omega), k2 _ this.1]
  · exact h.tab.mono (by rw [World.size_setCell]; omega) (by rw [k3 _ (by omega), k2 _ hX.one])
  · exact hg.os
  · exact hg.tape
  · exact hg.output
  · intro k hk n1 n2 n3
    rw [ownB_is hv] at n3
    rw [k3 _ n1, k1 k hk n3]
  · intro k hk n1 n2 n3
    rw [ownB_is hv] at n3
    rw [ownB_is k4]
    rcases hw with e | e
    · rw [e]; exact n3
    · rw [e]; intro e2; have := Option.some.inj e2; simp at this; omega
theorem ownsRow_pop {w : World} {base : Nat} {a : Option Addr} {c : Nat} {l : List Nat} {x : Nat} (h : w.ownsRow base 3 1 (.slice a (l ++ [x]).length c) (l ++ [x]).length (vals (l ++ [x]))) : w.ownsRow base 3 1 (.slice a l.length c) l.length (vals l) := by
  obtain ⟨h1, ⟨h2, h3⟩ | ⟨g, c, cur, e1, e2, e3, e4, e5, e6, e7⟩⟩ := h
  · simp at h3
  · simp at e1
    obtain ⟨rfl, rfl⟩ := e1
    refine ⟨by simp [vals, ints], .inr ⟨g, _, cur, rfl, e2, e3, by simp at e4; omega, e5, e6, ?_⟩⟩
    have e8 := congrArg (List.take l.length) e7
    rw [List.take_take] at e8
    rw [show min l.length ((l ++ [x]).length * 1) = l.length * 1 by simp] at e8
    rw [e8]
    simp [vals, ints]
theorem PI.pop {X : Px} (hX : X.Ok) {cnt pre : List Nat} {W : World} {a : Option Addr} {c x : Nat} (h : PI X cnt (pre ++ [x]) W) (hv : W.heap[X.xl]? = some (.cells #[.slice a (pre ++ [x]).length c] 23 (0, 0))) (hown : W.ownsRow X.base 3 1 (.slice a (pre ++ [x]).length c) (pre ++ [x]).length (vals (pre ++ [x]))) :
    PI X cnt pre (W.setCell ⟨X.xl, 0, none⟩ (.slice a pre.length c)) ∧ Mv X W (W.setCell ⟨X.xl, 0, none⟩ (.slice a pre.length c)) := by
  have k3 : ∀ k, k ≠ X.xl → (W.setCell ⟨X.xl, 0, none⟩ (.slice a pre.length c)).heap[k]? = W.heap[k]? := fun k hk => Below.heap_setCell _ _ _ k hk
  have k4 : (W.setCell ⟨X.xl, 0, none⟩ (.slice a pre.length c)).heap[X.xl]? = some (.cells #[.slice a pre.length c] 23 (0, 0)) := set_at hv 0 _
  have k5 := hX.n2
  have k6 := hX.n1
  have k7 := h.hsz
  have hown3 : (W.setCell ⟨X.xl, 0, none⟩ (.slice a pre.length c)).ownsRow X.base 3 1 (.slice a pre.length c) pre.length (vals pre) := by
    obtain ⟨h3, h4 | ⟨g, c', cur, e2, e3, e4, r⟩⟩ := ownsRow_pop hown
    · exact ⟨h3, .inl h4⟩
    · refine ⟨h3, .inr ⟨g, c', cur, e2, e3, ?_, r⟩⟩
      rw [k3 g (by have := hX.ll; omega)]
      exact e4
  refine ⟨⟨?_, ?_, ?_, ?_, ?_, ⟨_, k4, hown3⟩, ?_, ?_, h.hcl, by rw [World.size_setCell]; omega⟩, ⟨rfl, rfl, rfl, by rw [World.size_setCell]; omega, ?_, ?_⟩⟩
  · rw [k3 _ (by omega)]; exact h.hb
  · rw [k3 _ (by omega)]; exact h.ho
  · rw [k3 _ (by omega)]; exact h.hob
  · rw [k3 _ (by omega)]; exact h.hm
  · rw [k3 _ (by omega)]; exact h.hg
  · exact h.hB.keep (by rw [World.size_setCell]; omega) fun b o e hl => by
      have := hX.ab b o e
      rw [k3 _ (by omega)]
  · exact h.tab.mono (by rw [World.size_setCell]; omega) (by rw [k3 _ (by omega)])
  · intro k hk n1 n2 n3
    rw [k3 _ n1]
  · intro k hk n1 n2 n3
    rw [ownB_is hv] at n3
    rw [ownB_is k4]
    cases a with
    | none => simp [Value.ownBlock]
    | some y => simpa [Value.ownBlock] using n3
theorem PI.bump {X : Px} (hX : X.Ok) {cnt pre : List Nat} {W W' : World} {i y : Nat} (h : PI X cnt pre W) (hd : ∃ m, W' = (W.drewN m).setCell ⟨X.ob, i, none⟩ (.int .i64 ((y : Nat) : Int))) (_hi : i < X.m + 1) :
    PI X (cnt.set i y) pre W' ∧ Mv X W W' := by
  obtain ⟨m, rfl⟩ := hd
  have k3 : ∀ k, k ≠ X.ob → ((W.drewN m).setCell ⟨X.ob, i, none⟩ (.int .i64 ((y : Nat) : Int))).heap[k]? = W.heap[k]? := fun k hk => Below.heap_setCell (W.drewN m) _ _ k hk
  have k4 := set_at (w := W.drewN m) h.hob i (.int .i64 ((y : Nat) : Int))
  have k5 := hX.n2
  have k6 := hX.n1
  have k8 := hX.n3
  have k7 := h.hsz
  obtain ⟨v, hv, hown⟩ := h.hl
  refine ⟨⟨?_, ?_, ?_, ?_, ?_, ⟨v, by rw [k3 _ (by omega)]; exact hv, ?_⟩, ?_, ?_, by simpa using h.hcl, by rw [World.size_setCell]; exact k7⟩, ⟨rfl, rfl, rfl, by rw [World.size_setCell]; exact Nat.le_refl _, ?_, ?_⟩⟩
  · rw [k3 _ (by omega)]; exact h.hb
  · rw [k3 _ (by omega)]; exact h.ho
  · rw [k4]
    congr 2
    simp [List.map_set]
  · rw [k3 _ (by omega)]; exact h.hm
  · rw [k3 _ (by omega)]; exact h.hg
  · obtain ⟨h3, h4 | ⟨g, c', cur, e2, e3, e4, r⟩⟩ := hown
    · exact ⟨h3, .inl h4⟩
    · refine ⟨h3, .inr ⟨g, c', cur, e2, e3, ?_, r⟩⟩
      rw [k3 g (by have := hX.lob; omega)]
      exact e4
  · exact h.hB.keep (by rw [World.size_setCell]; exact Nat.le_refl _) fun b o e hl => by
      have := hX.ab b o e
      rw [k3 _ (by omega)]
  · exact h.tab.mono (by rw [World.size_setCell]; exact Nat.le_refl _) (by rw [k3 _ (by omega)])
  · intro k hk n1 n2 n3
    rw [k3 _ n2]
  · intro k hk n1 n2 n3
    rw [ownB_same (k3 _ (by omega))]
    exact n3
end Go.Proofs.YtiapngmallfelaaDoor
