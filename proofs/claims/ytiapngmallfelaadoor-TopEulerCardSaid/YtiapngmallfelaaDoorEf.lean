
/- rooks: grow, the recursive closure of permutations. -/
import Derived.Test.YtiapngmallfelaaDoorEe
import Derived.Test.YtiapngmallfelaaDoorEr
import Derived.TacticsIn
import Derived.BigRegionIn
import Derived.BigFrameIn
namespace Go.Proofs.YtiapngmallfelaaDoor
open Go.RowKit Go.Shelf
attribute [local go_sem] Oper.semAt_some
set_option linter.unusedSimpArgs false
def bumps (X : Px) (cnt : List Nat) (L : List (List Nat)) : List Nat := L.foldl (fun c l => c.set (hitN X.B l X.m) (gn c (hitN X.B l X.m) + 1)) cnt
def permsL : Nat → Nat → List Nat → List (List Nat)
  | 0, _, pre => [pre]
  | k + 1, left, pre => (bitsL left).flatMap fun j => permsL k (left - 2 ^ j) (pre ++ [j])
theorem PI.own_lt {X : Px} {cnt pre : List Nat} {W : World} (h : PI X cnt pre W) {x : Nat} (hx : ownB X W = some x) : X.base ≤ x ∧ x < W.heap.size := by
  obtain ⟨v, hv, hown⟩ := h.hl
  rw [ownB_is hv] at hx
  exact hown.lt x hx
theorem PI.alloc {X : Px} (hX : X.Ok) {cnt pre : List Nat} {W : World} (h : PI X cnt pre W) (o : Obj) : PI X cnt pre (W.alloc o) :=
  h.keep hX (by simp) (fun x hx => Below.heap_alloc _ _ _ (by have := h.hsz; omega)) (fun x hx => Below.heap_alloc _ _ _ (h.own_lt hx).2)
theorem Mv.alloc {X : Px} (hX : X.Ok) {cnt pre : List Nat} {A W : World} (k : Mv X A W) (h : PI X cnt pre W) (o : Obj) : Mv X A (W.alloc o) := by
  have h1 := h.hsz
  have h2 := hX.ll
  refine k.next rfl rfl rfl (by simp) (fun x hx _ _ _ => Below.heap_alloc _ _ _ (by have := k.size; omega)) (fun x _ hx => ?_)
  rwa [ownB_same (Below.heap_alloc _ _ _ (by omega))] at hx
theorem bump_le (X : Px) (L : List (List Nat)) : ∀ (cnt : List Nat) (i : Nat), gn (bumps X cnt L) i ≤ gn cnt i + L.length := by
  induction L with
  | nil => intro cnt i; simp [bumps]
  | cons l L ih =>
    intro cnt i
    have h1 := ih (cnt.set (hitN X.B l X.m) (gn cnt (hitN X.B l X.m) + 1)) i
    have h2 : gn (cnt.set (hitN X.B l X.m) (gn cnt (hitN X.B l X.m) + 1)) i ≤ gn cnt i + 1 := by
      simp only [gn, List.getD_eq_getElem?_getD, List.getElem?_set]
      split
      · rename_i e
        subst e
        split <;> simp
      · omega
    show gn (bumps X (cnt.set (hitN X.B l X.m) (gn cnt (hitN X.B l X.m) + 1)) L) i ≤ _
    simp only [List.length_cons]
    omega
theorem bumps_app (X : Px) (cnt : List Nat) (L M : List (List Nat)) : bumps X cnt (L ++ M) = bumps X (bumps X cnt L) M := by simp [bumps]
theorem bound_round (X : Px) (cnt : List Nat) (k left : Nat) (pre : List Nat) (hc : ∀ i, gn cnt i + (permsL (k + 1) left pre).length ≤ 100000) {done : List Nat} {x : Nat} (hp : done ++ [x] <+: bitsL left) :
    ∀ i, gn (bumps X cnt (done.flatMap fun j => permsL k (left - 2 ^ j) (pre ++ [j]))) i + (permsL k (left - 2 ^ x) (pre ++ [x])).length ≤ 100000 := by
  intro i
  obtain ⟨r, hr⟩ := hp
  have h1 := bump_le X (done.flatMap fun j => permsL k (left - 2 ^ j) (pre ++ [j])) cnt i
  have h2 := hc i
  have h3 : permsL (k + 1) left pre = (done.flatMap fun j => permsL k (left - 2 ^ j) (pre ++ [j])) ++ permsL k (left - 2 ^ x) (pre ++ [x]) ++ (r.flatMap fun j => permsL k (left - 2 ^ j) (pre ++ [j])) := by
    show (bitsL left).flatMap _ = _
    rw [← hr]
    simp
  rw [h3, List.length_append, List.length_append] at h2
  omega
theorem PI.drew {X : Px} {cnt pre : List Nat} {W : World} (h : PI X cnt pre W) : PI X cnt pre W.drew := ⟨h.hb, h.ho, h.hob, h.hm, h.hg, h.hl, h.hB, h.tab, h.hcl, h.hsz⟩
theorem Mv.of_drew {X : Px} {A B : World} (h : Mv X A.drew B) : Mv X A B := ⟨h.os, h.tape, h.output, h.size, h.block, h.own⟩
theorem onNormal_mk {R : Act → World → Prop} {a : Act} {w : World} (h : R a w) : OnNormal R .normal a w := h
def GrowEnd (X : Px) (cnt : List Nat) (L : List (List Nat)) (pre : List Nat) (W : World) (e : Ending) (W' : World) : Prop := e = .returned (.bool true) ∧ PI X (bumps X cnt L) pre W' ∧ Mv X W W'
theorem bits_nil : ∀ {s : Nat}, s < 32 → (bitsL s).length = 0 → s = 0 := by
  intro s hs h
  have h2 : ((List.range 32).all fun s => s == 0 || (bitsL s).length != 0) = true := by kernel_rfl
  have h1 := List.all_eq_true.1 h2 s (List.mem_range.2 hs)
  simp [h] at h1
  exact h1
theorem PI.store {X : Px} (hX : X.Ok) {cnt pre : List Nat} {W : World} (h : PI X cnt pre W) {x : Nat} (hx : X.base ≤ x) (hn : ownB X W ≠ some x) (i : Nat) (v : Value) : PI X cnt pre (W.setCell ⟨x, i, none⟩ v) :=
  h.keep hX (by rw [World.size_setCell]; exact Nat.le_refl _) (fun k hk => Below.heap_setCell _ _ _ k (by show k ≠ x; omega)) (fun k hk => Below.heap_setCell _ _ _ k (by show k ≠ x; rintro rfl; exact hn hk))
theorem Mv.store {X : Px} (hX : X.Ok) {A W : World} (k : Mv X A W) {x : Nat} (hb : X.base ≤ x) (hx : A.heap.size ≤ x) (i : Nat) (v : Value) : Mv X A (W.setCell ⟨x, i, none⟩ v) := by
  have h2 := hX.ll
  refine k.next rfl rfl rfl (by rw [World.size_setCell]; exact Nat.le_refl _) (fun j hj _ _ _ => Below.heap_setCell _ _ _ j (by show j ≠ x; omega)) (fun j _ hj => ?_)
  rwa [ownB_same (Below.heap_setCell _ _ _ _ (by show X.xl ≠ x; omega))] at hj
theorem PI.putO {X : Px} (hX : X.Ok) {cnt pre : List Nat} {W : World} (h : PI X cnt pre W) {x : Nat} (hx : X.base ≤ x) (hn : ownB X W ≠ some x) (o : Obj) : PI X cnt pre (W.putObj x o) :=
  h.keep hX (by rw [World.putObj_size]; exact Nat.le_refl _) (fun k hk => World.putObj_heap_other (by omega)) (fun k hk => World.putObj_heap_other (by rintro rfl; exact hn hk))
theorem Mv.putO {X : Px} (hX : X.Ok) {A W : World} (k : Mv X A W) {x : Nat} (hb : X.base ≤ x) (hx : A.heap.size ≤ x) (o : Obj) : Mv X A (W.putObj x o) := by
  have h2 := hX.ll
  refine k.next rfl rfl rfl (by rw [World.putObj_size]; exact Nat.le_refl _) (fun j hj _ _ _ => World.putObj_heap_other (by omega)) (fun j _ hj => ?_)
  rwa [ownB_same (World.putObj_heap_other (by omega))] at hj
theorem more_pi (X : Px) (hX : X.Ok) (pre cnt : List Nat) (W : World) (a : Option Addr) (c : Nat) (hp6 : ∀ i, gn pre i < 6) (h : PI X cnt pre W) (hl : Sl W a X.m c (ints pre)) (hc : ∀ i, gn cnt i < 1000000) :
    Calls Tryd.prog 12 #[.slice a X.m c, .pointer (some ⟨X.xo, 0, none⟩), .pointer (some ⟨X.xb, 0, none⟩)] W (GrowEnd X cnt [pre] pre W) := by
  have h1 := hX.m5
  have h2 := hitN_le X.B pre X.m
  refine (more_go W X.xo X.xb X.ob (X.m + 1) cnt X.ab a X.m X.cb X.m c X.B pre h.hB hl (Nat.le_refl _) (by omega) hX.bv hp6 h.ho h.hb h.hob h.hcl (by omega) (hc _)).mono ?_
  rintro e W' ⟨rfl, hd⟩
  exact ⟨rfl, h.bump hX hd (by omega)⟩
set_option maxHeartbeats 2000000 in
theorem grow_zero (X : Px) (hX : X.Ok) (n : Nat) (pre cnt : List Nat) (W : World) (hp : pre.length = X.m) (hp6 : ∀ i, gn pre i < 6) (h : PI X cnt pre W) (hc : ∀ i, gn cnt i < 1000000) :
    CallsIn Fence.wide n Tryd.prog 21 #[.int .i64 0, .pointer (some ⟨X.xm, 0, none⟩), .pointer (some ⟨X.xl, 0, none⟩), .pointer (some ⟨X.xg, 0, none⟩)] W (GrowEnd X cnt [pre] pre W) := by
  obtain ⟨a, c, h1, h2⟩ := h.pre1
  rw [hp] at h1 h2
  have hSl := own_sl h2
  have c_m := one_atB h.hm
  have c_l := one_atB h1
  have f_l := free_at h1 0
  have z0 := h.hsz
  have z1 : X.xm < W.heap.size := by have := hX.lm; omega
  have z2 : X.xl < W.heap.size := by have := hX.ll; omega
  have g1 := Mv.alloc hX (Mv.refl X W) h (.cells #[.int .i64 0] 3)
  have h3 := h.alloc hX (.cells #[.int .i64 0] 3)
  have g2 := Mv.alloc hX g1 h3 (.cells #[.bool false] 4)
  have h4 := h3.alloc hX (.cells #[.bool false] 4)
  have hne : ownB X ((W.alloc (.cells #[.int .i64 0] 3)).alloc (.cells #[.bool false] 4)) ≠ some (W.heap.size + 1) := by
    intro e
    have e2 : ownB X ((W.alloc (.cells #[.int .i64 0] 3)).alloc (.cells #[.bool false] 4)) = ownB X W := by
      rw [ownB_same (Below.heap_alloc _ _ _ (by simp; omega)), ownB_same (Below.heap_alloc _ _ _ (by omega))]
    rw [e2] at e
    have := (h.own_lt e).2
    omega
  have HM := Lib.hid (more_pi X hX pre cnt _ a c hp6 h4 (hSl.mono (bal (bal (Below.refl _ _) _) _)) hc)
  have HG := Lib.hid g2
  have HN := Lib.hid hne
  have HX := Lib.hid hX
  have kx := hX.ll
  have ko := hX.lob
  clear h h1 h2 hSl g1 h3 g2 h4 hne hX
  obtain ⟨U, hU⟩ : ∃ U, (W.alloc (.cells #[.int .i64 0] 3)).alloc (.cells #[.bool false] 4) = U := ⟨_, rfl⟩
  have hUs : U.heap.size = W.heap.size + 2 := by rw [← hU]; simp
  have hUr : U.heap[W.heap.size + 1]? = some (.cells #[.bool false] 4 (0, 0)) := by
    rw [← hU]
    have := new_at (W.alloc (.cells #[.int .i64 0] 3)) (.cells #[.bool false] 4)
    rwa [World.size_alloc] at this
  rw [hU] at HM HG HN
  have HU := Lib.hid hU
  have HUR := Lib.hid hUr
  have HUS := Lib.hid hUs
  clear hU hUr hUs
  refine callsIn_of_wp_marks Tryd.func21 rfl trivial ?_ rfl
  simp only [Tryd.ntmps21, List.size_toArray, List.length_cons, List.length_nil, Nat.reduceAdd, Nat.reduceSub, Array.replicate_succ, Array.replicate_zero, List.push_toArray, List.append_toArray, List.nil_append, List.cons_append]
  gi_wp2_with fail
  rw [HU.out]
  have hUr := HUR.out
  have hUs := HUS.out
  clear HU HUR HUS
  refine ⟨trivial, (fun h => by cases h), (callsIn_wide.2 HM.out).mono ?_⟩
  rintro e W3 ⟨rfl, hp3, hm3⟩
  have hr3 : W3.heap[W.heap.size + 1]? = some (.cells #[.bool false] 4 (0, 0)) := (hm3.block _ (by omega) (by omega) (by omega) HN.out).trans hUr
  have hn3 := hm3.own (W.heap.size + 1) (by omega) (by omega) (by omega) HN.out
  have c3 := one_atB hr3
  have f3 := free_at hr3 0
  have z3 := lt_of_block hr3
  have hr4 := set_at hr3 0 (.bool true)
  have c4 : (W3.setCell ⟨W.heap.size + 1, 0, none⟩ (.bool true)).cell? ⟨W.heap.size + 1, 0, none⟩ = some (.bool true) := one_atB hr4
  have HE := Lib.hid (show GrowEnd X cnt [pre] pre W (.returned (.bool true)) (W3.setCell ⟨W.heap.size + 1, 0, none⟩ (.bool true)) from ⟨rfl, hp3.store HX.out (by omega) hn3 0 _, (HG.out.trans hm3).store HX.out (by omega) (by omega) 0 _⟩)
  clear hp3 hm3 hn3 hr3 hr4 hUr hUs HN HG HM HX
  gi_wp2
  refine ⟨.bool true, ?_, HE.out⟩
  simp [results, Tryd.results21, go_sem, c4]
theorem columns_go (w : World) (s : Int) : Calls Tryd.prog 22 #[.int .i64 s] w fun e w' => e = .returned (.func (.func 33) #[] #[.pointer (some ⟨w.heap.size, 0, none⟩)]) ∧ w.alloc (.cells #[.int .i64 s] 3) = w' := by
  go_enter Tryd.func22, Tryd.ntmps22
  go_wp2
  go_ret
  exact ⟨rfl, rfl⟩
def roundP (X : Px) (cnt : List Nat) (k left : Nat) (pre0 : List Nat) (U : World) (pre : List Nat) (A : World) : Prop :=
  PI X (bumps X cnt (pre.flatMap fun j => permsL k (left - 2 ^ j) (pre0 ++ [j]))) pre0 A ∧ Mv X U A ∧ ∀ i, U.heap.size ≤ i → i < U.heap.size + 3 → ownB X A ≠ some i
theorem roundP.near {X : Px} (hX : X.Ok) {cnt : List Nat} {k left : Nat} {pre0 : List Nat} {U : World} (hU : X.base ≤ U.heap.size) {pre : List Nat} {A A' : World} (h : roundP X cnt k left pre0 U pre A) (hs : U.heap.size + 1 ≤ A.heap.size)
    (hn : Near (U.heap.size + 1) U.heap.size A A') : roundP X cnt k left pre0 U pre A' := by
  obtain ⟨h1, h2, h3⟩ := h
  have k1 := h1.hsz
  have k2 := hX.ll
  have hb : ∀ x, x < X.base → A'.heap[x]? = A.heap[x]? := fun x hx => hn.block x (by omega) (by omega) (by omega) (by omega)
  have hb2 : ∀ x, x < U.heap.size → A'.heap[x]? = A.heap[x]? := fun x hx => hn.block x (by omega) (by omega) (by omega) (by omega)
  have ho : ownB X A' = ownB X A := ownB_same (hb _ k2)
  refine ⟨h1.keep hX hn.size hb (fun x hx => ?_), h2.next hn.os hn.tape hn.output hn.size (fun x hx _ _ _ => hb2 x hx) (fun x _ hx => by rwa [ho] at hx), fun i a b => by rw [ho]; exact h3 i a b⟩
  refine hn.block x (h1.own_lt hx).2 ?_ ?_ ?_
  · rintro rfl; exact h3 _ (Nat.le_refl _) (by omega) hx
  · rintro rfl; exact h3 _ (by omega) (by omega) hx
  · rintro rfl; exact h3 _ (by omega) (by omega) hx
theorem bits_lt {s : Nat} (hs : s < 32) {j : Nat} (hj : j ∈ bitsL s) : j < 5 ∧ 2 ^ j ≤ s ∧ s - 2 ^ j < 32 ∧ (bitsL (s - 2 ^ j)).length + 1 = (bitsL s).length ∧ bits .andNot .i64 (s : Int) ((2 : Int) ^ j) = ((s - 2 ^ j : Nat) : Int) ∧ bits .andNot .i64 (s : Int) (((2 ^ j : Nat) : Int)) = ((s - 2 ^ j : Nat) : Int) := by
  have h2 : ((List.range 32).all fun s => (List.range 5).all fun j => !(bitsL s).contains j || (decide (2 ^ j ≤ s) && decide (s - 2 ^ j < 32) && (bitsL (s - 2 ^ j)).length + 1 == (bitsL s).length && bits .andNot .i64 (s : Int) ((2 : Int) ^ j) == ((s - 2 ^ j : Nat) : Int))) = true := by kernel_rfl
  have h5 : j < 5 := List.mem_range.1 (List.mem_filter.1 hj).1
  have h1 := List.all_eq_true.1 (List.all_eq_true.1 h2 s (List.mem_range.2 hs)) j (List.mem_range.2 h5)
  simp only [Bool.or_eq_true, Bool.not_eq_true', List.contains_eq_mem, decide_eq_false_iff_not, hj, not_true_eq_false, false_or, Bool.and_eq_true, decide_eq_true_eq, beq_iff_eq] at h1
  exact ⟨h5, h1.1.1.1, h1.1.1.2, h1.1.2, h1.2, by rw [pow_cast]; exact h1.2⟩
theorem push0 {X : Px} {W W2 : World} {v v0 : Value} {o : Obj} {n : Nat} {xs : List Value} (hl : X.xl < X.base) (hv : W.ownsRow X.base 3 1 v n xs) (hg : (W.alloc o).grownBy W2 v.ownBlock) (h : W.heap[X.xl]? = some (.cells #[v0] 23 (0, 0)) := by assumption) : W2.heap[X.xl]? = some (.cells #[v0] 23 (0, 0)) := by
  have h1 := lt_of_block h
  rw [hg.block X.xl (by simp; omega) (fun e => by have := (hv.lt X.xl e.symm).1; omega), Below.heap_alloc _ _ _ (by omega)]
  exact h
set_option maxHeartbeats 2000000 in
theorem grow_succ (X : Px) (hX : X.Ok) (k : Nat) (ih : ∀ (left : Nat) (pre cnt : List Nat) (W : World), left < 32 → (bitsL left).length = k → pre.length + k = X.m → (∀ i, gn pre i < 6) → PI X cnt pre W → (∀ i, gn cnt i + (permsL k left pre).length ≤ 100000) →
      Calls Tryd.prog 21 #[.int .i64 (left : Int), .pointer (some ⟨X.xm, 0, none⟩), .pointer (some ⟨X.xl, 0, none⟩), .pointer (some ⟨X.xg, 0, none⟩)] W (GrowEnd X cnt (permsL k left pre) pre W))
    (n left : Nat) (pre cnt : List Nat) (W : World) (hl : left < 32) (hlk : (bitsL left).length = k + 1) (hp : pre.length + (k + 1) = X.m) (hp6 : ∀ i, gn pre i < 6) (h : PI X cnt pre W) (hc : ∀ i, gn cnt i + (permsL (k + 1) left pre).length ≤ 100000) :
    CallsIn Fence.wide n Tryd.prog 21 #[.int .i64 (left : Int), .pointer (some ⟨X.xm, 0, none⟩), .pointer (some ⟨X.xl, 0, none⟩), .pointer (some ⟨X.xg, 0, none⟩)] W (GrowEnd X cnt (permsL (k + 1) left pre) pre W) := by
  have hl0 : ¬ (left : Int) = 0 := by
    intro e
    have : left = 0 := by omega
    subst this
    rw [bits_zero] at hlk
    simp at hlk
  have z0 := h.hsz
  have g1 := Mv.alloc hX (Mv.refl X W) h (.cells #[.int .i64 (left : Int)] 3)
  have h3 := h.alloc hX (.cells #[.int .i64 (left : Int)] 3)
  have g2 := Mv.alloc hX g1 h3 (.cells #[.bool false] 4)
  have h4 := h3.alloc hX (.cells #[.bool false] 4)
  have hne : ∀ i, W.heap.size ≤ i → ownB X ((W.alloc (.cells #[.int .i64 (left : Int)] 3)).alloc (.cells #[.bool false] 4)) ≠ some i := by
    intro i hi e
    have kx := hX.ll
    have e2 : ownB X ((W.alloc (.cells #[.int .i64 (left : Int)] 3)).alloc (.cells #[.bool false] 4)) = ownB X W := by
      rw [ownB_same (Below.heap_alloc _ _ _ (by simp; omega)), ownB_same (Below.heap_alloc _ _ _ (by omega))]
    rw [e2] at e
    have := (h.own_lt e).2
    omega
  obtain ⟨U, hU⟩ : ∃ U, (W.alloc (.cells #[.int .i64 (left : Int)] 3)).alloc (.cells #[.bool false] 4) = U := ⟨_, rfl⟩
  have hUs : U.heap.size = W.heap.size + 2 := by rw [← hU]; simp
  have hUr : U.heap[W.heap.size + 1]? = some (.cells #[.bool false] 4 (0, 0)) := by
    rw [← hU]
    have := new_at (W.alloc (.cells #[.int .i64 (left : Int)] 3)) (.cells #[.bool false] 4)
    rwa [World.size_alloc] at this
  have hUl : U.heap[W.heap.size]? = some (.cells #[.int .i64 (left : Int)] 3 (0, 0)) := by
    rw [← hU, Below.heap_alloc _ _ _ (by simp)]
    exact new_at W _
  rw [hU] at g2 h4 hne
  have HU := Lib.hid hU
  have HUR := Lib.hid hUr
  have HUL := Lib.hid hUl
  have HUS := Lib.hid hUs
  have HX := Lib.hid hX
  have HG := Lib.hid g2
  have HPI := Lib.hid h4
  have HN := Lib.hid hne
  have HLK := Lib.hid hlk
  have HP6 := Lib.hid hp6
  have HC := Lib.hid hc
  have hc0 := hc
  have HP := Lib.hid hp
  have HCOL := Lib.hid (columns_go U (left : Int))
  clear hU hUs hUr hUl g1 h3 g2 h4 hne hX hlk hp6 hc hp h
  refine callsIn_of_wp_marks Tryd.func21 rfl trivial ?_ rfl
  simp only [Tryd.ntmps21, List.size_toArray, List.length_cons, List.length_nil, Nat.reduceAdd, Nat.reduceSub, Array.replicate_succ, Array.replicate_zero, List.push_toArray, List.append_toArray, List.nil_append, List.cons_append]
  gi_wp2_with fail
  rw [HU.out]
  refine ⟨trivial, (fun h => by cases h), (callsIn_wide.2 HCOL.out).mono ?_⟩
  rintro e W1 ⟨rfl, rfl⟩
  gi_wp2
  have hUs := HUS.out
  have hX := HX.out
  have kll := hX.ll
  have klo := hX.lob
  have hplen : pre.length ≤ 1000000 := by have := hX.m5; have := HP.out; omega
  refine range_cols U.heap.size left hl rfl rfl (new_at U _) (roundP X cnt k left pre U) ?h0 ?hI ?hT
    (fun x => { tmps := #[.int .i64 (left : Int), .pointer (some ⟨X.xm, 0, none⟩), .pointer (some ⟨X.xl, 0, none⟩), .pointer (some ⟨X.xg, 0, none⟩), .pointer (some ⟨W.heap.size, 0, none⟩), .pointer (some ⟨W.heap.size + 1, 0, none⟩), .int .i64 (x : Int), .int .i64 (left : Int), .bool false, undef, undef, undef, .int .i64 (left : Int), .func (.func 33) #[] #[.pointer (some ⟨U.heap.size, 0, none⟩)], .int .i64 (x : Int), undef, undef, undef, undef, undef, undef, undef, undef, undef, undef, undef, undef, undef, undef, undef, undef], defers := [] }) ?assign ?body ?done
  case h0 =>
    refine ⟨HPI.out.alloc hX _, Mv.alloc hX (Mv.refl X U) HPI.out _, fun i hi _ => ?_⟩
    rw [ownB_same (Below.heap_alloc _ _ _ (by omega))]
    exact HN.out i (by omega)
  case hI =>
    intro done A A' h1 h2 h3
    rw [World.size_alloc] at h2 h3
    exact h1.near hX (by omega) h2 h3
  case hT => exact fun _ _ h => h.1.tab
  case assign =>
    clear hUs
    intro l x W2 K hK
    gi_wp2
    exact hK
  case body =>
    intro l done x W2 hI hpre hx5 hsz
    rw [World.size_alloc] at hsz
    have hmem : x ∈ bitsL left := List.IsPrefix.mem (by simp) hpre
    obtain ⟨b1, b2, b3, b4, b5, b6⟩ := bits_lt hl hmem
    obtain ⟨a, c, v1, v2⟩ := hI.1.pre1
    have hsz2 := hI.1.hsz
    have c_l := one_atB v1
    have f_l := free_at v1 0
    have z_l := lt_of_block v1
    have HI := Lib.hid hI
    have HUSZ := Lib.hid hUs
    have HV1 := Lib.hid v1
    have HB5 := Lib.hid b5
    have HB4 := Lib.hid (show (bitsL (left - 2 ^ x)).length = k by have := HLK.out; omega)
    have HBND := Lib.hid (bound_round X cnt k left pre hc0 hpre)
    have HB6 := Lib.hid b6
    clear hUs hI v1 b5 b6 b4 hpre hmem
    gi_wp2_with (gi_at_builtin; refine wpListIn_app1 rfl _ _ rfl rfl X.base _ pre.length (ints pre) rfl (v2.alloc _) W2.heap.size (x : Int) rfl (one_atB (new_at W2 _)) (by omega) (by simp; omega) ?_; intro v' W3 own3 grow3 where3; obtain ⟨a3, c3, rfl⟩ := own_slice own3; have v3 := push0 hX.ll v2 grow3 HV1.out; have cl3 := one_atB v3; have fl3 := free_at v3 0; have zl3 := lt_of_block v3; have HP4 := Lib.hid (HI.out.1.push hX _ HV1.out v2 own3 grow3 where3); clear own3 grow3 where3 v3)
    have hX := HX.out
    obtain ⟨W4, hW4⟩ : ∃ W4, W3.setCell ⟨X.xl, 0, none⟩ (.slice a3 (pre.length + 1) c3) = W4 := ⟨_, rfl⟩
    have hp4 := HP4.out
    rw [hW4] at hp4 ⊢
    clear hW4 HP4 cl3 fl3 zl3 c_l f_l z_l v2
    have hUs := HUSZ.out
    have k0 := hX.ll
    have k1 := hX.lob
    have n1 : ownB X W2 ≠ some W.heap.size := HI.out.2.1.own _ (by omega) (by omega) (by omega) (HN.out _ (Nat.le_refl _))
    have hL4 : W4.heap[W.heap.size]? = some (.cells #[.int .i64 (left : Int)] 3 (0, 0)) :=
      (hp4.2.block _ (by omega) (by omega) (by omega) n1).trans ((HI.out.2.1.block _ (by omega) (by omega) (by omega) (HN.out _ (Nat.le_refl _))).trans HUL.out)
    have n4 := hp4.2.own _ (by omega) (by omega) (by omega) n1
    have c_b := one_atB hL4
    have c_g := one_atB hp4.1.hg
    have hpow := pow_small (n := x) (by omega)
    have kw : IntKind.i64.wrap ((2 : Int) ^ x) = 2 ^ x := wrap_i64j _ (by omega) (by omega)
    have kw2 := wrap_pow (n := x) (by omega)
    have b5 := HB5.out
    have z4 := hp4.2.size
    have hp6 : ∀ i, gn (pre ++ [x]) i < 6 := fun i => by
      have := HP6.out i
      simp only [gn, List.getD_eq_getElem?_getD] at this ⊢
      rcases Nat.lt_or_ge i pre.length with h1 | h1
      · rw [List.getElem?_append_left h1]; exact this
      · rw [List.getElem?_append_right h1]
        cases h2 : i - pre.length with
        | zero => simp; omega
        | succ j => simp
    have HIH := Lib.hid (fun (V : World) (hV : PI X (bumps X cnt (done.flatMap fun j => permsL k (left - 2 ^ j) (pre ++ [j]))) (pre ++ [x]) V) => ih (left - 2 ^ x) (pre ++ [x]) _ V b3 HB4.out (by have := HP.out; simp; omega) hp6 hV HBND.out)
    have HP4 := Lib.hid hp4
    have HL4 := Lib.hid hL4
    have HN4 := Lib.hid n4
    clear hp4 hL4 n1 n4 hp6 hpow ih
    refine wpIn_round_F (S := (fun V => V.cell? ⟨X.xg, 0, none⟩ = some (.func (.func 21) #[] #[.pointer (some ⟨X.xm, 0, none⟩), .pointer (some ⟨X.xl, 0, none⟩), .pointer (some ⟨X.xg, 0, none⟩)]) ∧ V.cell? ⟨W.heap.size, 0, none⟩ = some (.int .i64 (left : Int)))) 99 (by kernel_rfl) (by kernel_rfl) ⟨c_g, c_b⟩ (fun hHeld => ?_)
    refine wpAnyF_take (i := 0) (oi := _) (v := ?_) rfl (by kernel_rfl) (by kernel_rfl) (by kernel_rfl) (by kernel_rfl) (fun _ _ _ h => h) (Or.inl ⟨by rfl, ?_⟩) (by assumption) ?_
    rotate_left
    · intro w hSw
      (try dsimp only at hSw)
      go_simp
      all_goals with_reducible rfl
    (try simp only [Act.put, List.setIfInBounds_toArray, List.set_cons_zero, List.set_cons_succ])
    refine wpAnyF_take (i := 1) (oi := _) (v := ?_) rfl (by kernel_rfl) (by kernel_rfl) (by kernel_rfl) (by kernel_rfl) (fun _ _ _ h => h) (Or.inl ⟨by rfl, ?_⟩) (by assumption) ?_
    rotate_left
    · intro w hSw
      (try dsimp only at hSw)
      go_simp
      all_goals with_reducible rfl
    (try simp only [Act.put, List.setIfInBounds_toArray, List.set_cons_zero, List.set_cons_succ])
    refine wpAnyF_take (i := 2) (oi := _) (v := ?_) rfl (by kernel_rfl) (by kernel_rfl) (by kernel_rfl) (by kernel_rfl) (fun _ _ _ h => h) (Or.inl ⟨by rfl, ?_⟩) (by assumption) ?_
    rotate_left
    · intro w hSw
      (try dsimp only at hSw)
      go_simp
      all_goals with_reducible rfl
    (try simp only [Act.put, List.setIfInBounds_toArray, List.set_cons_zero, List.set_cons_succ])
    refine wpAnyF_take (i := 3) (oi := _) (v := ?_) rfl (by kernel_rfl) (by kernel_rfl) (by kernel_rfl) (by kernel_rfl) (fun _ _ _ h => h) (Or.inl ⟨by rfl, ?_⟩) (by assumption) ?_
    rotate_left
    · intro w hSw
      (try dsimp only at hSw)
      go_simp
      all_goals with_reducible rfl
    (try simp only [Act.put, List.setIfInBounds_toArray, List.set_cons_zero, List.set_cons_succ])
    refine wpAnyF_take (i := 4) (oi := _) (v := ?_) rfl (by kernel_rfl) (by kernel_rfl) (by kernel_rfl) (by kernel_rfl) (fun _ _ _ h => h) (Or.inl ⟨by rfl, ?_⟩) (by assumption) ?_
    rotate_left
    · intro w hSw
      (try dsimp only at hSw)
      go_simp
      all_goals with_reducible rfl
    (try simp only [Act.put, List.setIfInBounds_toArray, List.set_cons_zero, List.set_cons_succ])
    refine wpAnyF_one (i := 5) (o := _) (by kernel_rfl) rfl (fun K hK => ?_)
    go_simp
    refine (HIH.out _ HP4.out.1.drew).mono ?_
    rintro e W5 ⟨rfl, hp5, hm5⟩
    have hm5 := hm5.of_drew
    have k0 := hX.ll
    have k1 := hX.lob
    have hUs := HUSZ.out
    have z5 := HI.out.2.1.size
    have hL5 : W5.heap[W.heap.size]? = some (.cells #[.int .i64 (left : Int)] 3 (0, 0)) := (hm5.block _ (by omega) (by omega) (by omega) HN4.out).trans HL4.out
    refine hK.out _ _ (⟨one_atB hp5.hg, one_atB hL5⟩) (fun hHeld => ?_)
    clear hK K
    (try simp only [Act.put, List.setIfInBounds_toArray, List.set_cons_zero, List.set_cons_succ])
    refine wpAnyF_take (i := 6) (oi := _) (v := ?_) rfl (by kernel_rfl) (by kernel_rfl) (by kernel_rfl) (by kernel_rfl) (fun _ _ _ h => h) (Or.inl ⟨by rfl, ?_⟩) (by assumption) ?_
    rotate_left
    · intro w hSw
      (try dsimp only at hSw)
      go_simp
      all_goals with_reducible rfl
    (try simp only [Act.put, List.setIfInBounds_toArray, List.set_cons_zero, List.set_cons_succ])
    refine wpAnyF_end (by kernel_rfl) ?_
    go_simp
    obtain ⟨a5, c5, v5, o5⟩ := hp5.pre1
    have HP5 := Lib.hid hp5
    have HM5 := Lib.hid hm5
    have HV5 := Lib.hid v5
    have HO5 := Lib.hid o5
    have hl5 : (pre ++ [x]).length = pre.length + 1 := by simp
    have hcap : pre.length + 1 ≤ c5 ∧ c5 ≤ maxLen := by
      rcases o5.2 with ⟨e1, e2⟩ | ⟨g, cc, cur, e1, _, _, e2, e3, _⟩
      · omega
      · simp only [Value.slice.injEq] at e1
        rw [e1.2.2]
        omega
    unfold maxLen at hcap
    rw [hl5] at v5
    have c_l5 := one_atB v5
    have f_l5 := free_at v5 0
    have z_l5 := lt_of_block v5
    clear hHeld hL5 hm5 hp5 o5 v5 c_b c_g b5 kw kw2 hl5
    refine onNormal_mk ?_
    gi_wp2
    obtain ⟨q1, q2⟩ := HP5.out.pop hX HV5.out HO5.out
    have hm := (HP4.out.2.trans HM5.out).trans q2
    have hi := HI.out.2.2
    have hbl : ∀ i, U.heap.size ≤ i → i < U.heap.size + 3 → (W5.setCell ⟨X.xl, 0, none⟩ (.slice a5 pre.length c5)).heap[i]? = W2.heap[i]? := fun i h1 h2 => hm.block i (by omega) (by omega) (by omega) (hi i h1 h2)
    refine ⟨⟨?_, HI.out.2.1.trans hm, fun i h1 h2 => hm.own i (by omega) (by omega) (by omega) (hi i h1 h2)⟩, hbl _ (Nat.le_refl _) (by omega), hbl _ (by simp) (by simp), hbl _ (by simp; omega) (by simp), hm.size⟩
    rw [List.flatMap_append, bumps_app]
    simpa using q1
  case done =>
    intro W2 hI hK
    obtain ⟨hp2, hm2, ho2⟩ := hI
    rw [World.size_alloc] at hK
    have n1 : ownB X W2 ≠ some (W.heap.size + 1) := hm2.own _ (by omega) (by omega) (by omega) (HN.out _ (by omega))
    have hr2 : W2.heap[W.heap.size + 1]? = some (.cells #[.bool false] 4 (0, 0)) := (hm2.block _ (by omega) (by omega) (by omega) (HN.out _ (by omega))).trans HUR.out
    have hr3 := set_at hr2 0 (.bool true)
    have c2 := one_atB hr2
    have f2 := free_at hr2 0
    have z2 := lt_of_block hr2
    have n3 := ho2 (U.heap.size + 1) (by omega) (by omega)
    have hp3 := hp2.store hX (x := W.heap.size + 1) (by omega) n1 0 (.bool true)
    have hm3 := ((HG.out.trans hm2).store hX (x := W.heap.size + 1) (by omega) (by omega) 0 (.bool true))
    have hK3 : (W2.setCell ⟨W.heap.size + 1, 0, none⟩ (.bool true)).heap[U.heap.size + 1]? = some (.deferred (some [])) := (Below.heap_setCell _ _ _ _ (by show U.heap.size + 1 ≠ W.heap.size + 1; omega)).trans hK
    have n4 : ownB X (W2.setCell ⟨W.heap.size + 1, 0, none⟩ (.bool true)) ≠ some (U.heap.size + 1) := by
      rw [ownB_same (Below.heap_setCell _ _ _ _ (by show X.xl ≠ W.heap.size + 1; omega))]
      exact n3
    have hp4 := hp3.putO hX (x := U.heap.size + 1) (by omega) n4 (.deferred none)
    have hm4 := hm3.putO hX (x := U.heap.size + 1) (by omega) (by omega) (.deferred none)
    have hr4 : ((W2.setCell ⟨W.heap.size + 1, 0, none⟩ (.bool true)).putObj (U.heap.size + 1) (.deferred none)).heap[W.heap.size + 1]? = _ := (World.putObj_heap_other (by omega)).trans hr3
    have c4 := one_atB hr4
    have HE := Lib.hid (show GrowEnd X cnt (permsL (k + 1) left pre) pre W (.returned (.bool true)) ((W2.setCell ⟨W.heap.size + 1, 0, none⟩ (.bool true)).putObj (U.heap.size + 1) (.deferred none)) from ⟨rfl, hp4, hm4⟩)
    have HK3 := Lib.hid hK3
    have HC4 := Lib.hid c4
    clear hp2 hm2 ho2 n1 n3 n4 hp3 hm3 hp4 hm4 hr2 hr3 hr4 hK hK3 hUs c4
    gi_wp2
    rw [World.size_alloc]
    refine ⟨by simp, .inl ⟨_, _, rfl, run_takeDeferred HK3.out, ⟨.bool true, ?_, HE.out⟩⟩⟩
    have c4 := HC4.out
    simp [results, Tryd.results21, go_sem, c4]
theorem grow_go (X : Px) (hX : X.Ok) : ∀ (k left : Nat) (pre cnt : List Nat) (W : World), left < 32 → (bitsL left).length = k → pre.length + k = X.m → (∀ i, gn pre i < 6) → PI X cnt pre W → (∀ i, gn cnt i + (permsL k left pre).length ≤ 100000) →
      Calls Tryd.prog 21 #[.int .i64 (left : Int), .pointer (some ⟨X.xm, 0, none⟩), .pointer (some ⟨X.xl, 0, none⟩), .pointer (some ⟨X.xg, 0, none⟩)] W (GrowEnd X cnt (permsL k left pre) pre W) := by
  intro k
  induction k with
  | zero =>
    intro left pre cnt W hl hlk hp hp6 h hc
    obtain rfl := bits_nil hl hlk
    exact callsIn_wide.1 (grow_zero X hX 5 pre cnt W (by simpa using hp) hp6 h (fun i => by have := hc i; omega))
  | succ k ih =>
    intro left pre cnt W hl hlk hp hp6 h hc
    exact callsIn_wide.1 (grow_succ X hX k ih 5 left pre cnt W hl hlk hp hp6 h hc)
end Go.Proofs.YtiapngmallfelaaDoor
