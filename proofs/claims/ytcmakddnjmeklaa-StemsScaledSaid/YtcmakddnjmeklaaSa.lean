/- Chapter 9: storing into acts of the call's own; all gains shifted. -/
import Derived.Test.YtcmakddnjmeklaaZq
namespace Go.Proofs.Ytcmakddnjmeklaa
open Go.RowKit

theorem cells2_set (f g : Nat → Value) (n i : Nat) (u : Value) (hi : i < n) : (cells2 f g n).set (i * 2) u = cells2 (fun k => if k = i then u else f k) g n := by
  induction n with
  | zero => omega
  | succ n ih =>
    rw [cells2_succ, cells2_succ, List.set_append, cells2_len]
    by_cases e : i = n
    · subst e
      rw [if_neg (by omega), show i * 2 - i * 2 = 0 by omega, cells2_congr (f := fun k => if k = i then u else f k) (f' := f) (g := g) (g' := g) (fun k hk => by rw [if_neg (by omega)]) (fun _ _ => rfl)]
      simp
    · rw [if_pos (by omega), ih (by omega), if_neg (by omega)]
theorem ac_setA {A : List Ac} {i k : Nat} {x : Ac} (hi : i < A.length) : ac (A.set i x) k = if i = k then x else ac A k := by
  unfold ac
  rw [List.getD_eq_getElem?_getD, List.getElem?_set, List.getD_eq_getElem?_getD]
  split <;> simp_all
theorem acl_setA {A : List (List Ac)} {i k : Nat} {x : List Ac} (hi : i < A.length) : acl (A.set i x) k = if i = k then x else acl A k := by
  unfold acl
  rw [List.getD_eq_getElem?_getD, List.getElem?_set, List.getD_eq_getElem?_getD]
  split <;> simp_all
theorem ac_extA {A B : List Ac} (h : A.length = B.length) (he : ∀ i, i < A.length → ac A i = ac B i) : A = B := by
  refine List.ext_getElem h fun i h1 h2 => ?_
  have := he i h1
  unfold ac at this
  rwa [List.getD_eq_getElem?_getD, List.getElem?_eq_getElem h1, List.getD_eq_getElem?_getD, List.getElem?_eq_getElem h2] at this
theorem acl_extA {A B : List (List Ac)} (h : A.length = B.length) (he : ∀ i, i < A.length → acl A i = acl B i) : A = B := by
  refine List.ext_getElem h fun i h1 h2 => ?_
  have := he i h1
  unfold acl at this
  rwa [List.getD_eq_getElem?_getD, List.getElem?_eq_getElem h1, List.getD_eq_getElem?_getD, List.getElem?_eq_getElem h2] at this
theorem ActsOwn.gain {w : World} {lo hi g c : Nat} {A : List Ac} {i : Nat} {x : Int} (h : ActsOwn w lo hi (.slice (some ⟨g, 0, none⟩) A.length c) A) (hi' : i < A.length) :
    ActsOwn (w.setCell ⟨g, i * 2, none⟩ (.int .i64 x)) lo hi (.slice (some ⟨g, 0, none⟩) A.length c) (A.set i ⟨x, (ac A i).o⟩) := by
  obtain ⟨E, D, h1, h2, h3, h4, h5⟩ := h
  obtain ⟨g', e, _, _, _, _, _, _, cur, hg⟩ := own_cells h1.1 (by omega)
  obtain rfl : g = g' := by injection e with e; injection e
  have ho : ∀ k, (ac (A.set i ⟨x, (ac A i).o⟩) k).o = (ac A k).o := fun k => by
    rw [ac_setA hi']; split
    · next e => subst e; rfl
    · rfl
  have hk : ∀ b cs, w.heap[b]? = some (Obj.cells cs 3 (0, 0)) → (w.setCell ⟨g, i * 2, none⟩ (.int .i64 x)).heap[b]? = w.heap[b]? := fun b cs hb => by
    refine Below.heap_setCell _ _ _ _ fun e => ?_
    rw [e] at hb
    rw [show (⟨g, i * 2, none⟩ : Addr).block = g from rfl] at hb
    rw [hg] at hb
    simp at hb
  refine ⟨E, D, ?_, h2, by rw [List.length_set]; exact h3, by rw [List.length_set]; exact h4, fun k hk' => ?_⟩
  · refine ⟨?_, h1.2⟩
    have q := (h1.1.stored (i * 2) (.int .i64 x)).1
    rw [cells2_set _ _ _ _ _ hi'] at q
    rw [List.length_set, cells2_congr (f' := fun k => if k = i then .int .i64 x else .int .i64 (ac A k).g) (g' := E) (fun k hk => by
      rw [ac_setA hi']
      by_cases e : i = k
      · subst e; simp
      · rw [if_neg e, if_neg (Ne.symm e)]) (fun _ _ => rfl)]
    exact q
  · rw [List.length_set] at hk'
    rw [ho k]
    exact (h5 k hk').keep fun b cs _ _ hb => hk b cs hb
/-- A state's acts in the owned list: where they lie, and what a store into a gain leaves. -/
theorem Acts2Own.gain {w : World} {lo hi : Nat} {v : Value} {A : List (List Ac)} {s : Nat} (h : Acts2Own w lo hi v A) (hs : s < A.length) (hn : 0 < (acl A s).length) :
    ∃ b c g cg, v = .slice (some ⟨b, 0, none⟩) A.length c ∧ b < w.heap.size ∧ w.cell? ⟨b, s, none⟩ = some (.slice (some ⟨g, 0, none⟩) (acl A s).length cg) ∧ lo ≤ g ∧ g < w.heap.size ∧ g < hi ∧ g ≠ b ∧ (acl A s).length ≤ cg ∧ cg ≤ maxLen ∧
      ∀ i, i < (acl A s).length → w.cell? ⟨g, i * 2, none⟩ = some (.int .i64 (ac (acl A s) i).g) ∧ w.frozen? ⟨g, i * 2, none⟩ = false ∧
        ∀ x, Acts2Own (w.setCell ⟨g, i * 2, none⟩ (.int .i64 x)) lo hi v (A.set s ((acl A s).set i ⟨x, (ac (acl A s) i).o⟩)) := by
  obtain ⟨E, D, h1, h2, h3, h4, h5⟩ := h
  obtain ⟨a, c, rfl⟩ := own_form h1.1
  obtain ⟨b, rfl, _, hb, _, _, hcells, _, curb, hgb⟩ := own_cells h1.1 (by omega)
  have hS := h5 s hs
  obtain ⟨a2, cg, hE⟩ := own_form hS.choose_spec.choose_spec.1.1
  rw [hE] at hS
  have hS2 := hS
  obtain ⟨E2, D2, k1, k2, k3, k4, k5⟩ := hS
  obtain ⟨g, rfl, hlo, hg, hnc, hc, hc2, hf, cur, hgg⟩ := own_cells k1.1 hn
  have hgh := k1.2 g rfl
  have hne : g ≠ b := fun e => by subst e; rw [hgg] at hgb; simp at hgb
  have m1 := mono_le h3 0 s (by omega) (by omega)
  have m2 := mono_le h3 (s + 1) A.length (by omega) (by omega)
  refine ⟨b, c, g, cg, rfl, hb, by rw [hcells s (E s) (by simp [hs]), hE], by omega, hg, by omega, hne, hnc, hc, fun i hi => ⟨hc2 _ _ (cells2_at _ _ hi).1, hf _, fun x => ?_⟩⟩
  have hkk : ∀ b', b' ≠ g → (w.setCell ⟨g, i * 2, none⟩ (.int .i64 x)).heap[b']? = w.heap[b']? := fun b' hb' => Below.heap_setCell _ _ _ _ hb'
  refine ⟨E, D, ?_, h2, by rw [List.length_set]; exact h3, by rw [List.length_set]; exact h4, fun k hk => ?_⟩
  · rw [List.length_set]
    exact h1.keep fun b' cs _ _ hb' => hkk b' fun e => by subst e; rw [hgg] at hb'; simp at hb'
  · rw [List.length_set] at hk
    rw [acl_setA hs]
    by_cases e : s = k
    · subst e
      rw [if_pos rfl, hE]
      exact hS2.gain hi
    · rw [if_neg e]
      refine (h5 k hk).keep fun b' cs e' hl hh _ _ => hkk b' fun e2 => ?_
      subst e2
      rcases Nat.lt_or_gt_of_ne e with q | q
      · have := mono_le h3 (s + 1) k (by omega) (by omega); omega
      · have := mono_le h3 (k + 1) s (by omega) (by omega); omega
/-! ### all gains shifted -/
def shAc (y : Int) (x : Ac) : Ac := ⟨x.g + y, x.o⟩
def shAs (y : Int) (A : List Ac) (i : Nat) : List Ac := (List.range A.length).map fun j => if j < i then shAc y (ac A j) else ac A j
def shL (y : Int) (A : List (List Ac)) (s i : Nat) : List (List Ac) := (List.range A.length).map fun k => if k < s then shAs y (acl A k) (acl A k).length else if k = s then shAs y (acl A k) i else acl A k
theorem shAs_len {y : Int} {A : List Ac} {i : Nat} : (shAs y A i).length = A.length := by simp [shAs]
theorem shAs_at {y : Int} {A : List Ac} {i j : Nat} (hj : j < A.length) : ac (shAs y A i) j = if j < i then shAc y (ac A j) else ac A j := by simp [ac, shAs, hj]
theorem shAs_zero {y : Int} {A : List Ac} : shAs y A 0 = A := ac_extA shAs_len fun i hi => by rw [shAs_len] at hi; rw [shAs_at hi, if_neg (by omega)]
theorem shAs_succ {y : Int} {A : List Ac} {i : Nat} (hi : i < A.length) : shAs y A (i + 1) = (shAs y A i).set i ⟨(ac A i).g + y, (ac (shAs y A i) i).o⟩ := by
  refine ac_extA (by rw [List.length_set, shAs_len, shAs_len]) fun j hj => ?_
  rw [shAs_len] at hj
  rw [ac_setA (by rw [shAs_len]; exact hi), shAs_at hj, shAs_at hj, shAs_at hi]
  by_cases e : i = j
  · subst e; rw [if_pos (by omega), if_pos rfl, if_neg (by omega)]; rfl
  · rw [if_neg e]
    by_cases q : j < i
    · rw [if_pos (by omega), if_pos q]
    · rw [if_neg (by omega), if_neg q]
theorem shL_len {y : Int} {A : List (List Ac)} {s i : Nat} : (shL y A s i).length = A.length := by simp [shL]
theorem shL_at {y : Int} {A : List (List Ac)} {s i k : Nat} (hk : k < A.length) : acl (shL y A s i) k = if k < s then shAs y (acl A k) (acl A k).length else if k = s then shAs y (acl A k) i else acl A k := by simp [acl, shL, hk]
theorem shL_zero {y : Int} {A : List (List Ac)} : shL y A 0 0 = A := acl_extA shL_len fun k hk => by
  rw [shL_len] at hk
  rw [shL_at hk, if_neg (by omega)]
  split
  · exact shAs_zero
  · rfl
theorem shL_next {y : Int} {A : List (List Ac)} {s : Nat} : shL y A s (acl A s).length = shL y A (s + 1) 0 := by
  refine acl_extA (by rw [shL_len, shL_len]) fun k hk => ?_
  rw [shL_len] at hk
  rw [shL_at hk, shL_at hk]
  by_cases e : k < s
  · rw [if_pos e, if_pos (by omega)]
  · rw [if_neg e]
    by_cases q : k = s
    · subst q; rw [if_pos rfl, if_pos (by omega)]
    · rw [if_neg q, if_neg (by omega)]
      split
      · exact shAs_zero.symm
      · rfl
theorem shL_set {y : Int} {A : List (List Ac)} {s i : Nat} (hs : s < A.length) (hi : i < (acl A s).length) :
    shL y A s (i + 1) = (shL y A s i).set s ((acl (shL y A s i) s).set i ⟨(ac (acl A s) i).g + y, (ac (acl (shL y A s i) s) i).o⟩) := by
  refine acl_extA (by rw [List.length_set, shL_len, shL_len]) fun k hk => ?_
  rw [shL_len] at hk
  rw [acl_setA (by rw [shL_len]; exact hs), shL_at hk, shL_at hk, shL_at hs]
  by_cases e : s = k
  · subst e
    rw [if_neg (by omega), if_pos rfl, if_pos rfl, if_neg (by omega), if_pos rfl]
    exact shAs_succ hi
  · rw [if_neg e]
    by_cases q : k < s
    · rw [if_pos q, if_pos q]
    · rw [if_neg q, if_neg q, if_neg (Ne.symm e), if_neg (Ne.symm e)]
def shW (y : Int) (W : Wd) : Wd := ⟨W.a, W.b, shL y W.acts W.acts.length 0⟩
theorem shW_len {y : Int} {W : Wd} : (shW y W).acts.length = W.acts.length := shL_len
theorem shW_at {y : Int} {W : Wd} {s : Nat} (hs : s < W.acts.length) : acl (shW y W).acts s = shAs y (acl W.acts s) (acl W.acts s).length := by show acl (shL _ _ _ _) s = _; rw [shL_at hs, if_pos hs]
theorem shW_lenAt {y : Int} {W : Wd} {s : Nat} (hs : s < W.acts.length) : (acl (shW y W).acts s).length = (acl W.acts s).length := by rw [shW_at hs, shAs_len]
theorem shW_ac {y : Int} {W : Wd} {s i : Nat} (hs : s < W.acts.length) (hi : i < (acl W.acts s).length) : ac (acl (shW y W).acts s) i = shAc y (ac (acl W.acts s) i) := by rw [shW_at hs, shAs_at hi, if_pos hi]
end Go.Proofs.Ytcmakddnjmeklaa
