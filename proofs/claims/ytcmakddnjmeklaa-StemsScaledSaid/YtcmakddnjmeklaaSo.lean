/- Chapter 9: storing into the odds of an act of the call's own. -/
import Derived.Test.YtcmakddnjmeklaaSc
namespace Go.Proofs.Ytcmakddnjmeklaa
open Go.RowKit

theorem ActsOwn.odds {w : World} {lo hi g c : Nat} {A : List Ac} {i : Nat} (h : ActsOwn w lo hi (.slice (some ⟨g, 0, none⟩) A.length c) A) (hi' : i < A.length) (hn : 0 < (ac A i).o.length) :
    ∃ z cz, w.cell? ⟨g, i * 2 + 1, none⟩ = some (.slice (some ⟨z, 0, none⟩) (ac A i).o.length cz) ∧ lo ≤ z ∧ z < hi ∧ z < w.heap.size ∧ z ≠ g ∧ (∃ cur, w.heap[z]? = some (Obj.cells cur 3 (0, 0))) ∧ (ac A i).o.length ≤ cz ∧ cz ≤ maxLen ∧
      ∀ j, j < (ac A i).o.length → w.cell? ⟨z, j, none⟩ = some (.int .i64 (nth (ac A i).o j)) ∧ w.frozen? ⟨z, j, none⟩ = false ∧
        ∀ x, ActsOwn (w.setCell ⟨z, j, none⟩ (.int .i64 x)) lo hi (.slice (some ⟨g, 0, none⟩) A.length c) (A.set i ⟨(ac A i).g, (ac A i).o.set j x⟩) := by
  obtain ⟨E, D, h1, h2, h3, h4, h5⟩ := h
  obtain ⟨g', e, _, _, _, _, hcells, _, curg, hg⟩ := own_cells h1.1 (by omega)
  obtain rfl : g = g' := by injection e with e; injection e
  have hO := h5 i hi'
  obtain ⟨a2, cz, hE⟩ := own_form hO.1
  rw [hE] at hO
  obtain ⟨z, rfl, hlo, hz, hnc, hc, hzc, hf, cur, hzz⟩ := own_cells hO.1 hn
  have hzh := hO.2 z rfl
  have m1 := mono_le h3 0 i (by omega) (by omega)
  have m2 := mono_le h3 (i + 1) A.length (by omega) (by omega)
  have hne : z ≠ g := fun e => by subst e; rw [hg] at hzz; simp at hzz
  refine ⟨z, cz, by rw [hcells _ _ (cells2_at _ _ hi').2, hE], by omega, by omega, hz, hne, ⟨cur, hzz⟩, hnc, hc, fun j hj => ⟨hzc _ _ (by rw [List.getElem?_map, List.getElem?_eq_getElem hj, nth_of_lt hj]; rfl), hf _, fun x => ?_⟩⟩
  have hkk : ∀ b', b' ≠ z → (w.setCell ⟨z, j, none⟩ (.int .i64 x)).heap[b']? = w.heap[b']? := fun b' hb' => Below.heap_setCell _ _ _ _ hb'
  have hgs : ∀ k, (ac (A.set i ⟨(ac A i).g, (ac A i).o.set j x⟩) k).g = (ac A k).g := fun k => by
    rw [ac_setA hi']; split
    · next e => subst e; rfl
    · rfl
  refine ⟨E, D, ?_, h2, by rw [List.length_set]; exact h3, by rw [List.length_set]; exact h4, fun k hk => ?_⟩
  · rw [List.length_set, cells2_congr (f' := fun k => .int .i64 (ac A k).g) (g' := E) (fun k _ => by rw [hgs]) (fun _ _ => rfl)]
    exact h1.keep fun b cs _ _ hb => hkk b fun e => by subst e; rw [hzz] at hb; simp at hb
  · rw [List.length_set] at hk
    by_cases e : i = k
    · subst e
      rw [ac_setA hi', if_pos rfl, hE]
      show OwnIn _ _ _ _ _ _ ((ac A i).o.set j x).length _
      rw [List.length_set, List.map_set]
      exact ⟨(hO.1.stored j (.int .i64 x)).1, hO.2⟩
    · rw [ac_setA hi', if_neg e]
      refine (h5 k hk).keep fun b cs hl hh _ => hkk b fun e2 => ?_
      subst e2
      rcases Nat.lt_or_gt_of_ne e with q | q
      · have := mono_le h3 (i + 1) k (by omega) (by omega); omega
      · have := mono_le h3 (k + 1) i (by omega) (by omega); omega
theorem Acts2Own.odds {w : World} {lo hi : Nat} {v : Value} {A : List (List Ac)} {s i : Nat} (h : Acts2Own w lo hi v A) (hs : s < A.length) (hi' : i < (acl A s).length) (hn : 0 < (ac (acl A s) i).o.length) :
    ∃ b c g cg z cz, v = .slice (some ⟨b, 0, none⟩) A.length c ∧ b < w.heap.size ∧ g < w.heap.size ∧ w.cell? ⟨b, s, none⟩ = some (.slice (some ⟨g, 0, none⟩) (acl A s).length cg) ∧ w.cell? ⟨g, i * 2 + 1, none⟩ = some (.slice (some ⟨z, 0, none⟩) (ac (acl A s) i).o.length cz) ∧
      lo ≤ z ∧ z < hi ∧ z < w.heap.size ∧ z ≠ b ∧ z ≠ g ∧ (acl A s).length ≤ cg ∧ cg ≤ maxLen ∧ (ac (acl A s) i).o.length ≤ cz ∧ cz ≤ maxLen ∧
      ∀ j, j < (ac (acl A s) i).o.length → w.cell? ⟨z, j, none⟩ = some (.int .i64 (nth (ac (acl A s) i).o j)) ∧ w.frozen? ⟨z, j, none⟩ = false ∧
        ∀ x, Acts2Own (w.setCell ⟨z, j, none⟩ (.int .i64 x)) lo hi v (A.set s ((acl A s).set i ⟨(ac (acl A s) i).g, (ac (acl A s) i).o.set j x⟩)) := by
  obtain ⟨E, D, h1, h2, h3, h4, h5⟩ := h
  obtain ⟨a, c, rfl⟩ := own_form h1.1
  obtain ⟨b, rfl, _, hb, _, _, hcells, _, curb, hgb⟩ := own_cells h1.1 (by omega)
  have hS := h5 s hs
  obtain ⟨a2, cg, hE⟩ := own_form hS.choose_spec.choose_spec.1.1
  rw [hE] at hS
  have hS2 := hS
  obtain ⟨E2, D2, k1, k2, k3, k4, k5⟩ := hS
  obtain ⟨g, rfl, hlo, hg, hnc, hc, hc2, hf, cur, hgg⟩ := own_cells k1.1 (by omega)
  obtain ⟨z, cz, hz1, hzl, hzh, hzs, hzg, ⟨curz, hzz⟩, hzc, hzm, hall⟩ := hS2.odds hi' hn
  have hne : z ≠ b := fun e => by subst e; rw [hzz] at hgb; simp at hgb
  have m1 := mono_le h3 0 s (by omega) (by omega)
  have m2 := mono_le h3 (s + 1) A.length (by omega) (by omega)
  refine ⟨b, c, g, cg, z, cz, rfl, hb, hg, by rw [hcells s (E s) (by simp [hs]), hE], hz1, by omega, by omega, hzs, hne, hzg, hnc, hc, hzc, hzm, fun j hj => ⟨(hall j hj).1, (hall j hj).2.1, fun x => ?_⟩⟩
  have hkk : ∀ b', b' ≠ z → (w.setCell ⟨z, j, none⟩ (.int .i64 x)).heap[b']? = w.heap[b']? := fun b' hb' => Below.heap_setCell _ _ _ _ hb'
  refine ⟨E, D, ?_, h2, by rw [List.length_set]; exact h3, by rw [List.length_set]; exact h4, fun k hk => ?_⟩
  · rw [List.length_set]
    exact h1.keep fun b' cs _ _ hb' => hkk b' fun e => by subst e; rw [hzz] at hb'; simp at hb'
  · rw [List.length_set] at hk
    rw [acl_setA hs]
    by_cases e : s = k
    · subst e
      rw [if_pos rfl, hE]
      exact (hall j hj).2.2 x
    · rw [if_neg e]
      refine (h5 k hk).keep fun b' cs e' hl hh _ _ => hkk b' fun e2 => ?_
      subst e2
      rcases Nat.lt_or_gt_of_ne e with q | q
      · have := mono_le h3 (s + 1) k (by omega) (by omega); omega
      · have := mono_le h3 (k + 1) s (by omega) (by omega); omega
/-! ### one act's odds multiplied -/
def scO (k : Int) (o : List Int) (i : Nat) : List Int := (List.range o.length).map fun j => if j < i then nth o j * k else nth o j
theorem scO_len {k : Int} {o : List Int} {i : Nat} : (scO k o i).length = o.length := by simp [scO]
theorem scO_at {k : Int} {o : List Int} {i j : Nat} (hj : j < o.length) : nth (scO k o i) j = if j < i then nth o j * k else nth o j := by simp [nth, scO, hj]
theorem scO_zero {k : Int} {o : List Int} : scO k o 0 = o := nth_ext scO_len fun j hj => by rw [scO_len] at hj; rw [scO_at hj, if_neg (by omega)]
theorem scO_end {k : Int} {o : List Int} : scO k o o.length = o.map fun x => k * x := nth_ext (by rw [scO_len, List.length_map]) fun j hj => by rw [scO_len] at hj; rw [scO_at hj, if_pos hj, nth_mapc, Int.mul_comm]
theorem scO_set {k : Int} {o : List Int} {i : Nat} (_hi : i < o.length) : (scO k o i).set i (nth o i * k) = scO k o (i + 1) := by
  refine nth_ext (by rw [List.length_set, scO_len, scO_len]) fun j hj => ?_
  rw [List.length_set, scO_len] at hj
  rw [nth_setI (by rw [scO_len]; exact hj), scO_at hj, scO_at hj]
  by_cases e : i = j
  · subst e; rw [if_pos rfl, if_pos (by omega)]
  · rw [if_neg e]
    by_cases q : j < i
    · rw [if_pos q, if_pos (by omega)]
    · rw [if_neg q, if_neg (by omega)]
def scL (k : Int) (A : List (List Ac)) (s a i : Nat) : List (List Ac) := A.set s ((acl A s).set a ⟨(ac (acl A s) a).g, scO k (ac (acl A s) a).o i⟩)
section
variable {k : Int} {A : List (List Ac)} {s a i : Nat}
theorem scL_len : (scL k A s a i).length = A.length := by simp [scL]
theorem scL_acl (hs : s < A.length) : acl (scL k A s a i) s = (acl A s).set a ⟨(ac (acl A s) a).g, scO k (ac (acl A s) a).o i⟩ := by unfold scL; rw [acl_setA hs, if_pos rfl]
theorem scL_ac (hs : s < A.length) (ha : a < (acl A s).length) : ac (acl (scL k A s a i) s) a = ⟨(ac (acl A s) a).g, scO k (ac (acl A s) a).o i⟩ := by rw [scL_acl hs, ac_setA ha, if_pos rfl]
theorem set_ac {L : List Ac} (ha : a < L.length) : L.set a (ac L a) = L := ac_extA (by simp) fun j hj => by
  rw [ac_setA ha]; split
  · next e => subst e; rfl
  · rfl
theorem set_acl (hs : s < A.length) : A.set s (acl A s) = A := acl_extA (by simp) fun j hj => by
  rw [acl_setA hs]; split
  · next e => subst e; rfl
  · rfl
theorem scL_zero (hs : s < A.length) (ha : a < (acl A s).length) : scL k A s a 0 = A := by
  unfold scL
  rw [scO_zero, set_ac ha, set_acl hs]
theorem scL_set (hs : s < A.length) (ha : a < (acl A s).length) (hi : i < (ac (acl A s) a).o.length) :
    (scL k A s a i).set s ((acl (scL k A s a i) s).set a ⟨(ac (acl (scL k A s a i) s) a).g, (ac (acl (scL k A s a i) s) a).o.set i (nth (ac (acl A s) a).o i * k)⟩) = scL k A s a (i + 1) := by
  rw [scL_ac hs ha, scL_acl hs]
  show (scL k A s a i).set s (((acl A s).set a _).set a ⟨_, (scO k _ i).set i _⟩) = _
  rw [scO_set hi, List.set_set]
  unfold scL
  rw [List.set_set]
end
def scW (k : Int) (W : Wd) (s a : Nat) : Wd := ⟨W.a, W.b, scL k W.acts s a (ac (acl W.acts s) a).o.length⟩
theorem scW_sc {k : Int} {W : Wd} {s a : Nat} (hk : 0 < k) (hs : s < W.acts.length) (ha : a < (acl W.acts s).length) : ScW W (scW k W s a) := by
  refine ⟨rfl, rfl, scL_len, fun t => ?_, fun t i => ?_⟩
  · show (acl (W.acts.set s _) t).length = _
    rw [acl_setA hs]; split
    · next e => subst e; simp
    · rfl
  · show ∃ c, Scs c _ (ac (acl (W.acts.set s _) t) i)
    rw [acl_setA hs]; split
    · next e =>
      subst e
      rw [ac_setA ha]; split
      · next e => subst e; exact ⟨k, hk, rfl, scO_end⟩
      · exact ⟨1, Scs.same _⟩
    · exact ⟨1, Scs.same _⟩
theorem scW_ok {k : Int} {W : Wd} {s a : Nat} (hk : 0 < k) (hv : vWd W = true) (hs : s < W.acts.length) (ha : a < (acl W.acts s).length) (ho : ∀ j, j < (ac (acl W.acts s) a).o.length → nth (ac (acl W.acts s) a).o j * k ≤ 3) : vWd (scW k W s a) = true := by
  obtain ⟨hh, hp⟩ := vWd_parts hv
  have hx := (hp s hs).2.2 a ha
  obtain ⟨x1, x2, x3, x4, x5, x6⟩ := vAc_at hx
  unfold vWd at hv ⊢
  rw [show (scW k W s a).acts.length = W.acts.length from scL_len]
  rw [Bool.and_eq_true] at hv ⊢
  refine ⟨hv.1, ?_⟩
  rw [List.all_eq_true] at hv ⊢
  intro L hL
  rcases List.mem_or_eq_of_mem_set (show L ∈ W.acts.set s _ from hL) with q | rfl
  · exact hv.2 L q
  · have hm : acl W.acts s ∈ W.acts := by unfold acl; rw [List.getD_eq_getElem?_getD, List.getElem?_eq_getElem hs]; exact List.getElem_mem hs
    have h3 := hv.2 _ hm
    unfold vAcs at h3 ⊢
    rw [Bool.and_eq_true] at h3 ⊢
    rw [List.length_set]
    refine ⟨h3.1, ?_⟩
    rw [List.all_eq_true] at h3 ⊢
    intro y hy
    rcases List.mem_or_eq_of_mem_set hy with q | rfl
    · exact h3.2 y q
    · unfold vAc
      show (decide _ && decide _ && decide ((scO k _ _).length = _) && vOdds (scO k _ _) && decide (0 < isum (scO k _ _))) = true
      rw [scO_len, scO_end, isum_mapc, decide_eq_true x1, decide_eq_true x2, decide_eq_true x3, decide_eq_true (Int.mul_pos hk (by omega)), show vOdds _ = true from vOdds_iff.2 fun y hy => ?_]
      · rfl
      · obtain ⟨o, hoo, rfl⟩ := List.mem_map.1 hy
        have h4 := x4 o hoo
        obtain ⟨j, hj, rfl⟩ := List.mem_iff_getElem.1 hoo
        have h5 := ho j hj
        rw [nth_of_lt hj, Int.mul_comm] at h5
        exact ⟨Int.mul_nonneg (by omega) h4.1, h5⟩
end Go.Proofs.Ytcmakddnjmeklaa
