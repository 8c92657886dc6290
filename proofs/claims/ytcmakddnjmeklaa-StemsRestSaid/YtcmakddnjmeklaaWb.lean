/- Chapter 9, walks: the worth of a plan, as prices. -/
import Derived.Test.YtcmakddnjmeklaaWa
namespace Go.Proofs.Ytcmakddnjmeklaa
open Go.RowKit
def colTo (M : List (List Int)) (s : Nat) (r : List Int) (i : Nat) : List (List Int) := (List.range M.length).map fun k => if k < i then (rw_ M k).set s (nth r k) else rw_ M k
theorem colTo_len {M : List (List Int)} {s : Nat} {r : List Int} {i : Nat} : (colTo M s r i).length = M.length := by simp [colTo]
theorem colTo_at {M : List (List Int)} {s : Nat} {r : List Int} {i k : Nat} (hk : k < M.length) : rw_ (colTo M s r i) k = if k < i then (rw_ M k).set s (nth r k) else rw_ M k := by simp [rw_, colTo, hk]
theorem rw_ext {M N : List (List Int)} (hl : M.length = N.length) (h : ∀ k, k < M.length → rw_ M k = rw_ N k) : M = N := by
  refine List.ext_getElem hl fun k h1 h2 => ?_
  have := h k h1
  simpa [rw_, h1, h2] using this
theorem colTo_zero (M : List (List Int)) (s : Nat) (r : List Int) : colTo M s r 0 = M := rw_ext colTo_len fun k hk => by rw [colTo_len] at hk; rw [colTo_at hk, if_neg (by omega)]
theorem colTo_end (M : List (List Int)) (s : Nat) (r : List Int) : colTo M s r M.length = colSet M s r := rw_ext (by rw [colTo_len, colSet_len]) fun k hk => by rw [colTo_len] at hk; rw [colTo_at hk, if_pos hk, colSet_at hk]
theorem colTo_succ {M : List (List Int)} {s : Nat} {r : List Int} {i : Nat} (hi : i < M.length) : colTo M s r (i + 1) = (colTo M s r i).set i ((rw_ (colTo M s r i) i).set s (nth r i)) := by
  refine rw_ext (by simp [colTo_len]) fun k hk => ?_
  rw [colTo_len] at hk
  rw [colTo_at hk, colTo_at hi, if_neg (show ¬ i < i by omega)]
  have e : ∀ (L : List (List Int)) (x : List Int), k < L.length → rw_ (L.set i x) k = if i = k then x else rw_ L k := by
    intro L x hL
    unfold rw_
    rw [List.getD_eq_getElem?_getD, List.getD_eq_getElem?_getD, List.getElem?_set]
    by_cases q : i = k
    · subst q; simp [hL]
    · simp [q]
  rw [e _ _ (by rw [colTo_len]; exact hk), colTo_at hk]
  by_cases q : i = k
  · subst q; simp
  · rw [if_neg q]
    by_cases q2 : k < i
    · rw [if_pos (by omega), if_pos q2]
    · rw [if_neg (by omega), if_neg q2]
/-- One number of a row turned. -/
theorem RwTr.stored {w : World} {lo hi : Nat} {v : Value} {M : List (List Int)} {E : Nat → Value} {D : Nat → Nat} (h : RwTr w lo hi v M E D) {i g s : Nat} (hi' : i < M.length) (hg : ∃ n c, E i = .slice (some ⟨g, 0, none⟩) n c) (z : Int) :
    RwTr (w.setCell ⟨g, s, none⟩ (.int .i64 z)) lo hi v (M.set i ((rw_ M i).set s z)) E D := by
  obtain ⟨n, c, hg⟩ := hg
  have hT := h
  obtain ⟨h1, h2, h3, h4, h5⟩ := h
  have hown := h5 i hi'
  have hgb : (E i).ownBlock = some g := by rw [hg]; rfl
  have hother : ∀ b, b ≠ g → (w.setCell ⟨g, s, none⟩ (.int .i64 z)).heap[b]? = w.heap[b]? := fun b hb => Below.heap_setCell w _ _ b hb
  have hrow : ∀ k, k < M.length → rw_ (M.set i ((rw_ M i).set s z)) k = if i = k then (rw_ M i).set s z else rw_ M k := by
    intro k hk
    conv => lhs; unfold rw_
    rw [List.getD_eq_getElem?_getD, List.getElem?_set]
    by_cases q : i = k
    · subst q; simp [hk, rw_]
    · rw [if_neg q, if_neg q]; simp [rw_, hk]
  refine ⟨?_, h2, ?_, ?_, ?_⟩
  · rw [List.length_set]
    refine h1.keepB fun b hb => hother b ?_
    rintro rfl
    exact ne_of_type h1.1 hown.1 (by decide) hb hgb
  · rw [List.length_set]; exact h3
  · rw [List.length_set]; exact h4
  · rw [List.length_set]
    intro k hk
    rw [hrow k hk]
    by_cases q : i = k
    · subst q
      rw [if_pos rfl, List.length_set]
      refine ⟨?_, hown.2⟩
      have h0 := hown.1
      rw [hg] at h0 ⊢
      have hn : n = (rw_ M i).length := by
        obtain ⟨a2, c2, e2⟩ := own_form h0
        injection e2 with _ e3 _
      subst hn
      have := (h0.stored s (.int .i64 z)).1
      rwa [← List.map_set] at this
    · rw [if_neg q]
      refine (h5 k hk).keepB fun b hb => hother b ?_
      rintro rfl
      have u1 := (h5 k hk).1.lt _ hb
      have u2 := (h5 k hk).2 _ hb
      have u3 := hown.1.lt _ hgb
      have u4 := hown.2 _ hgb
      rcases Nat.lt_or_gt_of_ne q with q | q
      · have := mono_le h3 (i + 1) k (by omega) (by omega); omega
      · have := mono_le h3 (k + 1) i (by omega) (by omega); omega

set_option maxRecDepth 100000 in
set_option maxHeartbeats 1000000 in
theorem wo_col (W : World) (lo top n s gr rc cc : Nat) (ca : Option Addr) (M : List (List Int)) (r : List Int) (hM : RwOwn W lo top (.slice ca n cc) M) (hn : M.length = n) (h4 : n ≤ 4) (hL : ∀ k, k < n → (rw_ M k).length = n) (hsn : s < n) (hr : Sl W (some ⟨gr, 0, none⟩) n rc r) (hgr : gr < lo) (R : Act → World → Prop)
    (c0 c1 c2 c3 c4 c5 c7 c8 c9 c10 c11 c12 c15 c16 c17 c18 c19 c20 c21 c22 c23 c24 c25 c26 c27 c28 c29 c30 c31 c32 c33 c34 c35 c36 c37 c38 c39 c40 c41 c42 c43 c44 c45 c46 c47 c48 c49 c50 c51 c52 c53 c54 c55 c56 c57 c58 c59 c60 c61 c62 c63 c64 c65 c66 c67 c68 c69 c70 c71 c72 c73 c74 c75 c76 c77 c78 c79 c80 c81 c84 c85 c86 c87 c88 c89 c90 c91 c92 c93 c94 c95 c96 c97 c98 c99 c100 c101 c102 c103 c104 c105 : Value)
    (hexit : ∀ (u15 u83 u84 u85 u86 u87 u88 u89 u90 u91 u92 u93 u94 u95 u96 : Value) (w' : World), RwOwn w' lo top (.slice ca n cc) (colSet M s r) → Below lo W w' → W.heap.size = w'.heap.size → R ⟨List.toArray (c0 :: c1 :: c2 :: c3 :: c4 :: c5 :: .slice (some ⟨gr, 0, none⟩) n rc :: c7 :: c8 :: c9 :: c10 :: c11 :: c12 :: .int .i64 s :: .slice ca n cc :: u15 :: c16 :: c17 :: c18 :: c19 :: c20 :: c21 :: c22 :: c23 :: c24 :: c25 :: c26 :: c27 :: c28 :: c29 :: c30 :: c31 :: c32 :: c33 :: c34 :: c35 :: c36 :: c37 :: c38 :: c39 :: c40 :: c41 :: c42 :: c43 :: c44 :: c45 :: c46 :: c47 :: c48 :: c49 :: c50 :: c51 :: c52 :: c53 :: c54 :: c55 :: c56 :: c57 :: c58 :: c59 :: c60 :: c61 :: c62 :: c63 :: c64 :: c65 :: c66 :: c67 :: c68 :: c69 :: c70 :: c71 :: c72 :: c73 :: c74 :: c75 :: c76 :: c77 :: c78 :: c79 :: c80 :: c81 :: .int .i64 n :: u83 :: u84 :: u85 :: u86 :: u87 :: u88 :: u89 :: u90 :: u91 :: u92 :: u93 :: u94 :: u95 :: u96 :: c97 :: c98 :: c99 :: c100 :: c101 :: c102 :: c103 :: c104 :: c105 :: []), []⟩ w') :
    Code.wp Try.prog (Code.loop (woBody 3)) (OnExit 6 R) ⟨List.toArray (c0 :: c1 :: c2 :: c3 :: c4 :: c5 :: .slice (some ⟨gr, 0, none⟩) n rc :: c7 :: c8 :: c9 :: c10 :: c11 :: c12 :: .int .i64 s :: .slice ca n cc :: c15 :: c16 :: c17 :: c18 :: c19 :: c20 :: c21 :: c22 :: c23 :: c24 :: c25 :: c26 :: c27 :: c28 :: c29 :: c30 :: c31 :: c32 :: c33 :: c34 :: c35 :: c36 :: c37 :: c38 :: c39 :: c40 :: c41 :: c42 :: c43 :: c44 :: c45 :: c46 :: c47 :: c48 :: c49 :: c50 :: c51 :: c52 :: c53 :: c54 :: c55 :: c56 :: c57 :: c58 :: c59 :: c60 :: c61 :: c62 :: c63 :: c64 :: c65 :: c66 :: c67 :: c68 :: c69 :: c70 :: c71 :: c72 :: c73 :: c74 :: c75 :: c76 :: c77 :: c78 :: c79 :: c80 :: c81 :: .int .i64 n :: .int .i64 0 :: c84 :: c85 :: c86 :: c87 :: c88 :: c89 :: c90 :: c91 :: c92 :: c93 :: c94 :: c95 :: c96 :: c97 :: c98 :: c99 :: c100 :: c101 :: c102 :: c103 :: c104 :: c105 :: []), []⟩ W := by
  conv => arg 2; arg 1; whnf
  have HN := Lib.hid hn
  have HL := Lib.hid hL
  have HR := Lib.hid hr
  have hcap := hr.cap
  unfold maxLen at hcap
  have hz0 := (hr.cells (by omega)).1
  have hn0 : 0 < n := by omega
  clear hr hn hL
  go_loopw [83] (fun t wr => ∃ i : Nat, i ≤ n ∧ t = .int .i64 i ∧ Hid (RwOwn wr lo top (.slice ca n cc) (colTo M s r i)) ∧ Hid (Below lo W wr) ∧ W.heap.size = wr.heap.size) (fun t _ => n - (intOf t).toNat)
  case atStart => exact ⟨0, by omega, rfl, Lib.hid (by rw [colTo_zero]; exact hM), Lib.hid (Below.refl _ _), rfl⟩
  case round =>
    clear hM
    obtain ⟨i, hi, rfl, HM, HB, hsz⟩ := hrel
    have HSZ := Lib.hid hsz
    clear hsz
    by_cases hl : i < n
    · obtain ⟨E, D, hT⟩ := HM.out
      have hlen : (colTo M s r i).length = n := by rw [colTo_len]; exact HN.out
      obtain ⟨g, rfl, _, hg, hnc, hc, hcells, _, _⟩ := own_cells (n := n) (by have := hT.1.1; rw [hlen] at this; exact this) hn0
      unfold maxLen at hc
      have hEi := hT.2.2.2.2 i (by omega)
      have hrl : (rw_ (colTo M s r i) i).length = n := by rw [colTo_at (by have := HN.out; omega), if_neg (by omega)]; exact HL.out i hl
      rw [hrl] at hEi
      obtain ⟨ea, ec, hE⟩ := own_form hEi.1
      have hEo := hEi.1
      rw [hE] at hEo
      obtain ⟨ge, rfl, hge1, hge2, hec1, hec2, hecl, hefr, _⟩ := own_cells hEo hn0
      unfold maxLen at hec2
      have hcE : wr.cell? ⟨g, i, none⟩ = some (.slice (some ⟨ge, 0, none⟩) n ec) := hcells i _ (by rw [List.getElem?_map, List.getElem?_range (by omega)]; exact congrArg some hE)
      have hlo : lo ≤ ge := by
        have := mono_le hT.2.2.1 0 i (by omega) (by omega)
        have := hT.2.1
        omega
      have hcr : wr.cell? ⟨gr, i, none⟩ = some (.int .i64 (nth r i)) := by
        have h1 := HR.out.cells hn0
        rw [HB.out.cell (p := ⟨gr, i, none⟩) hgr]
        have := h1.2 i hl
        rwa [Nat.zero_add] at this
      have hfr : wr.frozen? ⟨ge, s, none⟩ = false := hefr s
      have hce : wr.cell? ⟨ge, s, none⟩ = some (.int .i64 (nth (rw_ M i) s)) := hecl s _ (by rw [List.getElem?_map, colTo_at (by have := HN.out; omega), if_neg (by omega), List.getElem?_eq_getElem (by rw [HL.out i hl]; exact hsn), nth_of_lt (by rw [HL.out i hl]; exact hsn)]; rfl)
      have hgz : gr < wr.heap.size := by have := HSZ.out; omega
      have hi0 : (0 : Int) ≤ (i : Int) := by omega
      have hil : (i : Int) < (n : Int) := by omega
      have hs0 : (0 : Int) ≤ (s : Int) := by omega
      have hsl : (s : Int) < (n : Int) := by omega
      have hT2 := hT.stored (s := s) (by omega) ⟨n, ec, hE⟩ (nth r i)
      rw [← colTo_succ (by have := HN.out; omega)] at hT2
      have HT2 := Lib.hid hT2
      have HBN := Lib.hid ((HB.out.setCell (p := ⟨ge, s, none⟩) hlo (.int .i64 (nth r i))).drew)
      have HSZ2 := Lib.hid (show W.heap.size = (wr.setCell ⟨ge, s, none⟩ (.int .i64 (nth r i))).drew.heap.size by have := HSZ.out; simpa [World.setCell] using this)
      have HO2 := Lib.hid (show RwOwn (wr.drew.setCell ⟨ge, s, none⟩ (.int .i64 (nth r i))) lo top (.slice (some ⟨g, 0, none⟩) n cc) (colTo M s r (i + 1)) from ⟨E, D, hT2⟩)
      clear hT hT2 hcells hE hEo hEi hefr hecl hrl hlen
      go_wp2
      go_region
      all_goals go_wp2
      all_goals go_roundw
      all_goals first
        | (case rel => go_light; exact ⟨i + 1, by omega, by go_num, HO2, HBN, HSZ2.out⟩)
        | skip
      all_goals (simp [intOf]; omega)
    · obtain rfl : i = n := by omega
      have HO2 := Lib.hid (show RwOwn wr lo top (.slice ca i cc) (colSet M s r) by rw [← colTo_end, HN.out]; exact HM.out)
      go_wp2
      exact ⟨rfl, hexit _ _ _ _ _ _ _ _ _ _ _ _ _ _ _ _ HO2.out HB.out HSZ.out⟩

def colDs (n : Nat) (M : List (List Int)) (r : List Int) : List Int := (List.range n).map fun s => detL n (colSet M s r)
theorem colDs_len {n : Nat} {M : List (List Int)} {r : List Int} : (colDs n M r).length = n := by simp [colDs]
theorem colDs_at {n s : Nat} {M : List (List Int)} {r : List Int} (hs : s < n) : nth (colDs n M r) s = detL n (colSet M s r) := by simp [nth, colDs, hs]
theorem grown_store {w w' : World} {p i : Nat} (h : w.grownBy w' (some p)) (v : Value) : w.grownBy (w'.setCell ⟨p, i, none⟩ v) (some p) :=
  ⟨h.os, h.tape, h.output, by simpa [World.setCell] using h.size, fun k hk hne => by rw [Below.heap_setCell _ _ _ _ (by rintro rfl; exact hne rfl)]; exact h.block k hk hne⟩
def StoreVal (w wx : World) (p lo k : Nat) (v : Value) (L : List Int) : Prop := ∃ (w1 w' : World) (o : Obj) (x : Option Addr) (c : Nat), Below w.heap.size w w1 ∧ (w1.alloc o).grownBy w' v.ownBlock ∧ w'.ownsRow lo 3 1 (.slice x k c) k (L.map (Value.int .i64)) ∧ wx = w'.setCell ⟨p, 0, none⟩ (.slice x k c)
set_option maxRecDepth 100000 in
set_option maxHeartbeats 1000000 in
theorem wo_cols (V W : World) (po n gr rc mc : Nat) (ma : Option Addr) (M : List (List Int)) (r : List Int) (dv : Int) (hM : RwSl V ma n mc M) (h1 : 1 ≤ n) (h4 : n ≤ 4) (hSq : Sq n M) (hr : Sl V (some ⟨gr, 0, none⟩) n rc r) (hrb : ∀ i, i < n → -500 ≤ nth r i ∧ nth r i ≤ 500)
    (hV : V.heap.size = po) (hB : Below po V W) (hpo : W.heap[po]? = some (.cells #[.slice none 0 0, .int .i64 dv] 80 (0, 0))) (R : Act → World → Prop)
    (c0 c1 c2 c3 c4 c7 c8 c9 c10 c11 c13 c14 c15 c16 c17 c18 c19 c20 c21 c22 c23 c24 c25 c26 c27 c28 c29 c30 c31 c32 c33 c34 c35 c36 c37 c38 c39 c40 c41 c42 c43 c44 c45 c46 c47 c48 c49 c50 c51 c52 c53 c54 c55 c56 c57 c58 c59 c60 c61 c62 c63 c64 c65 c66 c67 c68 c69 c70 c71 c72 c73 c74 c77 c78 c79 c80 c81 c82 c83 c84 c85 c86 c87 c88 c89 c90 c91 c92 c93 c94 c95 c96 c97 c98 c99 c100 c101 c102 c103 c104 c105 : Value)
    (hexit : ∀ (va : Option Addr) (vc : Nat), ∀ (u13 u14 u15 u76 u77 u78 u79 u80 u81 u82 u83 u84 u85 u86 u87 u88 u89 u90 u91 u92 u93 u94 u95 u96 u97 u98 u99 u100 u101 u102 u103 u104 : Value) (w' : World), w'.ownsRow po 3 1 (.slice va n vc) n ((colDs n M r).map (Value.int .i64)) → w'.heap[po]? = some (.cells #[.slice va n vc, .int .i64 dv] 80 (0, 0)) → Below po V w' → R ⟨List.toArray (c0 :: c1 :: c2 :: c3 :: c4 :: .slice ma n mc :: .slice (some ⟨gr, 0, none⟩) n rc :: c7 :: c8 :: c9 :: c10 :: c11 :: .pointer (some ⟨po, 0, none⟩) :: u13 :: u14 :: u15 :: c16 :: c17 :: c18 :: c19 :: c20 :: c21 :: c22 :: c23 :: c24 :: c25 :: c26 :: c27 :: c28 :: c29 :: c30 :: c31 :: c32 :: c33 :: c34 :: c35 :: c36 :: c37 :: c38 :: c39 :: c40 :: c41 :: c42 :: c43 :: c44 :: c45 :: c46 :: c47 :: c48 :: c49 :: c50 :: c51 :: c52 :: c53 :: c54 :: c55 :: c56 :: c57 :: c58 :: c59 :: c60 :: c61 :: c62 :: c63 :: c64 :: c65 :: c66 :: c67 :: c68 :: c69 :: c70 :: c71 :: c72 :: c73 :: c74 :: .int .i64 n :: u76 :: u77 :: u78 :: u79 :: u80 :: u81 :: u82 :: u83 :: u84 :: u85 :: u86 :: u87 :: u88 :: u89 :: u90 :: u91 :: u92 :: u93 :: u94 :: u95 :: u96 :: u97 :: u98 :: u99 :: u100 :: u101 :: u102 :: u103 :: u104 :: c105 :: []), []⟩ w') :
    Code.wp Try.prog (Code.loop (woBody 2)) (OnExit 4 R) ⟨List.toArray (c0 :: c1 :: c2 :: c3 :: c4 :: .slice ma n mc :: .slice (some ⟨gr, 0, none⟩) n rc :: c7 :: c8 :: c9 :: c10 :: c11 :: .pointer (some ⟨po, 0, none⟩) :: c13 :: c14 :: c15 :: c16 :: c17 :: c18 :: c19 :: c20 :: c21 :: c22 :: c23 :: c24 :: c25 :: c26 :: c27 :: c28 :: c29 :: c30 :: c31 :: c32 :: c33 :: c34 :: c35 :: c36 :: c37 :: c38 :: c39 :: c40 :: c41 :: c42 :: c43 :: c44 :: c45 :: c46 :: c47 :: c48 :: c49 :: c50 :: c51 :: c52 :: c53 :: c54 :: c55 :: c56 :: c57 :: c58 :: c59 :: c60 :: c61 :: c62 :: c63 :: c64 :: c65 :: c66 :: c67 :: c68 :: c69 :: c70 :: c71 :: c72 :: c73 :: c74 :: .int .i64 n :: .int .i64 0 :: c77 :: c78 :: c79 :: c80 :: c81 :: c82 :: c83 :: c84 :: c85 :: c86 :: c87 :: c88 :: c89 :: c90 :: c91 :: c92 :: c93 :: c94 :: c95 :: c96 :: c97 :: c98 :: c99 :: c100 :: c101 :: c102 :: c103 :: c104 :: c105 :: []), []⟩ W := by
  conv => arg 2; arg 1; whnf
  have HM := Lib.hid hM
  have HR := Lib.hid hr
  have HSQ := Lib.hid hSq
  have HRB := Lib.hid hrb
  have HV := Lib.hid hV
  have hcap := hr.cap
  unfold maxLen at hcap
  have hgr := (hr.cells (by omega)).1
  rw [hV] at hgr
  clear hr hM hSq hrb hV
  go_loopw [76] (fun t wr => ∃ (s : Nat) (v : Value), s ≤ n ∧ t = .int .i64 s ∧ Hid (wr.ownsRow po 3 1 v s (((colDs n M r).take s).map (Value.int .i64))) ∧ Hid (wr.heap[po]? = some (.cells #[v, .int .i64 dv] 80 (0, 0))) ∧ Hid (Below po V wr)) (fun t _ => n - (intOf t).toNat)
  case atStart => exact ⟨0, _, by omega, rfl, Lib.hid (World.ownsRow_nil _ _ _ _), Lib.hid hpo, Lib.hid hB⟩
  case round =>
    clear hpo hB
    obtain ⟨s, v, hs, rfl, HO, HP, HB⟩ := hrel
    by_cases hl : s < n
    · have hpo := lt_of_block HP.out
      have HM2 := Lib.hid (HM.out.mono (show Below V.heap.size V wr by rw [HV.out]; exact HB.out))
      obtain ⟨va, vc, rfl⟩ := own_form HO.out
      go_wp2_with fail
      refine (mclone_go _ ma n mc M HM2.out (by omega) (fun k hk => by rw [(HSQ.out.2 k hk).1]; omega)).mono ?_
      rintro e w2 ⟨ca, n2, cc, rfl, hO, hb2⟩
      have hn2 : n2 = n := by
        obtain ⟨xa, xc, e2, _⟩ := hO.sl
        injection e2 with _ e3 _
        rw [e3]; exact HSQ.out.1
      subst hn2
      have HO2 := Lib.hid hO
      have HB2 := Lib.hid hb2
      have HR2 := Lib.hid (HR.out.mono (show Below V.heap.size V w2 by rw [HV.out]; exact HB.out.trans (hb2.mono (by omega))))
      have hz2 := hb2.size
      clear hO hb2
      go_wp2
      refine wp_onExit (k := 6) (wo_col w2 wr.heap.size w2.heap.size n2 s gr rc cc ca M r HO2.out HSQ.out.1 h4 (fun k hk => (HSQ.out.2 k hk).1) hl HR2.out (by omega) _ _ _ _ _ _ _ _ _ _ _ _ _ _ _ _ _ _ _ _ _ _ _ _ _ _ _ _ _ _ _ _ _ _ _ _ _ _ _ _ _ _ _ _ _ _ _ _ _ _ _ _ _ _ _ _ _ _ _ _ _ _ _ _ _ _ _ _ _ _ _ _ _ _ _ _ _ _ _ _ _ _ _ _ _ _ _ _ _ _ _ _ _ _ _ _ _ _ _ _ _ _ ?_)
      intro v15 v83 v84 v85 v86 v87 v88 v89 v90 v91 v92 v93 v94 v95 v96 w3 hO3 hb3 hz3
      have HB3 := Lib.hid (HB2.out.trans hb3)
      obtain ⟨xa, xc, e3, hsl⟩ := hO3.sl
      rw [colSet_len, HSQ.out.1] at e3 hsl
      injection e3 with e4 _ e6
      subst e4 e6
      have HSL := Lib.hid hsl
      have HSQ3 := Lib.hid (colSet_sq (s := s) (r := r) HSQ.out HRB.out)
      have HP3 := Lib.hid (persist HP.out HB3.out)
      clear hO3 hb3 hz3 hsl
      have hc3 : w3.drew.cell? ⟨po, 0, none⟩ = some (.slice va s vc) := by rw [cells_at (w := w3.drew) HP3.out]; rfl
      have hp3 : po < w3.drew.heap.size := lt_of_block HP3.out
      have hf3 : w3.drew.frozen? ⟨po, 0, none⟩ = false := free_at (w := w3.drew) HP3.out 0
      have HFX := Lib.hid (fun (w' : World) (hb : Below w3.drew.heap.size w3.drew w') =>
        (show w'.cell? ⟨po, 0, none⟩ = some (.slice va s vc) ∧ w'.frozen? ⟨po, 0, none⟩ = false ∧ po < w'.heap.size from ⟨by rw [(bcell hb).1 _ _ hp3]; exact hc3, by rw [(bcell hb).2 _ _ hp3]; exact hf3, Nat.lt_of_lt_of_le hp3 hb.size⟩))
      have hown3 := own_mono (own_mono HO.out HB3.out) (Below.refl _ _).drew
      have HCD := Lib.hid (show (colDs n2 M r).take (s + 1) = (colDs n2 M r).take s ++ [detL n2 (colSet M s r)] by rw [take_nth (by rw [colDs_len]; exact hl), colDs_at hl])
      go_wp2
      go_region_law (first
         | (refine step_app1 rfl _ _ 26 rfl Try.underlying26 infoInt rfl (by decide) po (.slice va s vc) s _ rfl ((own_mono hown3 hb4).alloc _) w4.heap.size #[.int .i64 (detL n2 (colSet M s r))] rfl (new_at _ _) rfl (by simp [Value.oneCell']) (by omega) (by omega) (by have := hb4.size; simp at this; simp; omega) ?_; intro v' w5 hown' hgrow; obtain ⟨ya, yc, rfl⟩ := own_form hown'; have hp5 := ((app_keep hown3 hb4 hgrow).2.2 _ _ _ (by decide) HP3.out).trans HP3.out; have hc5 : w5.cell? ⟨po, 0, none⟩ = some (.slice va s vc) := (by rw [cells_at hp5]; rfl); have hf5 := free_at hp5 0; have hl5 := lt_of_block hp5)
         | (go_simp; go_at_call 73; refine (det_go n2 _ _ _ _ (HSL.out.mono (Below.refl _ _).drew) HSQ3.out h4).mono ?_; rintro e w4 ⟨rfl, hb4⟩; obtain ⟨hr4, hf4, hg4⟩ := HFX.out _ hb4))
      all_goals
        have HPN := Lib.hid (set_at (w := w5) (c := #[.slice va s vc, .int .i64 dv]) hp5 0 (.slice ya (s + 1) yc))
        have hneq : (Value.slice ya (s + 1) yc).ownBlock ≠ some po := fun e => by
          obtain ⟨cs, h⟩ := own_type hown' e
          rw [show w5.heap[po]? = _ from hp5] at h
          injection h with h
          injection h with _ h
          exact absurd h (by decide)
        have HON := Lib.hid (show (w5.setCell ⟨po, 0, none⟩ (.slice ya (s + 1) yc)).ownsRow po 3 1 (.slice ya (s + 1) yc) (s + 1) (((colDs n2 M r).take (s + 1)).map (Value.int .i64)) by
          rw [HCD.out, List.map_append]
          exact hown'.kept (row := some po) (grown_store (World.grownBy.refl _ _) _) (.inr hneq))
        have hbw : Below po V w4 := HB.out.trans ((btr HB3.out (btr (Below.refl _ _).drew hb4)).mono (by omega))
        have hpw : po ≤ w4.heap.size := by have := HV.out; have := hbw.size; omega
        have HBN := Lib.hid (((hbw.alloc hpw (.cells #[.int .i64 (detL n2 (colSet M s r))] 3)).grown hgrow (by simp; omega) (fun i hi => (hown3.lt i hi).1)).setCell (p := ⟨po, 0, none⟩) (Nat.le_refl po) (.slice ya (s + 1) yc))
        clear hgrow hown' hp5 hb4 hbw hown3 hc3 hf3 hc5 hf5
        go_wp2
        go_roundw
      all_goals first
        | (case rel => go_light; exact ⟨s + 1, _, by omega, by go_num, HON, HPN, HBN⟩)
        | skip
      all_goals (simp [intOf]; omega)
    · obtain rfl : s = n := by omega
      have hO := HO.out
      rw [List.take_of_length_le (by rw [colDs_len]; omega)] at hO
      obtain ⟨va, vc, rfl⟩ := own_form hO
      have HO2 := Lib.hid hO
      clear hO
      go_wp2
      exact ⟨rfl, hexit _ _ _ _ _ _ _ _ _ _ _ _ _ _ _ _ _ _ _ _ _ _ _ _ _ _ _ _ _ _ _ _ _ _ _ HO2.out HP.out HB.out⟩

theorem WoSt.sl {w : World} {lo : Nat} {mv rv : Value} {M : List (List Int)} {r : List Int} (h : WoSt w lo mv rv M r) : (∃ a c, mv = .slice a M.length c ∧ RwSl w a M.length c M) ∧ ∃ a c, rv = .slice a r.length c ∧ Sl w a r.length c r := by
  obtain ⟨E, D, hT, _, hR, _⟩ := h
  refine ⟨RwOwn.sl ⟨E, D, hT⟩, ?_⟩
  obtain ⟨a, c, rfl⟩ := own_form hR
  exact ⟨a, c, rfl, own_sl hR⟩
/-- Prices that a call made. -/
def GivesPrO (w : World) (l : List Int) (dv : Int) (e : Ending) (w' : World) : Prop := ∃ a n c, e = .returned (pv a n c dv) ∧ w'.ownsRow w.heap.size 3 1 (.slice a n c) n (l.map (Value.int .i64)) ∧ Below w.heap.size w w'
def GivesPr (w : World) (l : List Int) (dv : Int) (e : Ending) (w' : World) : Prop := ∃ a n c, e = .returned (pv a n c dv) ∧ Sl w' a n c l ∧ Below w.heap.size w w'
theorem wNs_cols {a b : Int} {X : List Ac} : wNs a b X = colDs X.length (mMat a b X) (mRight b X) := rfl
set_option maxRecDepth 100000 in
set_option maxHeartbeats 1000000 in
theorem worth_goO (w : World) (x y : Option Addr) (n c m d : Nat) (W : Wd) (p : List Int) (hA : A2Sl w x n c W.acts) (hp : Sl w y m d p) (hok : isPlanB W p = true) :
    Calls Try.prog 47 #[wv W.a W.b x n c, .slice y m d] w (GivesPrO w (wNs W.a W.b (planActs W.acts p)) (wD W.a W.b (planActs W.acts p))) := by
  obtain ⟨a, b, A⟩ := W
  have hX : OkX a b (planActs A p) := okX_plan hok
  have hPl : p.length = A.length := (planOk_at (by unfold isPlanB at hok; rw [Bool.and_eq_true] at hok; exact hok.2)).1
  have hXl := planActs_len A p
  have hnA := hA.1
  have hmp := hp.len
  have hnA : A.length = n := hnA
  obtain rfl : m = n := by omega
  have HXL := Lib.hid (show (planActs A p).length = m by omega)
  have hX1 := hX.1
  have hX4 := hX.2.1
  have hm1 : 1 ≤ m := by omega
  have hm4 : m ≤ 4 := by omega
  have hcap := hp.cap
  have hcap2 := hA.2.cap
  unfold maxLen at hcap hcap2
  have hb1 := bal (bal (Below.refl w.heap.size w) (.cells #[.int .i64 a, .int .i64 b, .slice x m c] 33)) (.cells #[.slice none 0 0, .int .i64 0] 80)
  have HA := Lib.hid (hA.mono hb1)
  have HP := Lib.hid (hp.mono hb1)
  have HB1 := Lib.hid hb1
  have HX := Lib.hid hX
  have HOK := Lib.hid hok
  have HBX := Lib.hid (show BoxW ((w.alloc (.cells #[.int .i64 a, .int .i64 b, .slice x m c] 33)).alloc (.cells #[.slice none 0 0, .int .i64 0] 80)) w.heap.size a b x m c by unfold BoxW; rw [Below.heap_alloc _ _ _ (by simp)]; exact new_at w _)
  have HB4 := Lib.hid (new_at2 w (.cells #[.int .i64 a, .int .i64 b, .slice x m c] 33) (.cells #[.slice none 0 0, .int .i64 0] 80))
  clear hb1 hA hp hX hok hXl hPl hnA hmp hX1 hX4
  show Calls Try.prog _ #[wv a b x m c, .slice y m d] w (GivesPrO w (wNs a b (planActs A p)) (wD a b (planActs A p)))
  go_enter Try.func47, Try.ntmps47
  go_wp2
  refine wp_onExit (k := 0) (wo_rows _ w.heap.size m c m d a b x y A p HBX.out HA.out HP.out HOK.out _ _ _ _ _ _ _ _ _ _ _ _ _ _ _ _ _ _ _ _ _ _ _ _ _ _ _ _ _ _ _ _ _ _ _ _ _ _ _ _ _ _ _ _ _ _ _ _ _ _ _ _ _ _ _ _ _ _ _ _ _ _ _ _ _ _ _ _ _ _ _ _ _ _ _ _ _ _ _ _ _ _ _ _ _ _ _ _ _ _ _ _ _ _ _ _ _ _ _ _ _ ?_)
  intro mv rv v7 v8 v9 v11 v18 v19 v20 v21 v22 v23 v24 v25 v26 v27 v28 v29 v30 v31 v32 v33 v34 v35 v36 v37 v38 v39 v40 v41 v42 v43 v44 v45 v46 v47 v48 v49 v50 v51 v52 v53 v54 v55 v56 v57 v58 v59 v60 v61 v62 v63 v64 v65 v66 v67 v68 v69 v70 w1 hS hB
  obtain ⟨⟨ma, mc, rfl, hM⟩, ra, rc, rfl, hR⟩ := hS.sl
  rw [mMat_len, HXL.out] at hM ⊢
  rw [mRight_len, HXL.out] at hR ⊢
  obtain ⟨gr, og, rfl, _⟩ := hR.at (by omega)
  obtain ⟨E, D, hT, hlo, hRo, hsep⟩ := hS
  obtain ⟨gr', e0, _⟩ := own_cells (n := (mRight b (planActs A p)).length) hRo (by rw [mRight_len, HXL.out]; omega)
  injection e0 with e0
  injection e0 with e1 e2 _
  subst e1 e2
  have HM := Lib.hid hM
  have HR := Lib.hid hR
  have HSQ := Lib.hid (show Sq m (mMat a b (planActs A p)) by have := mMat_sq HX.out; rwa [HXL.out] at this)
  have HRB := Lib.hid (show ∀ i, i < m → -500 ≤ nth (mRight b (planActs A p)) i ∧ nth (mRight b (planActs A p)) i ≤ 500 from fun i hi => by have := mRight_bound HX.out (s := i) (by rw [HXL.out]; exact hi); omega)
  have HD := Lib.hid (show detL m (mMat a b (planActs A p)) = wD a b (planActs A p) by unfold wD; rw [HXL.out])
  have HNS := Lib.hid (show colDs m (mMat a b (planActs A p)) (mRight b (planActs A p)) = wNs a b (planActs A p) by rw [wNs_cols, HXL.out])
  have HBA := Lib.hid (btr HB1.out hB)
  have HB41 := Lib.hid (persist HB4.out hB)
  clear hM hR hT hlo hRo hsep hB
  go_wp2_with fail
  refine (det_go m _ _ _ _ HM.out HSQ.out hm4).mono ?_
  rintro e w2 ⟨rfl, hb2⟩
  rw [HD.out]
  generalize wD a b (planActs A p) = dv at *
  have HBB := Lib.hid (btr HBA.out hb2)
  have HB42 := Lib.hid (persist HB41.out hb2)
  have HM2 := Lib.hid (HM.out.mono hb2)
  have HR2 := Lib.hid (HR.out.mono hb2)
  clear hb2
  go_wp2
  refine wp_onExit (k := 4) (wo_cols w2 _ w2.heap.size m gr rc mc ma _ _ dv HM2.out hm1 hm4 HSQ.out HR2.out HRB.out rfl (bal (Below.refl _ _) _) (new_at w2 _) _ _ _ _ _ _ _ _ _ _ _ _ _ _ _ _ _ _ _ _ _ _ _ _ _ _ _ _ _ _ _ _ _ _ _ _ _ _ _ _ _ _ _ _ _ _ _ _ _ _ _ _ _ _ _ _ _ _ _ _ _ _ _ _ _ _ _ _ _ _ _ _ _ _ _ _ _ _ _ _ _ _ _ _ _ _ _ _ _ _ _ _ _ _ _ _ _ _ _ _ _ _ ?_)
  intro va vc t13 t14 t15 t76 t77 t78 t79 t80 t81 t82 t83 t84 t85 t86 t87 t88 t89 t90 t91 t92 t93 t94 t95 t96 t97 t98 t99 t100 t101 t102 t103 t104 w3 hO hP hB3
  rw [HNS.out] at hO
  have HO3 := Lib.hid hO
  have z42 := lt_of_block HB42.out
  have HB3 := Lib.hid (btr HBB.out hB3)
  have h43 := persist HB42.out hB3
  have z43 := lt_of_block h43
  have zP := lt_of_block hP
  have q0 : w3.cell? ⟨w2.heap.size, 0, none⟩ = some (.slice va m vc) := by rw [cells_at hP]; rfl
  have q1 : w3.cell? ⟨w2.heap.size, 1, none⟩ = some (.int .i64 dv) := by rw [cells_at hP]; rfl
  have r0 : w3.cell? ⟨w.heap.size + 1, 0, none⟩ = some (.slice none 0 0) := by rw [cells_at h43]; rfl
  have r1 : w3.cell? ⟨w.heap.size + 1, 1, none⟩ = some (.int .i64 0) := by rw [cells_at h43]; rfl
  have f0 := free_at h43 0
  have f1 := free_at h43 1
  have HH43 := Lib.hid h43
  clear hO hP hB3 h43
  go_wp2
  have hB9 := (HB3.out.setCell (p := ⟨w.heap.size + 1, 0, none⟩) (show w.heap.size ≤ w.heap.size + 1 by omega) (.slice va m vc)).setCell (p := ⟨w.heap.size + 1, 1, none⟩) (show w.heap.size ≤ w.heap.size + 1 by omega) (.int .i64 dv)
  have h43 := HH43.out
  have e0 : (w3.setCell ⟨w.heap.size + 1, 0, none⟩ (.slice va m vc)).cell? ⟨w.heap.size + 1, 0, none⟩ = some (.slice va m vc) := by rw [cells_at (set_at h43 0 _)]; rfl
  have e1 : ((w3.setCell ⟨w.heap.size + 1, 0, none⟩ (.slice va m vc)).setCell ⟨w.heap.size + 1, 1, none⟩ (.int .i64 dv)).cell? ⟨w.heap.size + 1, 1, none⟩ = some (.int .i64 dv) := by rw [cells_at (set_at (set_at h43 0 _) 1 _)]; rfl
  refine bodyPost_ret (v := pv va m vc dv) (by simp [results, Try.results47, go_sem, e0, e1]) rfl ⟨va, m, vc, rfl, ?_, hB9⟩
  refine own_base (HO3.out.kept (row := some (w.heap.size + 1)) (grown_store (grown_store (World.grownBy.refl _ _) _) _) (.inr fun e => ?_)) (by omega)
  have := (HO3.out.lt _ e).1
  omega
theorem worth_go (w : World) (x y : Option Addr) (n c m d : Nat) (W : Wd) (p : List Int) (hA : A2Sl w x n c W.acts) (hp : Sl w y m d p) (hok : isPlanB W p = true) :
    Calls Try.prog 47 #[wv W.a W.b x n c, .slice y m d] w (GivesPr w (wNs W.a W.b (planActs W.acts p)) (wD W.a W.b (planActs W.acts p))) :=
  (worth_goO w x y n c m d W p hA hp hok).mono fun _ _ ⟨a, k, cc, he, ho, hb⟩ => ⟨a, k, cc, he, own_sl ho, hb⟩
end Go.Proofs.Ytcmakddnjmeklaa
