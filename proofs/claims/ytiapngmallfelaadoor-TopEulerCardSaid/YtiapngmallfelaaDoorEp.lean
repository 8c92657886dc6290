
/- mirror: reading elements; the finished table. -/
import Derived.Test.YtiapngmallfelaaDoorEo
namespace Go.Proofs.YtiapngmallfelaaDoor
open Go.RowKit
set_option linter.unusedSimpArgs false
theorem flat_at : ∀ (El : List (List Int)) (k j : Nat), (∀ e ∈ El, okE e) → k < El.length → j < 24 → (El.flatMap fun e => (eC e).toList)[k * 24 + j]? = some (.int .i8 (nth (elE El k) j))
  | [], k, j, _, h, _ => by simp at h
  | e :: El, 0, j, hok, _, hj => by
    have he := (hok e (by simp)).1
    rw [List.flatMap_cons, List.getElem?_append_left (by rw [Array.length_toList, eC_size]; omega), Array.getElem?_toList, Nat.zero_mul, Nat.zero_add, eC_at (by omega)]
    rfl
  | e :: El, k + 1, j, hok, h, hj => by
    have he := (hok e (by simp)).1
    rw [List.flatMap_cons, List.getElem?_append_right (by rw [Array.length_toList, eC_size]; omega)]
    rw [show (k + 1) * 24 + j - (eC e).toList.length = k * 24 + j by rw [Array.length_toList, eC_size]; omega]
    exact flat_at El k j (fun f hf => hok f (by simp [hf])) (by simpa using h) hj
theorem els_at {V : World} {cls : Nat → Nat} {vl : Value} {El : List (List Int)} (h : OwnC V cls 4 63 24 vl El.length (El.flatMap fun e => (eC e).toList)) (hok : ∀ e ∈ El, okE e) {k : Nat} (hk : k < El.length) :
    ∃ g cap, vl = .slice (some ⟨g, 0, none⟩) El.length cap ∧ El.length ≤ cap ∧ cap ≤ maxLen ∧ g < V.heap.size ∧ ∀ j, j < 24 → V.cell? ⟨g, k * 24 + j, none⟩ = some (.int .i8 (nth (elE El k) j)) := by
  obtain ⟨⟨h1, h2⟩, _⟩ := h
  rcases h2 with ⟨_, h0⟩ | ⟨g, cap, cur, rfl, _, hg, hnc, hcm, hcs, htake⟩
  · omega
  · refine ⟨g, cap, rfl, hnc, hcm, lt_of_block hg, fun j hj => ?_⟩
    have h3 := flat_at El k j hok hk hj
    rw [← htake, List.getElem?_take] at h3
    split at h3
    · rw [cells_at hg]; simpa using h3
    · cases h3
theorem exec_loadE {a : Act} {o : Oper} {x : Operand} (ho : o.op = .load 63 x) {w : World} (g off : Nat) (E : List Int) (hx : a.eval x = .pointer (some ⟨g, off, none⟩)) (hE : E.length = 24) (hc : ∀ j, j < 24 → w.cell? ⟨g, off + j, none⟩ = some (.int .i8 (nth E j))) :
    (execOp a.eval o).run Tryd.prog w = .ok (.value (.agg (eC E))) w := by
  have hl : (loadCells ⟨g, off, none⟩ (eC E).toList.length).run Tryd.prog w = .ok (eC E).toList.toArray w :=
    run_loadCells_list (P := Tryd.prog) w ⟨g, off, none⟩ (eC E).toList (fun j v hv => by
      have hj : j < 24 := by have := (List.getElem?_eq_some_iff.1 hv).1; rw [Array.length_toList, eC_size] at this; omega
      have hadd : (⟨g, off, none⟩ : Addr).add j = ⟨g, off + j, none⟩ := by unfold Addr.add; split <;> simp_all
      rw [hadd, hc j hj, ← eC_at (by omega)]
      simpa using hv)
  rw [Array.length_toList, eC_size, hE, Array.toArray_toList] at hl
  cases hq : Tryd.prog.info? 63 with
  | none => have := infoE; rw [hq] at this; cases this
  | some i =>
    have hs : i.size = 24 := by have := infoE; rw [hq] at this; simpa using this
    have hagg : (isAgg 63).run Tryd.prog w = .ok true w := by
      unfold isAgg
      rw [Sem.run_bind, run_underlying undE w]
      rfl
    unfold execOp
    simp [ho, hx, Instr.loadAt, Instr.sureAddr, loadVar, Sem.run_bind, hagg, sizeOf, typeInfo, hq, hs, hl]
theorem exec_lookE {a : Act} {o : Oper} {m x : Operand} (ho : o.op = .lookup 56 m x true) {w : World} {gm k : Nat} {El : List (List Int)} (h : MapE w gm k El) (e : List Int) (he : okE e) (hm : a.eval m = .map (some gm)) (hx : a.eval x = .agg (eC e)) :
    (execOp a.eval o).run Tryd.prog w = .ok (.value (.tuple #[.int .i64 (if posE e El < El.length then (posE e El : Int) else 0), .bool (decide (posE e El < El.length))])) w := by
  unfold execOp
  simp [ho, hm, hx, Sem.run_bind, h.look0 he]
theorem run_full2 {w : World} (a : Option Addr) (m : Nat) (l : List Nat) (hs : Sl w a m m (ints l)) (p s : Nat) (hp : w.heap[p]? = some (.cells #[.int .i64 (s : Int)] 3 (0, 0))) (hm : m ≤ 100000) :
    ∃ c w', (Builtin.append_ #[23, 23] 23 #[.slice a m m, .slice (some ⟨p, 0, none⟩) 1 1]).run Tryd.prog w = .ok (.slice (some ⟨w.heap.size, 0, none⟩) (m + 1) c) w' ∧ Sl w' (some ⟨w.heap.size, 0, none⟩) (m + 1) c (ints (l ++ [s])) ∧ Below w.heap.size w w' := by
  cases a with
  | some x => exact run_full x m l hs p s hp hm
  | none =>
    obtain ⟨rfl, h2⟩ : m = 0 ∧ ints l = [] := by
      rcases hs.parts3 with ⟨_, h1, _, h3⟩ | ⟨x, h, _⟩ | ⟨b, off, h, _⟩
      · exact ⟨h1, h3⟩
      · cases h
      · cases h
    have hl : l = [] := by simpa [ints] using h2
    subst hl
    obtain ⟨i0, hi, hz0, hz1, hz2⟩ := info_parts infoInt
    have ht : Tryd.prog.underlying 23 = some (.slice 3) := Tryd.underlying23
    have hnew : ∀ j u, [Value.int .i64 (s : Int)][j]? = some u → w.cell? ((⟨p, 0, none⟩ : Addr).add j) = some u := by
      intro j u hj
      cases j with
      | zero => simp at hj; subst hj; exact one_atB hp
      | succ j => simp at hj
    have hr := run_append_nil (P := Tryd.prog) w 23 23 3 i0 (.int .i64 0) ht hi hz0 ⟨p, 0, none⟩ 1 1 [.int .i64 (s : Int)] (by rw [hz1]; rfl) hnew (by omega) (by omega) (by rw [hz2]; omega)
    have hge := grownCap_ge w 1 0 3
    have hle := grownCap_le_maxLen w 1 0 3 (by unfold maxLen; omega)
    refine ⟨_, _, hr, ⟨rfl, hge, hle, .inr (.inr ⟨w.heap.size, 0, rfl, by simp, fun i hi' => ?_⟩)⟩, bal (w := w) (drewB ⟨1, rfl⟩) _⟩
    have hh := new_at w.drew (.cells ([Value.int .i64 (s : Int)].toArray ++ Builtin.zeroCells (Value.int .i64 0).cells (grownCap w 1 0 3 - 1)) 3)
    rw [show w.drew.heap.size = w.heap.size from rfl] at hh
    obtain rfl : i = 0 := by omega
    rw [cells_at hh, Nat.zero_add, Array.getElem?_append_left (by simp)]
    rfl
theorem sl_full {V : World} {a : Option Addr} {m cp : Nat} {l : List Int} (h : Sl V a m cp l) : Sl V a m m l := by
  obtain ⟨h1, h2, h3, h | h | ⟨b, off, rfl, r⟩⟩ := h
  · exact ⟨h1, Nat.le_refl _, by omega, .inl ⟨h.1, h.2.1, h.2.1⟩⟩
  · exact ⟨h1, Nat.le_refl _, by omega, .inr (.inl ⟨h.1, h.1, h.2.2⟩)⟩
  · exact ⟨h1, Nat.le_refl _, by omega, .inr (.inr ⟨b, off, rfl, r⟩)⟩
/-! ### the finished table -/
def TblAt (V : World) (tb n : Nat) (W N : List (List Nat)) : Prop :=
  ∃ aw cw an cn gm, V.heap[tb]? = some (.cells #[.int .u8 65, .int .i64 (n : Int), .slice aw W.length cw, .slice an N.length cn, .map (some gm)] 58 (0, 0)) ∧ RwSl V aw W.length cw (W.map ints) ∧ RwSl V an N.length cn (N.map ints)
theorem rw_ints (M : List (List Nat)) (i : Nat) : rw_ (M.map ints) i = ints (wdW M i) := by
  unfold rw_ wdW
  rw [List.getD_eq_getElem?_getD, List.getD_eq_getElem?_getD, List.getElem?_map]
  cases M[i]? <;> rfl
theorem TblAt.mono {V V' : World} {tb n : Nat} {W N : List (List Nat)} (h : TblAt V tb n W N) (hb : Below V.heap.size V V') : TblAt V' tb n W N := by
  obtain ⟨aw, cw, an, cn, gm, h1, h2, h3⟩ := h
  exact ⟨aw, cw, an, cn, gm, persist h1 hb, h2.mono hb, h3.mono hb⟩
theorem RowsC.sl {V : World} {cls : Nat → Nat} {c : Nat} {v : Value} {M : List (List Nat)} (h : RowsC V cls c v M) : ∃ a cp, v = .slice a M.length cp ∧ RwSl V a M.length cp (M.map ints) := by
  obtain ⟨Es, ⟨⟨h1, h2⟩, _⟩, h3⟩ := h
  rcases h2 with ⟨rfl, h0⟩ | ⟨g, cap, cur, rfl, _, hg, hnc, hcm, hcs, htake⟩
  · exact ⟨none, 0, by rw [h0], by simp, by omega, by unfold maxLen; omega, .inl ⟨rfl, h0, rfl⟩⟩
  · refine ⟨_, cap, rfl, by simp, hnc, hcm, .inr (.inr ⟨g, 0, rfl, lt_of_block hg, fun i hi => ?_⟩)⟩
    obtain ⟨a, m, cp, e1, e2, _⟩ := h3 i hi
    refine ⟨a, m, cp, ?_, by rw [rw_ints]; exact e2⟩
    rw [← htake, List.getElem?_take] at e1
    split at e1
    · rw [cells_at hg, Nat.zero_add, Nat.mul_one]; simpa using e1
    · cases e1
theorem TS.done {w : World} {n gx tb gm : Nat} {Em El : List (List Int)} {W N : List (List Nat)} {row : List Nat} {vl vr vw vn : Value} {V : World} (h : TS w n gx tb gm Em El W N row vl vr vw vn V) : TblAt V tb n W N ∧ Below w.heap.size w V := by
  obtain ⟨cls, h⟩ := h
  obtain ⟨aw, cw, rfl, h1⟩ := h.wds.sl
  obtain ⟨an, cn, rfl, h2⟩ := h.nxt.sl
  exact ⟨⟨aw, cw, an, cn, gm, h.tbl, h1, h2⟩, h.below⟩
end Go.Proofs.YtiapngmallfelaaDoor
