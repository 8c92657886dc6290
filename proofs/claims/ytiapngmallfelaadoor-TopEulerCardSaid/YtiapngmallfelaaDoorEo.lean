
/- mirror: plain facts on the table's making; its start. -/
import Derived.Test.YtiapngmallfelaaDoorEm
namespace Go.Proofs.YtiapngmallfelaaDoor
open Go.RowKit
set_option linter.unusedSimpArgs false
theorem okOne : okE oneL := by
  refine ⟨oneL_len, ?_⟩
  decide
theorem MapE.made (V : World) : MapE (V.alloc (.map #[] 0)) V.heap.size 0 [] := by
  refine ⟨.map [], World.ownsMap_made V _ _ _, fun e he => ⟨rfl, fun h => by simp at h⟩⟩
theorem MapE.look0 {V : World} {gm n : Nat} {El : List (List Int)} (h : MapE V gm n El) {e : List Int} (he : okE e) :
    (Instr.lookup 56 (.map (some gm)) (.agg (eC e)) true).run Tryd.prog V = .ok (.tuple #[.int .i64 (if posE e El < El.length then (posE e El : Int) else 0), .bool (decide (posE e El < El.length))]) V := by
  obtain ⟨D, ⟨es, clock, hb, F, hs, rfl⟩, h2⟩ := h
  obtain ⟨h3, h4⟩ := h2 e he
  rcases Maps.fit_look true keyE undM (zeroInt V) hb F (klE_is he) with ⟨hrun, _, hat⟩ | ⟨e0, y, _, _, hrun, hRv, hat, _⟩
  · rw [Maps.has_false_of_atKey hat] at h3
    have h5 : ¬ posE e El < El.length := by simpa using h3.symm
    rw [hrun, if_neg h5]
    simp [h5]
  · rw [Maps.has_true_of_atKey hat] at h3
    have h5 : posE e El < El.length := by simpa using h3.symm
    have h6 := h4 h5
    rw [hat] at h6
    obtain ⟨c, hc, hz, _⟩ := plainElem_int_inv undInt hRv
    rw [hz] at h6
    rw [hrun, if_pos h5, hc]
    have h7 : c = (posE e El : Int) := by simpa using h6
    simp [h5, h7]
theorem wp_insert {o : Oper} {a : Act} {w : World} {K : Act → World → Prop} {Q : Exit → Act → World → Prop} {V2 : World} (m x v : Operand) (ho : o.op = .insert 56 m x v) (gm : Nat) (e : List Int) (z : Int)
    (hm : a.eval m = .map (some gm)) (hx : a.eval x = .agg (eC e)) (hv : a.eval v = .int .i64 z) (hrun : (Instr.mapUpdate 56 (.map (some gm)) (.agg (eC e)) (.int .i64 z)).run Tryd.prog w = .ok () V2)
    (h : K (a.put o.dst undef) V2) : o.wp Tryd.prog a w K Q := by
  unfold Oper.wp execOp
  simp only [ho, hm, hx, hv, Sem.run_bind, hrun, Result.andThen_ok, Sem.run_pure]
  exact h
theorem wp_update {o : Oper} {a : Act} {w : World} {K : Act → World → Prop} {Q : Exit → Act → World → Prop} {V2 : World} (m x v : Operand) (ho : o.op = .mapUpdate 56 m x v) (gm : Nat) (e : List Int) (z : Int)
    (hm : a.eval m = .map (some gm)) (hx : a.eval x = .agg (eC e)) (hv : a.eval v = .int .i64 z) (hrun : (Instr.mapUpdate 56 (.map (some gm)) (.agg (eC e)) (.int .i64 z)).run Tryd.prog w = .ok () V2)
    (h : K (a.put o.dst undef) V2) : o.wp Tryd.prog a w K Q := by
  unfold Oper.wp execOp
  simp only [ho, hm, hx, hv, Sem.run_bind, hrun, Result.andThen_ok, Sem.run_pure]
  exact h
theorem wp_appR {o : Oper} {a : Act} {w : World} {K : Act → World → Prop} {Q : Exit → Act → World → Prop} {V2 : World} {v' : Value} (s x : Operand) (t : TypeId) (ho : o.op = .call { callee := .builtin .append, args := #[s, x], argTypes := #[t, t] }) (hty : o.type = t) (vs vx : Value)
    (hs : a.eval s = vs) (hx : a.eval x = vx) (hrun : (Builtin.append_ #[t, t] t #[vs, vx]).run Tryd.prog w = .ok v' V2) (h : K (a.put o.dst v') V2) : o.wp Tryd.prog a w K Q := by
  unfold Oper.wp execOp
  simp only [ho, hty, resolve, invoke, builtin, Sem.run_bind, Sem.run_pure, Result.andThen_ok, List.map_toArray, List.map_cons, List.map_nil, hs, hx, hrun]
  exact h
theorem wpList_appR {ops : Array Oper} {rest : List Oper} {o : Oper} {a : Act} {w : World} {Q : Exit → Act → World → Prop} {V2 : World} {v' : Value} (hgd : o.guard = none) (s x : Operand) (t : TypeId) (ho : o.op = .call { callee := .builtin .append, args := #[s, x], argTypes := #[t, t] }) (hty : o.type = t) (vs vx : Value)
    (hs : a.eval s = vs) (hx : a.eval x = vx) (hrun : (Builtin.append_ #[t, t] t #[vs, vx]).run Tryd.prog w = .ok v' V2) (h : wpList Tryd.prog ops Q rest (a.put o.dst v') V2) : wpList Tryd.prog ops Q (o :: rest) a w :=
  wpList_plain hgd fun _ hK => wp_appR s x t ho hty vs vx hs hx hrun (hK _ _ h)
theorem wp_to4 {P : Program} {c : Code} {Q : Exit → Act → World → Prop} {a : Act} {w : World} {FR : Nat → Nat → Nat → Nat → Act} {Pr : Nat → Nat → Nat → Nat → World → Prop}
    (h1 : c.wp P (OnNormal fun a V => ∃ p q r s, a = FR p q r s ∧ Pr p q r s V) a w) (h2 : ∀ p q r s V, Pr p q r s V → Q .normal (FR p q r s) V) : c.wp P Q a w :=
  wp_mono h1 fun e a w he => by
    cases e with
    | normal => obtain ⟨p, q, r, s, rfl, h⟩ := he; exact h2 _ _ _ _ _ h
    | _ => exact he.elim
theorem wp_to1 {P : Program} {c : Code} {Q : Exit → Act → World → Prop} {a : Act} {w : World} {FR : Nat → Act} {Pr : Nat → World → Prop}
    (h1 : c.wp P (OnNormal fun a V => ∃ p, a = FR p ∧ Pr p V) a w) (h2 : ∀ p V, Pr p V → Q .normal (FR p) V) : c.wp P Q a w :=
  wp_mono h1 fun e a w he => by
    cases e with
    | normal => obtain ⟨p, rfl, h⟩ := he; exact h2 _ _ h
    | _ => exact he.elim
/-! ### plain -/
theorem nth_okE {e : List Int} (h : okE e) (i : Nat) : 0 ≤ nth e i ∧ nth e i ≤ 24 := by
  by_cases hi : i < e.length
  · rw [nth_of_lt hi]; exact h.2 _ (List.getElem_mem hi)
  · unfold nth
    rw [List.getD_eq_getElem?_getD, List.getElem?_eq_none (by omega)]
    decide
theorem then_ok {e f : List Int} (h : okE e) (hf : f.length = 24) : okE (thenL e f) := by
  refine ⟨thenL_len e hf, fun x hx => ?_⟩
  obtain ⟨y, _, rfl⟩ := List.mem_map.1 hx
  exact nth_okE h _
theorem mirL_rng {s : Nat} (hs : s < 4) : ∀ k, k < 24 → 1 ≤ nth (mirL s) k ∧ nth (mirL s) k ≤ 24 := by
  have h : ((List.range 4).all fun s => (List.range 24).all fun k => decide (1 ≤ nth (mirL s) k ∧ nth (mirL s) k ≤ 24)) = true := by decide +kernel
  intro k hk
  exact of_decide_eq_true (List.all_eq_true.1 (List.all_eq_true.1 h s (List.mem_range.2 hs)) k (List.mem_range.2 hk))
structure InvB (E : List (List Int)) (W : List (List Nat)) : Prop where
  ok : ∀ e ∈ E, okE e
  len : W.length = E.length
  wd : ∀ i, (wdW W i).length ≤ W.length
theorem elE_mem {E : List (List Int)} {k : Nat} (h : k < E.length) : elE E k ∈ E := by
  unfold elE
  rw [List.getD_eq_getElem?_getD, List.getElem?_eq_getElem h]
  exact List.getElem_mem h
theorem elE_app {E F : List (List Int)} {k : Nat} (h : k < E.length) : elE (E ++ F) k = elE E k := by
  unfold elE
  rw [List.getD_eq_getElem?_getD, List.getD_eq_getElem?_getD, List.getElem?_append_left h]
theorem wdW_app {W X : List (List Nat)} {k : Nat} (h : k < W.length) : wdW (W ++ X) k = wdW W k := by
  unfold wdW
  rw [List.getD_eq_getElem?_getD, List.getD_eq_getElem?_getD, List.getElem?_append_left h]
theorem wdW_out {W : List (List Nat)} {k : Nat} (h : W.length ≤ k) : wdW W k = [] := by
  unfold wdW
  rw [List.getD_eq_getElem?_getD, List.getElem?_eq_none h]
  rfl
theorem InvB.snoc {E : List (List Int)} {W : List (List Nat)} (h : InvB E W) {e : List Int} (he : okE e) {x : List Nat} (hx : x.length ≤ W.length + 1) : InvB (E ++ [e]) (W ++ [x]) := by
  refine ⟨fun f hf => ?_, by simp [h.len], fun i => ?_⟩
  · rcases List.mem_append.1 hf with hf | hf
    · exact h.ok f hf
    · rw [List.mem_singleton.1 hf]; exact he
  · rw [List.length_append]
    by_cases hi : i < W.length + 1
    · rw [wdW_snoc W x i hi]
      have := h.wd i
      split <;> simp <;> omega
    · rw [wdW_out (by simp; omega)]
      simp
theorem inS_inv {E : List (List Int)} {W : List (List Nat)} {k : Nat} (h : InvB E W) (hk : k < E.length) : ∀ s, s ≤ 4 → InvB (inS k E W s).1 (inS k E W s).2.1 ∧ E.length ≤ (inS k E W s).1.length ∧ (inS k E W s).1.length ≤ E.length + s ∧ (inS k E W s).2.2.length = s
  | 0, _ => ⟨h, Nat.le_refl _, Nat.le_refl _, rfl⟩
  | s + 1, hs => by
    obtain ⟨h1, h2, h3, h4⟩ := inS_inv h hk s (by omega)
    have hok := then_ok (h1.ok _ (elE_mem (k := k) (by omega))) (mirL_len s)
    show InvB (if _ then _ else _ : List (List Int) × List (List Nat) × List Nat).1 (if _ then _ else _ : List (List Int) × List (List Nat) × List Nat).2.1 ∧ E.length ≤ (if _ then _ else _ : List (List Int) × List (List Nat) × List Nat).1.length ∧ (if _ then _ else _ : List (List Int) × List (List Nat) × List Nat).1.length ≤ E.length + (s + 1) ∧ (if _ then _ else _ : List (List Int) × List (List Nat) × List Nat).2.2.length = s + 1
    split
    · exact ⟨h1, h2, by show (inS k E W s).1.length ≤ _; omega, by simp [h4]⟩
    · refine ⟨h1.snoc hok (by simp; exact h1.wd k), by simp; omega, by simp; omega, by simp [h4]⟩
theorem outB_inv {n : Nat} (h1 : 1 ≤ n) (h4 : n ≤ 4) : ∀ k, k ≤ sizeN n → InvB (outB n k).E (outB n k).W ∧ (outB n k).N.length = k ∧ (outB n k).E.length ≤ 1 + 4 * k
  | 0, _ => ⟨⟨fun e he => by rw [List.mem_singleton.1 he]; exact okOne, rfl, fun i => by cases i <;> simp [outB, initB, wdW]⟩, rfl, by simp [outB, initB]⟩
  | k + 1, hk => by
    obtain ⟨h5, h6, h7⟩ := outB_inv h1 h4 k (by omega)
    have h8 := (tab_out h1 h4).2.2.2 k (by omega)
    obtain ⟨g1, g2, g3, g4⟩ := inS_inv h5 h8 n h4
    exact ⟨g1, by show ((outB n k).N ++ [_]).length = k + 1; simp [h6], by show (inS k (outB n k).E (outB n k).W n).1.length ≤ _; omega⟩
theorem sizeN_le (n : Nat) : sizeN n ≤ 120 := by unfold sizeN; split; decide; split; decide; split <;> decide
/-! ### the start -/
theorem TS.init {w W1 V V3 : World} {n tb gm p6 p7 pl : Nat} (hW : W1.heap.size = w.heap.size + 1) (hbW : Below w.heap.size w W1) (q0 : W1.heap[w.heap.size]? = some (.cells #[.int .u8 65, .int .i64 (n : Int)] 28 (0, 0)))
    (htb : V.heap[tb]? = some (.cells #[.int .u8 65, .int .i64 (n : Int), .slice (some ⟨p7, 0, none⟩) 1 1, .slice none 0 0, .map (some gm)] 58 (0, 0))) (hm : MapE V gm 1 [oneL]) (h7 : V.heap[p7]? = some (.cells #[.slice (some ⟨p6, 0, none⟩) 0 0] 23 (0, 0)))
    (b1 : W1.heap.size ≤ tb) (b2 : W1.heap.size ≤ gm) (b3 : W1.heap.size ≤ p7) (hB : Below W1.heap.size W1 V) (hb3 : Below V.heap.size V V3) (hp : V.heap.size ≤ pl) (hpl : V3.heap[pl]? = some (.cells (eC oneL) 63 (0, 0))) :
    TS w n w.heap.size tb gm [oneL] [oneL] [[]] [] [] (.slice (some ⟨pl, 0, none⟩) 1 1) (.slice none 0 0) (.slice (some ⟨p7, 0, none⟩) 1 1) (.slice none 0 0) V3 := by
  have n1 : tb ≠ p7 := by rintro rfl; rw [htb] at h7; simp at h7
  have n2 : tb ≠ gm := by rintro rfl; obtain ⟨es, clock, q⟩ := hm.lt; rw [htb] at q; cases q
  have n3 : p7 ≠ gm := by rintro rfl; obtain ⟨es, clock, q⟩ := hm.lt; rw [h7] at q; cases q
  have l1 := lt_of_block htb
  have l2 := lt_of_block h7
  have l3 : gm < V.heap.size := by obtain ⟨es, clock, q⟩ := hm.lt; exact lt_of_block q
  refine ⟨fun k => if k = tb then 1 else if k = p7 then 2 else if k = gm then 5 else if k = pl then 4 else 0, btr (btr hbW hB) hb3, fun k hk => ?_, persist (persist q0 hB) hb3, ?_, persist htb hb3, by simp, ?_, ?_, ?_, ?_, ?_, ⟨World.ownsRow_nil _ _ _ _, fun g hg => by simp [Value.ownBlock] at hg⟩, by omega⟩
  · show (if k = tb then 1 else if k = p7 then 2 else if k = gm then 5 else if k = pl then 4 else 0) = 0
    rw [if_neg (by omega), if_neg (by omega), if_neg (by omega), if_neg (by have := hB.size; omega)]
  · show (if w.heap.size = tb then 1 else if w.heap.size = p7 then 2 else if w.heap.size = gm then 5 else if w.heap.size = pl then 4 else 0) = 0
    rw [if_neg (by omega), if_neg (by omega), if_neg (by omega), if_neg (by have := hB.size; omega)]
  · refine ⟨[.slice (some ⟨p6, 0, none⟩) 0 0], ⟨⟨rfl, .inr ⟨p7, 1, _, rfl, Nat.zero_le _, persist h7 hb3, Nat.le_refl _, by unfold maxLen; omega, rfl, rfl⟩⟩, fun g hg => ?_⟩, fun i hi => ?_⟩
    · obtain rfl : p7 = g := by simpa [Value.ownBlock] using hg
      show (if p7 = tb then 1 else if p7 = p7 then 2 else if p7 = gm then 5 else if p7 = pl then 4 else 0) = 2
      rw [if_neg (by omega), if_pos rfl]
    · obtain rfl : i = 0 := by simpa using hi
      exact ⟨some ⟨p6, 0, none⟩, 0, 0, rfl, ⟨rfl, Nat.le_refl _, Nat.zero_le _, .inr (.inl ⟨rfl, rfl, _, rfl⟩)⟩, fun h => by omega⟩
  · exact ⟨[], ⟨World.ownsRow_nil _ _ _ _, fun g hg => by simp [Value.ownBlock] at hg⟩, fun i hi => by simp at hi⟩
  · obtain ⟨es, clock, q⟩ := hm.lt
    exact hm.keep (hb3.block gm (lt_of_block q))
  · show (if gm = tb then 1 else if gm = p7 then 2 else if gm = gm then 5 else if gm = pl then 4 else 0) = 5
    rw [if_neg (by omega), if_neg (by omega), if_pos rfl]
  · refine ⟨⟨by simp [eC_size, oneL_len], .inr ⟨pl, 1, _, rfl, Nat.zero_le _, hpl, Nat.le_refl _, by unfold maxLen; omega, by rw [eC_size, oneL_len], by simpa using List.take_of_length_le (show (eC oneL).toList.length ≤ 24 by rw [Array.length_toList, eC_size, oneL_len]; exact Nat.le_refl _)⟩⟩, fun g hg => ?_⟩
    obtain rfl : pl = g := by simpa [Value.ownBlock] using hg
    show (if pl = tb then 1 else if pl = p7 then 2 else if pl = gm then 5 else if pl = pl then 4 else 0) = 4
    rw [if_neg (by omega), if_neg (by omega), if_neg (by omega), if_pos rfl]
end Go.Proofs.YtiapngmallfelaaDoor
