
/- mirror: the steps of the table's making. -/
import Derived.Test.YtiapngmallfelaaDoorEl
namespace Go.Proofs.YtiapngmallfelaaDoor
open Go.RowKit
set_option linter.unusedSimpArgs false
section
variable {w : World} {n gx tb gm : Nat} {Em El : List (List Int)} {W N : List (List Nat)} {row : List Nat} {vl vr vw vn : Value} {V V' : World}
theorem TSc.fresh {cls : Nat → Nat} (h : TSc w n gx tb gm cls Em El W N row vl vr vw vn V) (hb : Below V.heap.size V V') : TSc w n gx tb gm (ext cls V.heap.size 0) Em El W N row vl vr vw vn V' := by
  have hs : St (fun _ => false) cls V V' := St.of_below hb
  have hc : ∀ c k, k < V.heap.size → cls k = c → ext cls V.heap.size 0 k = c := fun c k hk e => (ext_lt hk).trans e
  have hbw := h.below.size
  refine ⟨btr h.below hb, fun k hk => (ext_lt (Nat.lt_of_lt_of_le hk hbw)).trans (h.old k hk), persist h.box hb, hc 0 _ (lt_of_block h.box) h.cgx, persist h.tbl hb, hc 1 _ (lt_of_block h.tbl) h.ctb, h.wds.keep hs rfl rfl (hc 2) (hc 0), h.nxt.keep hs rfl rfl (hc 3) (hc 0), ?_, ?_, h.els.keep hs rfl (hc 4), h.rows.keep hs rfl (hc 6), h.tbw⟩
  · obtain ⟨es, clock, hm⟩ := h.map.lt
    exact h.map.keep (hb.block gm (lt_of_block hm))
  · obtain ⟨es, clock, hm⟩ := h.map.lt
    exact hc 5 _ (lt_of_block hm) h.cgm
theorem TS.fresh (h : TS w n gx tb gm Em El W N row vl vr vw vn V) (hb : Below V.heap.size V V') : TS w n gx tb gm Em El W N row vl vr vw vn V' := by
  obtain ⟨cls, h⟩ := h
  exact ⟨_, h.fresh hb⟩
theorem TSc.gml {cls : Nat → Nat} (h : TSc w n gx tb gm cls Em El W N row vl vr vw vn V) : gm < V.heap.size := by
  obtain ⟨es, clock, hm⟩ := h.map.lt
  exact lt_of_block hm
/-- A step that turns blocks of one class c (not 0, 1), or makes blocks: what is not of that class stays. -/
theorem TSc.turn {cls : Nat → Nat} (h : TSc w n gx tb gm cls Em El W N row vl vr vw vn V) {p : Nat → Bool} (hs : St p cls V V') (h0 : p 0 = false) (d : Nat) :
    Below w.heap.size w V' ∧ (∀ k, k < w.heap.size → ext cls V.heap.size d k = 0) ∧ V'.heap[gx]? = some (.cells #[.int .u8 65, .int .i64 (n : Int)] 28 (0, 0)) ∧ ext cls V.heap.size d gx = 0 ∧ ext cls V.heap.size d tb = 1 ∧ ext cls V.heap.size d gm = 5 ∧
    (∀ c k, k < V.heap.size → cls k = c → ext cls V.heap.size d k = c) ∧ (p 1 = false → V'.heap[tb]? = V.heap[tb]?) ∧ (p 5 = false → MapE V' gm Em.length Em) := by
  have hc : ∀ c k, k < V.heap.size → cls k = c → ext cls V.heap.size d k = c := fun c k hk e => (ext_lt hk).trans e
  refine ⟨hs.below h0 h.old h.below, fun k hk => hc 0 k (Nat.lt_of_lt_of_le hk h.below.size) (h.old k hk), (hs.block gx (lt_of_block h.box) (by rw [h.cgx]; exact h0)).trans h.box, hc 0 _ (lt_of_block h.box) h.cgx, hc 1 _ (lt_of_block h.tbl) h.ctb, hc 5 _ h.gml h.cgm, hc, fun h1 => hs.block tb (lt_of_block h.tbl) (by rw [h.ctb]; exact h1), fun h5 => h.map.keep (hs.block gm h.gml (by rw [h.cgm]; exact h5))⟩
theorem own_new {cls : Nat → Nat} {c : Nat} {v v' : Value} {e size k : Nat} {xs : List Value} (hc : ∀ g, v.ownBlock = some g → cls g = c) (hv : ∀ g, v.ownBlock = some g → g < V.heap.size) (hown : V'.ownsRow 0 e size v' k xs) (hw : v'.ownBlock = v.ownBlock ∨ v'.ownBlock = some V.heap.size) :
    OwnC V' (ext cls V.heap.size c) c e size v' k xs := by
  refine ⟨hown, fun g hg => ?_⟩
  rcases hw with e1 | e1
  · rw [e1] at hg
    rw [ext_lt (hv g hg)]
    exact hc g hg
  · rw [e1] at hg
    injection hg with hg
    subst hg
    exact ext_ge (Nat.le_refl _)
theorem infoE3 : (Tryd.prog.info? 63).map (fun i => (i.zero, i.size, i.bytes)) = some (some (.agg (eC (List.replicate 24 0))), 24, 24) := by kernel_rfl
theorem infoSl : (Tryd.prog.info? 23).map (fun i => (i.zero, i.size, i.bytes)) = some (some (.slice none 0 0), 1, 24) := by kernel_rfl
/-- list = append(list, e). -/
theorem TS.elem_run (h : TS w n gx tb gm Em El W N row vl vr vw vn V) {e : List Int} (he : e.length = 24) {pe : Nat} (hp : V.heap[pe]? = some (.cells (eC e) 63 (0, 0))) (hl : El.length < 1000) :
    ∃ v' V', (Builtin.append_ #[65, 65] 65 #[vl, .slice (some ⟨pe, 0, none⟩) 1 1]).run Tryd.prog V = .ok v' V' ∧ TS w n gx tb gm Em (El ++ [e]) W N row v' vr vw vn V' ∧ ∀ k, k < V.heap.size → vl.ownBlock ≠ some k → V'.heap[k]? = V.heap[k]? := by
  obtain ⟨cls, h⟩ := h
  have hnews : ∀ j u, (eC e).toList[j]? = some u → V.cell? ((⟨pe, 0, none⟩ : Addr).add j) = some u := by
    intro j u hj
    have hadd : (⟨pe, 0, none⟩ : Addr).add j = ⟨pe, 0 + j, none⟩ := by unfold Addr.add; split <;> simp_all
    rw [hadd, cells_at hp, Nat.zero_add]
    simpa using hj
  obtain ⟨v', V', hr, h2, h3, h4⟩ := run_appW (z := .agg (eC (List.replicate 24 0))) (t := 65) (by kernel_rfl) infoE3 (by simp [Value.cells, eC_size]) (by omega) h.els.1 ⟨pe, 0, none⟩ 1 1 (eC e).toList (by simp [eC_size, he]) hnews (eC_one e) (by omega) (by omega) (by omega)
  refine ⟨v', V', hr, ?_, fun k hk hne => h3.block k hk (fun e => hne e.symm)⟩
  have hs : St (· == 4) cls V V' := St.app h.els.2 h3
  obtain ⟨t1, t2, t3, t4, t5, t6, hc, t8, t9⟩ := h.turn hs rfl 4
  have hlt : ∀ g, vl.ownBlock = some g → g < V.heap.size := fun g hg => (h.els.1.lt g hg).2
  refine ⟨_, t1, t2, t3, t4, (t8 rfl).trans h.tbl, t5, h.wds.keep hs rfl rfl (hc 2) (hc 0), h.nxt.keep hs rfl rfl (hc 3) (hc 0), t9 rfl, t6, ?_, h.rows.keep hs rfl (hc 6), h.tbw⟩
  refine own_new h.els.2 hlt ?_ h4
  rw [List.length_append, List.flatMap_append]
  simpa using h2
/-- t.index[e] = n. -/
theorem TS.map_run (h : TS w n gx tb gm Em El W N row vl vr vw vn V) {e : List Int} (he : okE e) (hp : ¬ posE e Em < Em.length) (hl : Em.length < 1000) :
    ∃ V', (Instr.mapUpdate 56 (.map (some gm)) (.agg (eC e)) (.int .i64 (Em.length : Int))).run Tryd.prog V = .ok () V' ∧ TS w n gx tb gm (Em ++ [e]) El W N row vl vr vw vn V' ∧ ∀ k, k < V.heap.size → k ≠ gm → V'.heap[k]? = V.heap[k]? := by
  obtain ⟨cls, h⟩ := h
  obtain ⟨V', hr, h2, h3⟩ := h.map.put he hp (by unfold maxLen; omega) (by omega)
  have hs : St (· == 5) cls V V' := ⟨h3.os, h3.tape, h3.output, h3.size, fun k hk hpk => h3.block k hk (fun e => by injection e with e; subst e; rw [h.cgm] at hpk; simp at hpk)⟩
  obtain ⟨t1, t2, t3, t4, t5, t6, hc, t8, t9⟩ := h.turn hs rfl 0
  exact ⟨V', hr, ⟨_, t1, t2, t3, t4, (t8 rfl).trans h.tbl, t5, h.wds.keep hs rfl rfl (hc 2) (hc 0), h.nxt.keep hs rfl rfl (hc 3) (hc 0), by rw [List.length_append]; exact h2, t6, h.els.keep hs rfl (hc 4), h.rows.keep hs rfl (hc 6), h.tbw⟩,
    fun k hk hne => h3.block k hk (fun e => hne (Option.some.inj e))⟩
/-- row = append(row, u). -/
theorem TS.row_run (h : TS w n gx tb gm Em El W N row vl vr vw vn V) {u pe : Nat} (hp : V.heap[pe]? = some (.cells #[.int .i64 (u : Int)] 3 (0, 0))) (hl : row.length < 1000) :
    ∃ v' V', (Builtin.append_ #[23, 23] 23 #[vr, .slice (some ⟨pe, 0, none⟩) 1 1]).run Tryd.prog V = .ok v' V' ∧ TS w n gx tb gm Em El W N (row ++ [u]) vl v' vw vn V' := by
  obtain ⟨cls, h⟩ := h
  have hnews : ∀ j x, [Value.int .i64 (u : Int)][j]? = some x → V.cell? ((⟨pe, 0, none⟩ : Addr).add j) = some x := by
    intro j x hj
    cases j with
    | zero => simp at hj; subst hj; exact one_atB hp
    | succ j => simp at hj
  obtain ⟨v', V', hr, h2, h3, h4⟩ := run_appW (z := .int .i64 0) (t := 23) Tryd.underlying23 infoInt rfl (by omega) h.rows.1 ⟨pe, 0, none⟩ 1 1 [.int .i64 (u : Int)] rfl hnews (by simp [Value.oneCell']) (by omega) (by omega) (by omega)
  refine ⟨v', V', hr, ?_⟩
  have hs : St (· == 6) cls V V' := St.app h.rows.2 h3
  obtain ⟨t1, t2, t3, t4, t5, t6, hc, t8, t9⟩ := h.turn hs rfl 6
  have hlt : ∀ g, vr.ownBlock = some g → g < V.heap.size := fun g hg => (h.rows.1.lt g hg).2
  refine ⟨_, t1, t2, t3, t4, (t8 rfl).trans h.tbl, t5, h.wds.keep hs rfl rfl (hc 2) (hc 0), h.nxt.keep hs rfl rfl (hc 3) (hc 0), t9 rfl, t6, h.els.keep hs rfl (hc 4), ?_, h.tbw⟩
  refine own_new h.rows.2 hlt ?_ h4
  have e1 : vals (row ++ [u]) = vals row ++ [Value.int .i64 (u : Int)] := by unfold vals; rw [ints_app]; simp [ints]
  rw [e1, List.length_append]
  exact h2
/-- t.words = append(t.words, x), the word x being new. -/
theorem TS.word_run (h : TS w n gx tb gm Em El W N row vl vr vw vn V) {V1 : World} (hb : Below V.heap.size V V1) {b oo m cp : Nat} {x : List Nat} (hbb : V.heap.size ≤ b) (hx : Sl V1 (some ⟨b, oo, none⟩) m cp (ints x)) {pe : Nat} (hp : V1.heap[pe]? = some (.cells #[.slice (some ⟨b, oo, none⟩) m cp] 23 (0, 0))) (hl : W.length < 1000) :
    ∃ v' V', (Builtin.append_ #[29, 29] 29 #[vw, .slice (some ⟨pe, 0, none⟩) 1 1]).run Tryd.prog V1 = .ok v' V' ∧ V'.heap[tb]? = V.heap[tb]? ∧ (∃ a k c, v' = .slice a k c) ∧ TS w n gx tb gm Em El (W ++ [x]) N row vl vr v' vn (V'.setCell ⟨tb, 2, none⟩ v') := by
  obtain ⟨cls0, h0⟩ := h
  have h := h0.fresh hb
  have hcb : ext cls0 V.heap.size 0 b = 0 := ext_ge hbb
  generalize ext cls0 V.heap.size 0 = cls at h hcb
  have htb0 := persist h0.tbl hb
  obtain ⟨Es, hE, hM⟩ := h.wds
  have hnews : ∀ j u, [Value.slice (some ⟨b, oo, none⟩) m cp][j]? = some u → V1.cell? ((⟨pe, 0, none⟩ : Addr).add j) = some u := by
    intro j u hj
    cases j with
    | zero => simp at hj; subst hj; exact one_atB hp
    | succ j => simp at hj
  obtain ⟨v', V', hr, h2, h3, h4⟩ := run_appW (z := .slice none 0 0) (t := 29) (by kernel_rfl) infoSl rfl (by omega) hE.1 ⟨pe, 0, none⟩ 1 1 [.slice (some ⟨b, oo, none⟩) m cp] rfl hnews (by simp [Value.oneCell']) (by omega) (by omega) (by omega)
  have hs1 : St (· == 2) cls V1 V' := St.app hE.2 h3
  have htb : V'.heap[tb]? = V1.heap[tb]? := hs1.block tb (lt_of_block h.tbl) (by rw [h.ctb]; rfl)
  have hs : St (fun c => c == 2 || c == 1) cls V1 (V'.setCell ⟨tb, 2, none⟩ v') := (hs1.weak (fun c hc => by simp at hc ⊢; exact hc.1)).set tb 2 v' (by rw [h.ctb]; rfl)
  obtain ⟨t1, t2, t3, t4, t5, t6, hc, t8, t9⟩ := h.turn hs rfl 2
  refine ⟨v', V', hr, htb.trans (htb0.trans h0.tbl.symm), own_slice h2 |>.imp fun a ⟨c, e⟩ => ⟨_, c, e⟩, ?_⟩
  have hlt : ∀ g, vw.ownBlock = some g → g < V1.heap.size := fun g hg => (hE.1.lt g hg).2
  have hown : OwnC (V'.setCell ⟨tb, 2, none⟩ v') (ext cls V1.heap.size 2) 2 23 1 v' (W.length + 1) (Es ++ [.slice (some ⟨b, oo, none⟩) m cp]) := by
    have h5 := own_new (V := V1) hE.2 hlt h2 h4
    refine h5.keep (p := (· == 1)) (cls' := ext cls V1.heap.size 2) ((St.of_below (Below.refl _ V')).set tb 2 v' (by rw [t5]; rfl)) rfl (fun k _ e => e)
  refine ⟨_, t1, t2, t3, t4, ?_, t5, ?_, h.nxt.keep hs rfl rfl (hc 3) (hc 0), t9 rfl, t6, h.els.keep hs rfl (hc 4), h.rows.keep hs rfl (hc 6), h.tbw⟩
  · have := set_at (htb.trans h.tbl) 2 v'
    rw [this]
    rfl
  · refine ⟨_, by rw [List.length_append]; exact hown, fun i hi => ?_⟩
    rw [List.length_append] at hi
    have hi' : i < W.length + 1 := hi
    rw [wdW_snoc W x i hi']
    have hEl : Es.length = W.length := by have := hE.1.1; omega
    by_cases hil : i < W.length
    · obtain ⟨a, m', cp', e1, e2, e3⟩ := hM i hil
      rw [if_pos hil]
      refine ⟨a, m', cp', by rw [List.getElem?_append_left (by omega)]; exact e1, e2.keepC hs rfl e3, fun hm bb o' e => ?_⟩
      obtain ⟨b', o'', e', hb', _⟩ := e2.at hm
      rw [e'] at e
      simp only [Option.some.injEq, Addr.mk.injEq, and_true] at e
      obtain ⟨rfl, rfl⟩ := e
      exact hc 0 _ hb' (e3 hm _ _ e')
    · rw [if_neg hil]
      refine ⟨some ⟨b, oo, none⟩, m, cp, by rw [List.getElem?_append_right (by omega), show i - Es.length = 0 by omega]; rfl, hx.keepC hs rfl (fun hm bb o' e => by simp at e; rw [← e.1]; exact hcb), fun hm bb o' e => ?_⟩
      simp at e
      obtain ⟨b', o'', e', hb', _⟩ := hx.at hm
      simp at e'
      rw [← e.1]
      exact hc 0 _ (by rw [e'.1]; exact hb') hcb
/-- t.next = append(t.next, row): the row is done. -/
theorem TS.next_run (h : TS w n gx tb gm Em El W N row vl vr vw vn V) {pe : Nat} (hp : V.heap[pe]? = some (.cells #[vr] 23 (0, 0))) (hl : N.length < 1000) :
    ∃ v' V', (Builtin.append_ #[29, 29] 29 #[vn, .slice (some ⟨pe, 0, none⟩) 1 1]).run Tryd.prog V = .ok v' V' ∧ V'.heap[tb]? = V.heap[tb]? ∧ (∃ a k c, v' = .slice a k c) ∧ TS w n gx tb gm Em El W (N ++ [row]) [] vl (.slice none 0 0) vw v' (V'.setCell ⟨tb, 3, none⟩ v') := by
  obtain ⟨cls0, h0⟩ := h
  -- the row's blocks are done
  have hd : ∃ cls, TSc w n gx tb gm cls Em El W N [] vl (.slice none 0 0) vw vn V ∧ ∀ g, vr.ownBlock = some g → cls g = 0 := by
    have hc : ∀ c, c ≠ 6 → ∀ k, k < V.heap.size → cls0 k = c → (fun k => if cls0 k = 6 then 0 else cls0 k) k = c := fun c hc k _ e => by show (if cls0 k = 6 then 0 else cls0 k) = c; rw [if_neg (by omega)]; exact e
    have hs : St (fun _ => false) cls0 V V := St.of_below (Below.refl _ V)
    refine ⟨fun k => if cls0 k = 6 then 0 else cls0 k, ⟨h0.below, fun k hk => hc 0 (by omega) k (Nat.lt_of_lt_of_le hk h0.below.size) (h0.old k hk), h0.box, hc 0 (by omega) _ (lt_of_block h0.box) h0.cgx, h0.tbl, hc 1 (by omega) _ (lt_of_block h0.tbl) h0.ctb, h0.wds.keep hs rfl rfl (hc 2 (by omega)) (hc 0 (by omega)), h0.nxt.keep hs rfl rfl (hc 3 (by omega)) (hc 0 (by omega)), h0.map, hc 5 (by omega) _ h0.gml h0.cgm, h0.els.keep hs rfl (hc 4 (by omega)), ⟨World.ownsRow_nil _ _ _ _, fun g hg => by simp [Value.ownBlock] at hg⟩, h0.tbw⟩, fun g hg => ?_⟩
    show (if cls0 g = 6 then 0 else cls0 g) = 0
    rw [if_pos (h0.rows.2 g hg)]
  obtain ⟨cls, h, hcr⟩ := hd
  have hrow := h0.rows.1
  obtain ⟨ra, rc, hre⟩ := own_slice hrow
  have hsl : Sl V ra row.length rc (ints row) := by rw [hre] at hrow; exact own_sl hrow
  rw [hre] at hp hcr
  have hcl : 0 < row.length → ∀ b o, ra = some ⟨b, o, none⟩ → cls b = 0 := fun _ b o e => hcr b (by rw [e]; rfl)
  obtain ⟨Es, hE, hM⟩ := h.nxt
  have hnews : ∀ j u, [Value.slice ra row.length rc][j]? = some u → V.cell? ((⟨pe, 0, none⟩ : Addr).add j) = some u := by
    intro j u hj
    cases j with
    | zero => simp at hj; subst hj; exact one_atB hp
    | succ j => simp at hj
  obtain ⟨v', V', hr, h2, h3, h4⟩ := run_appW (z := .slice none 0 0) (t := 29) (by kernel_rfl) infoSl rfl (by omega) hE.1 ⟨pe, 0, none⟩ 1 1 [.slice ra row.length rc] rfl hnews (by simp [Value.oneCell']) (by omega) (by omega) (by omega)
  have hs1 : St (· == 3) cls V V' := St.app hE.2 h3
  have htb : V'.heap[tb]? = V.heap[tb]? := hs1.block tb (lt_of_block h.tbl) (by rw [h.ctb]; rfl)
  have hs : St (fun c => c == 3 || c == 1) cls V (V'.setCell ⟨tb, 3, none⟩ v') := (hs1.weak (fun c hc => by simp at hc ⊢; exact hc.1)).set tb 3 v' (by rw [h.ctb]; rfl)
  obtain ⟨t1, t2, t3, t4, t5, t6, hc, t8, t9⟩ := h.turn hs rfl 3
  refine ⟨v', V', hr, htb, own_slice h2 |>.imp fun a ⟨c, e⟩ => ⟨_, c, e⟩, ?_⟩
  have hlt : ∀ g, vn.ownBlock = some g → g < V.heap.size := fun g hg => (hE.1.lt g hg).2
  have hown : OwnC (V'.setCell ⟨tb, 3, none⟩ v') (ext cls V.heap.size 3) 3 23 1 v' (N.length + 1) (Es ++ [.slice ra row.length rc]) := by
    have h5 := own_new (V := V) hE.2 hlt h2 h4
    refine h5.keep (p := (· == 1)) (cls' := ext cls V.heap.size 3) ((St.of_below (Below.refl _ V')).set tb 3 v' (by rw [t5]; rfl)) rfl (fun k _ e => e)
  refine ⟨_, t1, t2, t3, t4, ?_, t5, h.wds.keep hs rfl rfl (hc 2) (hc 0), ?_, t9 rfl, t6, h.els.keep hs rfl (hc 4), h.rows.keep hs rfl (hc 6), h.tbw⟩
  · have := set_at (htb.trans h.tbl) 3 v'
    rw [this]
    rfl
  · refine ⟨_, by rw [List.length_append]; exact hown, fun i hi => ?_⟩
    rw [List.length_append] at hi
    have hi' : i < N.length + 1 := hi
    rw [wdW_snoc N row i hi']
    have hEl : Es.length = N.length := by have := hE.1.1; omega
    by_cases hil : i < N.length
    · obtain ⟨a, m', cp', e1, e2, e3⟩ := hM i hil
      rw [if_pos hil]
      refine ⟨a, m', cp', by rw [List.getElem?_append_left (by omega)]; exact e1, e2.keepC hs rfl e3, fun hm bb o' e => ?_⟩
      obtain ⟨b', o'', e', hb', _⟩ := e2.at hm
      rw [e'] at e
      simp only [Option.some.injEq, Addr.mk.injEq, and_true] at e
      obtain ⟨rfl, rfl⟩ := e
      exact hc 0 _ hb' (e3 hm _ _ e')
    · rw [if_neg hil]
      refine ⟨ra, row.length, rc, by rw [List.getElem?_append_right (by omega), show i - Es.length = 0 by omega]; rfl, hsl.keepC hs rfl hcl, fun hm bb o' e => ?_⟩
      obtain ⟨b', o'', e', hb', _⟩ := hsl.at hm
      have e2 := e
      rw [e'] at e2
      simp only [Option.some.injEq, Addr.mk.injEq, and_true] at e2
      obtain ⟨rfl, rfl⟩ := e2
      exact hc 0 _ hb' (hcl hm _ _ e)
end
end Go.Proofs.YtiapngmallfelaaDoor
