
/- mirror: elements: one, mirror, then. -/
import Derived.Test.YtiapngmallfelaaDoorEc
import Derived.Laws.Rows
import Derived.Laws.CopyRow
import Derived.BigRegion
namespace Go.Proofs.YtiapngmallfelaaDoor
open Go.RowKit
set_option linter.unusedSimpArgs false
/-! ### whole elements in memory -/
def eC (E : List Int) : Array Value := (E.map (Value.int .i8)).toArray
theorem eC_size (E : List Int) : (eC E).size = E.length := by simp [eC]
theorem eC_at {E : List Int} {i : Nat} (h : i < E.length) : (eC E)[i]? = some (.int .i8 (nth E i)) := by
  simp [eC, nth, h]
theorem eC_set (E : List Int) (i : Nat) (x : Int) : (eC E).setIfInBounds i (.int .i8 x) = eC (E.set i x) := by
  simp [eC, List.map_set]
theorem eC_one (E : List Int) : ∀ v ∈ (eC E).toList, v.oneCell' = true := by
  intro v hv
  simp only [eC, List.mem_map] at hv
  obtain ⟨x, _, rfl⟩ := hv
  rfl
theorem eC_inj {E F : List Int} (h : eC E = eC F) : E = F := by
  unfold eC at h
  have h2 := List.map_inj_right (f := Value.int .i8) (fun a b e => by injection e) |>.1 (congrArg Array.toList h)
  exact h2
theorem undE : Tryd.prog.underlying 63 = some (.array 24 61) := by kernel_rfl
theorem infoE : (Tryd.prog.info? 63).map (·.size) = some 24 := by kernel_rfl
theorem run_storeE (w : World) (g : Nat) (cur : Array Value) (E : List Int) (hg : w.heap[g]? = some (.cells cur 63 (0, 0))) (hc : cur.size = 24) (hE : E.length = 24) :
    (storeVar 63 ⟨g, 0, none⟩ (.agg (eC E))).run Tryd.prog w = .ok () (w.setRow g (eC E)) := by
  have hst := run_storeCells_at Tryd.prog g 0 63 (eC E).toList 0 cur w hg (by simp [eC_size]; omega) (eC_one E)
  have hl : (eC E).toList.length = 24 := by rw [Array.length_toList, eC_size]; exact hE
  have hres : (cur.toList.take (0 + 0) ++ (eC E).toList ++ cur.toList.drop (0 + 0 + (eC E).toList.length)).toArray = eC E := by
    rw [hl, List.drop_of_length_le (by simp [hc])]
    simp
  rw [hres] at hst
  cases hq : Tryd.prog.info? 63 with
  | none => have := infoE; rw [hq] at this; cases this
  | some i =>
    have hs : i.size = 24 := by have := infoE; rw [hq] at this; simpa using this
    simp [storeVar, sizeOf, typeInfo, hq, hs, Value.cells, eC_size, hE, Sem.run_bind, hst]
theorem wp_storeE {o : Oper} {a : Act} {w : World} {K : Act → World → Prop} {Q : Exit → Act → World → Prop} (x v : Operand) (ho : o.op = .store 63 x v) (g : Nat) (cur : Array Value) (E : List Int)
    (hx : a.eval x = .pointer (some ⟨g, 0, none⟩)) (hv : a.eval v = .agg (eC E)) (hg : w.heap[g]? = some (.cells cur 63 (0, 0))) (hc : cur.size = 24) (hE : E.length = 24)
    (h : K (a.put o.dst undef) (w.setRow g (eC E))) : o.wp Tryd.prog a w K Q := by
  unfold Oper.wp execOp
  simp only [ho, hx, hv, Instr.storeAt, Instr.sureAddr, Sem.run_bind, Sem.run_pure, Result.andThen_ok, run_storeE w g cur E hg hc hE]
  exact h
theorem wpList_storeE {ops : Array Oper} {rest : List Oper} {o : Oper} {a : Act} {w : World} {Q : Exit → Act → World → Prop} (hgd : o.guard = none) (x v : Operand) (ho : o.op = .store 63 x v) (g : Nat) (cur : Array Value) (E : List Int)
    (hx : a.eval x = .pointer (some ⟨g, 0, none⟩)) (hv : a.eval v = .agg (eC E)) (hg : w.heap[g]? = some (.cells cur 63 (0, 0))) (hc : cur.size = 24) (hE : E.length = 24)
    (h : wpList Tryd.prog ops Q rest (a.put o.dst undef) (w.setRow g (eC E))) : wpList Tryd.prog ops Q (o :: rest) a w :=
  wpList_plain hgd fun _ hK => wp_storeE x v ho g cur E hx hv hg hc hE (hK _ _ h)
theorem wpList_loadE {ops : Array Oper} {rest : List Oper} {o : Oper} {a : Act} {w : World} {Q : Exit → Act → World → Prop} (hgd : o.guard = none) (x : Operand) (ho : o.op = .load 63 x) (g : Nat) (E : List Int)
    (hx : a.eval x = .pointer (some ⟨g, 0, none⟩)) (hg : w.heap[g]? = some (.cells (eC E) 63 (0, 0))) (hE : E.length = 24)
    (h : wpList Tryd.prog ops Q rest (a.put o.dst (.agg (eC E))) w) : wpList Tryd.prog ops Q (o :: rest) a w :=
  wpList_load_row hgd _ x ho g hx _ (eC E) (0, 0) _ hg undE rfl (by rw [infoE, eC_size, hE]) h
theorem results_E {fn : Func} {p : Tmp} (h : fn.results = #[.cell p 63]) (tmps : Array Value) (w : World) (g : Nat) (E : List Int)
    (hp : tmps.getD p undef = .pointer (some ⟨g, 0, none⟩)) (hg : w.heap[g]? = some (.cells (eC E) 63 (0, 0))) (hE : E.length = 24) : (results fn tmps).run Tryd.prog w = .ok (.agg (eC E)) w :=
  results_cell_row h tmps w g _ (eC E) (0, 0) _ hp hg undE rfl (by rw [infoE, eC_size, hE])
/-- Nothing but block B has turned. -/
structure Oth (B : Nat) (U V : World) : Prop where
  os : V.os = U.os
  tape : V.tape = U.tape
  output : V.output = U.output
  size : V.heap.size = U.heap.size
  block : ∀ x, x ≠ B → V.heap[x]? = U.heap[x]?
theorem Oth.refl (B : Nat) (U : World) : Oth B U U := ⟨rfl, rfl, rfl, rfl, fun _ _ => rfl⟩
theorem Oth.set {B : Nat} {U V : World} (h : Oth B U V) (i : Nat) (v : Value) : Oth B U (V.setCell ⟨B, i, none⟩ v) :=
  ⟨h.os, h.tape, h.output, (World.size_setCell _ _ _).trans h.size, fun x hx => (Below.heap_setCell _ _ _ x hx).trans (h.block x hx)⟩
theorem Oth.setRow {B : Nat} {U V : World} (h : Oth B U V) (cs : Array Value) : Oth B U (V.setRow B cs) :=
  ⟨h.os, h.tape, h.output, (by simp [World.setRow, h.size]), fun x hx => (setRow_other V B x cs hx).trans (h.block x hx)⟩
theorem Oth.drew {B : Nat} {U V : World} (h : Oth B U V) : Oth B U V.drew := ⟨h.os, h.tape, h.output, h.size, h.block⟩
theorem Oth.below {base B : Nat} {w U V : World} (h : Oth B U V) (hb : Below base w U) (hB : base ≤ B) : Below base w V :=
  ⟨h.os.trans hb.os, h.tape.trans hb.tape, h.output.trans hb.output, by rw [h.size]; exact hb.size, fun x hx => (h.block x (by omega)).trans (hb.block x hx)⟩
theorem wrap8 (x : Int) (h1 : -128 ≤ x) (h2 : x < 128) : IntKind.i8.wrap x = x := by
  have h : ((List.range 256).all fun i => IntKind.i8.wrap ((i : Int) - 128) == (i : Int) - 128) = true := by kernel_rfl
  have h3 := List.all_eq_true.1 h (x + 128).toNat (List.mem_range.2 (by omega))
  rw [beq_iff_eq] at h3
  have e : (((x + 128).toNat : Nat) : Int) - 128 = x := by omega
  rwa [e] at h3
theorem brow {base : Nat} {w V : World} (h : Below base w V) {g : Nat} (hg : base ≤ g) (cs : Array Value) : Below base w (V.setRow g cs) :=
  (Oth.setRow (Oth.refl g V) cs).below h hg
/-! ### filling an element -/
def fillL (T : List Int) (k : Nat) : List Int := T.take k ++ List.replicate (24 - k) 0
theorem fillL_len {T : List Int} (h : T.length = 24) {k : Nat} (hk : k ≤ 24) : (fillL T k).length = 24 := by simp [fillL, h]; omega
theorem fillL_zero (T : List Int) : fillL T 0 = List.replicate 24 0 := by simp [fillL]
theorem fillL_all {T : List Int} (h : T.length = 24) : fillL T 24 = T := by
  unfold fillL
  rw [List.take_of_length_le (by omega)]
  simp
theorem fillL_set {T : List Int} (h : T.length = 24) {k : Nat} (hk : k < 24) : (fillL T k).set k (nth T k) = fillL T (k + 1) := by
  have e1 : 24 - k = (24 - (k + 1)) + 1 := by omega
  have hl : (T.take k).length = k := by simp; omega
  have e2 : T.take (k + 1) = T.take k ++ [nth T k] := by rw [List.take_succ_eq_append_getElem (by omega : k < T.length), nth_of_lt (by omega)]
  unfold fillL
  rw [e2, e1, List.replicate_succ, List.set_append_right _ _ (by omega), hl, Nat.sub_self, List.set_cons_zero]
  simp
theorem fillL_at {T : List Int} (h : T.length = 24) {k i : Nat} (hk : k ≤ 24) (hi : i < 24) : (eC (fillL T k))[i]? = some (.int .i8 (nth (fillL T k) i)) := eC_at (by rw [fillL_len h hk]; exact hi)
theorem zeroE : eC (List.replicate 24 0) = #[Value.int .i8 0, .int .i8 0, .int .i8 0, .int .i8 0, .int .i8 0, .int .i8 0, .int .i8 0, .int .i8 0, .int .i8 0, .int .i8 0, .int .i8 0, .int .i8 0, .int .i8 0, .int .i8 0, .int .i8 0, .int .i8 0, .int .i8 0, .int .i8 0, .int .i8 0, .int .i8 0, .int .i8 0, .int .i8 0, .int .i8 0, .int .i8 0] := by kernel_rfl
def oneL : List Int := ints ((List.range 24).map (· + 1))
theorem oneL_len : oneL.length = 24 := by decide
theorem oneL_at {k : Nat} (h : k < 24) : nth oneL k = (k : Int) + 1 := by
  unfold oneL
  rw [nth_ints, gn, List.getD_eq_getElem?_getD, List.getElem?_map, List.getElem?_range h]
  rfl
def gv (n : Nat) : Value := .agg #[.int .u8 65, .int .i64 (n : Int)]
set_option maxHeartbeats 1000000 in
theorem one_go (w : World) (n : Nat) : Calls Tryd.prog 35 #[.agg #[.int .u8 65, .int .i64 (n : Int)]] w fun e w' => e = .returned (.agg (eC oneL)) ∧ Below w.heap.size w w' := by
  obtain ⟨U, hU⟩ : ∃ U, ((w.alloc (.cells #[.int .u8 65, .int .i64 (n : Int)] 28)).alloc (.cells (eC (List.replicate 24 0)) 63)).alloc (.cells (eC (List.replicate 24 0)) 63) = U := ⟨_, rfl⟩
  have hb : Below w.heap.size w U := by rw [← hU]; exact bal (bal (bal (Below.refl _ _) _) _) _
  have hs : U.heap.size = w.heap.size + 3 := by rw [← hU]; simp
  have u1 : U.heap[w.heap.size + 1]? = some (.cells (eC (List.replicate 24 0)) 63 (0, 0)) := by
    rw [← hU, Below.heap_alloc _ _ _ (by simp)]
    have := new_at (w.alloc (.cells #[.int .u8 65, .int .i64 (n : Int)] 28)) (.cells (eC (List.replicate 24 0)) 63)
    rwa [World.size_alloc] at this
  have u2 : U.heap[w.heap.size + 1 + 1]? = some (.cells (eC (fillL oneL 0)) 63 (0, 0)) := by
    rw [← hU, fillL_zero]
    have := new_at ((w.alloc (.cells #[.int .u8 65, .int .i64 (n : Int)] 28)).alloc (.cells (eC (List.replicate 24 0)) 63)) (.cells (eC (List.replicate 24 0)) 63)
    rwa [World.size_alloc, World.size_alloc] at this
  rw [zeroE] at hU
  have HU := Lib.hid hU
  have HB := Lib.hid hb
  have HS := Lib.hid hs
  have H1 := Lib.hid u1
  have H2 := Lib.hid u2
  clear hU hb hs u1 u2
  go_enter Tryd.func35, Tryd.ntmps35
  go_wp2
  rw [HU.out]
  clear HU
  go_loopw [5] (fun t wr => ∃ k : Nat, k ≤ 24 ∧ t = .int .i64 k ∧ Hid (wr.heap[w.heap.size + 1 + 1]? = some (.cells (eC (fillL oneL k)) 63 (0, 0))) ∧ Hid (Oth (w.heap.size + 1 + 1) U wr)) (fun t _ => 24 - (intOf t).toNat)
  case atStart => exact ⟨0, by omega, rfl, H2, Lib.hid (Oth.refl _ _)⟩
  case round =>
    obtain ⟨k, hk, rfl, HR, HO⟩ := hrel
    by_cases hlk : k < 24
    · have c1 : wr.cell? ⟨w.heap.size + 1 + 1, k, none⟩ = some (.int .i8 (nth (fillL oneL k) k)) := by rw [cells_at HR.out]; exact fillL_at oneL_len (by omega) hlk
      have f1 := free_at HR.out k
      have z1 := lt_of_block HR.out
      have hx := oneL_at hlk
      have k8 : IntKind.i8.wrap ((k : Int) + 1) = (k : Int) + 1 := by exact wrap8 _ (by omega) (by omega)
      have HR2 := Lib.hid (show (wr.setCell ⟨w.heap.size + 1 + 1, k, none⟩ (.int .i8 ((k : Int) + 1))).heap[w.heap.size + 1 + 1]? = some (.cells (eC (fillL oneL (k + 1))) 63 (0, 0)) by
        rw [set_at HR.out, eC_set, ← hx, fillL_set oneL_len hlk])
      have HO2 := Lib.hid (HO.out.set k (.int .i8 ((k : Int) + 1)))
      clear hx
      go_wp2
      go_roundw
      case rel => exact ⟨k + 1, by omega, by go_num, HR2, HO2⟩
      case measure => simp [intOf]; omega
    · obtain rfl : k = 24 := by omega
      have h3 := HR.out
      rw [fillL_all oneL_len] at h3
      have h4 : wr.heap[w.heap.size + 1]? = _ := (HO.out.block (w.heap.size + 1) (by omega)).trans H1.out
      have H3 := Lib.hid h3
      have H4 := Lib.hid h4
      have HBE := Lib.hid (HO.out.below HB.out (by omega))
      clear h3 h4
      go_wp2_with (first | (refine wpList_loadE rfl _ rfl _ oneL (by go_simp) H3.out oneL_len ?_) | (refine wpList_storeE rfl _ _ rfl _ _ oneL (by go_simp) (by go_simp) H4.out (by rw [eC_size]; rfl) oneL_len ?_))
      exact bodyPost_ret (results_E rfl _ _ _ oneL (by go_simp) (setRow_heap _ _ _ _ _ _ H4.out) oneL_len) rfl ⟨rfl, brow HBE.out (by omega) _⟩
/-! ### mirrors; the mirror s -/
set_option maxHeartbeats 1000000 in
theorem mirrors_go (w : World) (n : Nat) (h1 : 1 ≤ n) (h4 : n ≤ 4) : Calls Tryd.prog 23 #[.agg #[.int .u8 65, .int .i64 (n : Int)]] w fun e w' => e = .returned (.int .i64 (n : Int)) ∧ Below w.heap.size w w' := by
  go_enter Tryd.func23, Tryd.ntmps23
  go_wp2
  go_ret
  exact ⟨rfl, bal (Below.refl _ _) _⟩
def mirL (s : Nat) : List Int := (oneL.set s ((s : Int) + 2)).set (s + 1) ((s : Int) + 1)
theorem mirL_len (s : Nat) : (mirL s).length = 24 := by simp [mirL, oneL_len]
set_option maxHeartbeats 2000000 in
theorem mirror_go (w : World) (n s : Nat) (hs : s < n) (h4 : n ≤ 4) : Calls Tryd.prog 37 #[.agg #[.int .u8 65, .int .i64 (n : Int)], .int .i64 (s : Int)] w fun e w' => e = .returned (.agg (eC (mirL s))) ∧ Below w.heap.size w w' := by
  obtain ⟨U, hU⟩ : ∃ U, (w.alloc (.cells #[.int .u8 65, .int .i64 (n : Int)] 28)).alloc (.cells (eC (List.replicate 24 0)) 63) = U := ⟨_, rfl⟩
  have hb : Below w.heap.size w U := by rw [← hU]; exact bal (bal (Below.refl _ _) _) _
  have hs0 : U.heap.size = w.heap.size + 2 := by rw [← hU]; simp
  have u0 : U.heap[w.heap.size]? = some (.cells #[.int .u8 65, .int .i64 (n : Int)] 28 (0, 0)) := by
    rw [← hU, Below.heap_alloc _ _ _ (by simp)]
    exact new_at w _
  have u1 : U.heap[w.heap.size + 1]? = some (.cells (eC (List.replicate 24 0)) 63 (0, 0)) := by
    rw [← hU]
    have := new_at (w.alloc (.cells #[.int .u8 65, .int .i64 (n : Int)] 28)) (.cells (eC (List.replicate 24 0)) 63)
    rwa [World.size_alloc] at this
  have c0 : U.cell? ⟨w.heap.size, 0, none⟩ = some (.int .u8 65) := by rw [cells_at u0]; rfl
  have c1 : U.cell? ⟨w.heap.size, 1, none⟩ = some (.int .i64 (n : Int)) := by rw [cells_at u0]; rfl
  have HO := Lib.hid (one_go U n)
  rw [zeroE] at hU
  have HU := Lib.hid hU
  have HB := Lib.hid hb
  have HS := Lib.hid hs0
  have H0 := Lib.hid u0
  have H1 := Lib.hid u1
  clear hU hb hs0 u0 u1
  go_enter Tryd.func37, Tryd.ntmps37
  go_wp2_with fail
  rw [HU.out]
  clear HU
  refine HO.out.mono ?_
  rintro e V ⟨rfl, hbv⟩
  have hUV := Lib.hid hbv.size
  have c0 := (bcell hbv).1 _ 0 (lt_of_block H0.out) |>.trans c0
  have c1 := (bcell hbv).1 _ 1 (lt_of_block H0.out) |>.trans c1
  have z0 := lt_of_block (persist H0.out hbv)
  have hz : (V.alloc (.cells (eC (List.replicate 24 0)) 63)).heap[V.heap.size]? = some (.cells (eC (List.replicate 24 0)) 63 (0, 0)) := new_at V _
  rw [zeroE] at hz
  have HZ := Lib.hid hz
  have HBV := Lib.hid (btr HB.out hbv)
  have H1V := Lib.hid (persist H1.out hbv)
  clear hz hbv
  obtain ⟨V2, hV2⟩ : ∃ V2, (V.alloc (.cells (eC (List.replicate 24 0)) 63)).setRow V.heap.size (eC oneL) = V2 := ⟨_, rfl⟩
  have hb2 : Below V.heap.size V V2 := by rw [← hV2]; exact brow (bal (Below.refl _ _) _) (Nat.le_refl _) _
  have r2 : V2.heap[V.heap.size]? = some (.cells (eC oneL) 63 (0, 0)) := by rw [← hV2]; exact setRow_heap _ _ _ _ _ _ (new_at V _)
  have c0 := ((bcell hb2).1 _ 0 z0).trans c0
  have c1 := ((bcell hb2).1 _ 1 z0).trans c1
  have hs24 : s + 1 < 24 := by omega
  have ca : V2.cell? ⟨V.heap.size, s, none⟩ = some (.int .i8 ((s : Int) + 1)) := by rw [cells_at r2, eC_at (by rw [oneL_len]; omega), oneL_at (by omega)]
  have cb : V2.cell? ⟨V.heap.size, s + 1, none⟩ = some (.int .i8 ((s : Int) + 2)) := by rw [cells_at r2, eC_at (by rw [oneL_len]; omega), oneL_at (by omega)]; simp; omega
  have fa := free_at r2 s
  have fb := free_at r2 (s + 1)
  rw [zeroE] at hV2
  have HV2 := Lib.hid hV2
  have HB2 := Lib.hid (btr HBV.out hb2)
  have HR2 := Lib.hid r2
  have H12 := Lib.hid (persist H1V.out hb2)
  have kw : IntKind.i64.wrap ((s : Int) + 1) = (s : Int) + 1 := wrap_i64j _ (by omega) (by omega)
  have kn : ((s : Int) + 1).toNat = s + 1 := by omega
  clear hV2 hb2 r2
  go_wp2_with (refine wpList_storeE rfl _ _ rfl V.heap.size _ oneL (by go_simp) (by go_simp) HZ.out rfl oneL_len ?_; rw [HV2.out])
  clear HZ HV2
  go_region
  obtain ⟨V3, hV3⟩ : ∃ V3, ((V2.setCell ⟨V.heap.size, s, none⟩ (.int .i8 ((s : Int) + 2))).setCell ⟨V.heap.size, s + 1, none⟩ (.int .i8 ((s : Int) + 1))).drew = V3 := ⟨_, rfl⟩
  have r3 : V3.heap[V.heap.size]? = some (.cells (eC (mirL s)) 63 (0, 0)) := by
    rw [← hV3]
    refine (set_at (set_at HR2.out s (.int .i8 ((s : Int) + 2))) (s + 1) (.int .i8 ((s : Int) + 1))).trans ?_
    rw [eC_set, eC_set]
    rfl
  have r1 : V3.heap[w.heap.size + 1]? = some (.cells (eC (List.replicate 24 0)) 63 (0, 0)) := by
    have hz := HS.out
    have hv : U.heap.size ≤ V.heap.size := hUV.out
    rw [← hV3]
    exact ((Below.heap_setCell _ _ _ _ (by show w.heap.size + 1 ≠ V.heap.size; omega)).trans (Below.heap_setCell _ _ _ _ (by show w.heap.size + 1 ≠ V.heap.size; omega))).trans H12.out
  have hb3 : Below w.heap.size w V3 := by
    have hv : w.heap.size ≤ V.heap.size := HBV.out.size
    rw [← hV3]
    exact ((HB2.out.setCell (p := ⟨V.heap.size, s, none⟩) hv _).setCell (p := ⟨V.heap.size, s + 1, none⟩) hv _).drew
  rw [hV3]
  have H3 := Lib.hid r3
  have H4 := Lib.hid r1
  have HB3 := Lib.hid hb3
  clear hV3 r3 r1 hb3 ca cb fa fb kw kn c0 c1
  go_wp2_with (first | (refine wpList_loadE rfl _ rfl _ (mirL s) (by go_simp) H3.out (mirL_len s) ?_) | (refine wpList_storeE rfl _ _ rfl _ _ (mirL s) (by go_simp) (by go_simp) H4.out (by rw [eC_size]; rfl) (mirL_len s) ?_))
  exact bodyPost_ret (results_E rfl _ _ _ (mirL s) (by go_simp) (setRow_heap _ _ _ _ _ _ H4.out) (mirL_len s)) rfl ⟨rfl, brow HB3.out (by omega) _⟩
theorem run_indexE (E : List Int) (hE : E.length = 24) (k : Nat) (hk : k < 24) (w : World) : (Instr.index 63 (.agg (eC E)) (.int .i64 (k : Int))).run Tryd.prog w = .ok (.int .i8 (nth E k)) w := by
  have hi : (Tryd.prog.info? 61).map (·.size) = some 1 := by kernel_rfl
  have hu : Tryd.prog.underlying 61 = some (.int .i8) := by kernel_rfl
  have hat := eC_at (E := E) (i := k) (by omega)
  cases hq : Tryd.prog.info? 61 with
  | none => rw [hq] at hi; cases hi
  | some i =>
    have hs : i.size = 1 := by rw [hq] at hi; simpa using hi
    simp [Instr.index, asIntOf, run_underlying undE, sizeOf, typeInfo, hq, hs, hk, part, isAgg, run_underlying hu, hat]
def thenL (E F : List Int) : List Int := F.map fun x => nth E (x - 1).toNat
theorem thenL_len (E : List Int) {F : List Int} (h : F.length = 24) : (thenL E F).length = 24 := by simp [thenL, h]
theorem thenL_at (E : List Int) {F : List Int} {k : Nat} (h : k < F.length) : nth (thenL E F) k = nth E (nth F k - 1).toNat := by
  rw [nth_of_lt (by simpa [thenL] using h), nth_of_lt h]
  simp [thenL]
set_option maxHeartbeats 2000000 in
theorem then_go (w : World) (E F : List Int) (hE : E.length = 24) (hF : F.length = 24) (hv : ∀ k, k < 24 → 1 ≤ nth F k ∧ nth F k ≤ 24) : Calls Tryd.prog 36 #[.agg (eC E), .agg (eC F)] w fun e w' => e = .returned (.agg (eC (thenL E F))) ∧ Below w.heap.size w w' := by
  obtain ⟨U, hU⟩ : ∃ U, (((w.alloc (.cells (eC E) 63)).alloc (.cells (eC F) 63)).alloc (.cells (eC (List.replicate 24 0)) 63)).alloc (.cells (eC (List.replicate 24 0)) 63) = U := ⟨_, rfl⟩
  have hb : Below w.heap.size w U := by rw [← hU]; exact bal (bal (bal (bal (Below.refl _ _) _) _) _) _
  have hs0 : U.heap.size = w.heap.size + 4 := by rw [← hU]; simp
  have u0 : U.heap[w.heap.size]? = some (.cells (eC E) 63 (0, 0)) := by
    rw [← hU, Below.heap_alloc _ _ _ (by simp <;> omega), Below.heap_alloc _ _ _ (by simp <;> omega), Below.heap_alloc _ _ _ (by simp <;> omega)]
    exact new_at w _
  have u1 : U.heap[w.heap.size + 1]? = some (.cells (eC F) 63 (0, 0)) := by
    rw [← hU, Below.heap_alloc _ _ _ (by simp <;> omega), Below.heap_alloc _ _ _ (by simp <;> omega)]
    have := new_at (w.alloc (.cells (eC E) 63)) (.cells (eC F) 63)
    rwa [World.size_alloc] at this
  have u2 : U.heap[w.heap.size + 1 + 1]? = some (.cells (eC (List.replicate 24 0)) 63 (0, 0)) := by
    rw [← hU, Below.heap_alloc _ _ _ (by simp <;> omega)]
    have := new_at ((w.alloc (.cells (eC E) 63)).alloc (.cells (eC F) 63)) (.cells (eC (List.replicate 24 0)) 63)
    rwa [World.size_alloc, World.size_alloc] at this
  have u3 : U.heap[w.heap.size + 1 + 1 + 1]? = some (.cells (eC (fillL (thenL E F) 0)) 63 (0, 0)) := by
    rw [← hU, fillL_zero]
    have := new_at (((w.alloc (.cells (eC E) 63)).alloc (.cells (eC F) 63)).alloc (.cells (eC (List.replicate 24 0)) 63)) (.cells (eC (List.replicate 24 0)) 63)
    rwa [World.size_alloc, World.size_alloc, World.size_alloc] at this
  rw [zeroE] at hU
  have HU := Lib.hid hU
  have HB := Lib.hid hb
  have HS := Lib.hid hs0
  have H0 := Lib.hid u0
  have H1 := Lib.hid u1
  have H2 := Lib.hid u2
  have H3 := Lib.hid u3
  have HE := Lib.hid hE
  have HF := Lib.hid hF
  have HV := Lib.hid hv
  clear hU hb hs0 u0 u1 u2 u3 hE hF hv
  go_enter Tryd.func36, Tryd.ntmps36
  go_wp2_with (rw [HU.out]; refine wpList_loadE rfl _ rfl _ F (by go_simp) H1.out HF.out ?_)
  go_loopw [9] (fun t wr => ∃ k : Nat, k ≤ 24 ∧ t = .int .i64 k ∧ Hid (wr.heap[w.heap.size + 1 + 1 + 1]? = some (.cells (eC (fillL (thenL E F) k)) 63 (0, 0))) ∧ Hid (Oth (w.heap.size + 1 + 1 + 1) U wr)) (fun t _ => 24 - (intOf t).toNat)
  case atStart => exact ⟨0, by omega, rfl, H3, Lib.hid (Oth.refl _ _)⟩
  case round =>
    obtain ⟨k, hk, rfl, HR, HO⟩ := hrel
    have HT := Lib.hid (thenL_len E HF.out)
    by_cases hlk : k < 24
    · have c1 : wr.cell? ⟨w.heap.size + 1 + 1 + 1, k, none⟩ = some (.int .i8 (nth (fillL (thenL E F) k) k)) := by rw [cells_at HR.out]; exact fillL_at HT.out (by omega) hlk
      have f1 := free_at HR.out k
      have z1 := lt_of_block HR.out
      have hx := thenL_at E (F := F) (k := k) (by rw [HF.out]; exact hlk)
      have hv := HV.out k hlk
      have hidx := run_indexE F HF.out k hlk
      have e0 : wr.heap[w.heap.size]? = some (.cells (eC E) 63 (0, 0)) := (HO.out.block w.heap.size (by omega)).trans H0.out
      have c0 : wr.cell? ⟨w.heap.size, (nth F k - 1).toNat, none⟩ = some (.int .i8 (nth E (nth F k - 1).toNat)) := by rw [cells_at e0]; exact eC_at (by rw [HE.out]; omega)
      have k8 : IntKind.i8.wrap (nth F k - 1) = nth F k - 1 := wrap8 _ (by omega) (by omega)
      have HR2 := Lib.hid (show (wr.setCell ⟨w.heap.size + 1 + 1 + 1, k, none⟩ (.int .i8 (nth E (nth F k - 1).toNat))).heap[w.heap.size + 1 + 1 + 1]? = some (.cells (eC (fillL (thenL E F) (k + 1))) 63 (0, 0)) by
        rw [set_at HR.out, eC_set, ← hx, fillL_set HT.out hlk])
      have HO2 := Lib.hid (HO.out.set k (.int .i8 (nth E (nth F k - 1).toNat)))
      clear hx e0
      generalize nth E (nth F k - 1).toNat = y at *
      generalize nth F k = x at *
      obtain ⟨j, hj⟩ : ∃ j : Nat, x = (j : Int) + 1 := ⟨(x - 1).toNat, by omega⟩
      subst hj
      have hj : (((j : Int) + 1) - 1) = (j : Int) := by omega
      rw [hj, Int.toNat_natCast] at c0
      rw [hj] at k8
      have z0 : w.heap.size < wr.heap.size := by have := HO.out.size; have := HS.out; omega
      have hjl : j < 24 := by omega
      clear hv
      go_wp2
      go_roundw
      case rel => exact ⟨k + 1, by omega, by go_num, HR2, HO2⟩
      case measure => simp [intOf]; omega
    · obtain rfl : k = 24 := by omega
      have h3 := HR.out
      rw [fillL_all HT.out] at h3
      have h4 : wr.heap[w.heap.size + 1 + 1]? = _ := (HO.out.block (w.heap.size + 1 + 1) (by omega)).trans H2.out
      have H5 := Lib.hid h3
      have H4 := Lib.hid h4
      have HBE := Lib.hid (HO.out.below HB.out (by omega))
      clear h3 h4
      go_wp2_with (first | (refine wpList_loadE rfl _ rfl _ (thenL E F) (by go_simp) H5.out HT.out ?_) | (refine wpList_storeE rfl _ _ rfl _ _ (thenL E F) (by go_simp) (by go_simp) H4.out (by rw [eC_size]; rfl) HT.out ?_))
      exact bodyPost_ret (results_E rfl _ _ _ (thenL E F) (by go_simp) (setRow_heap _ _ _ _ _ _ H4.out) HT.out) rfl ⟨rfl, brow HBE.out (by omega) _⟩
end Go.Proofs.YtiapngmallfelaaDoor
