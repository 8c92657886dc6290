
/- mirror: sorting, the library's function laid at this program. -/
import Derived.Test.YtiapngmallfelaaDoorJb
import Derived.Ground.SlgnProg
import Derived.Ground.SlsfProg
namespace Go.Proofs.YtiapngmallfelaaDoor
open Go.RowKit Go.Shelf
set_option linter.unusedSimpArgs false
def lay39_ren : Go.Shelf.Ren := ⟨fun | 6 => 39 | 15 => 47 | 14 => 46 | 28 => 57 | 29 => 58 | 20 => 49 | 21 => 50 | 22 => 51 | 23 => 52 | 24 => 53 | 25 => 54 | 26 => 55 | 27 => 56 | 46 => 59 | 47 => 60 | 48 => 61 | 49 => 62 | 50 => 63 | 57 => 64 | n => n, fun | 22 => 23 | 24 => 3 | 25 => 72 | 3 => 3 | 39 => 22 | 0 => 0 | 53 => 75 | 55 => 77 | 4 => 4 | 46 => 83 | 45 => 82 | 50 => 68 | 5 => 5 | 9 => 9 | 66 => 88 | 70 => 92 | 76 => 94 | 77 => 95 | n => n, fun | n => n⟩
theorem lay39 : Go.Proofs.SlLaysF.n6 Tryd.prog lay39_ren := {
  mixed := by kernel_rfl
  f6 := ⟨Tryd.f39.name, by decide, Tryd.func39.trans (congrArg some (by kernel_rfl))⟩
  f14 := ⟨Tryd.f46.name, by decide, Tryd.func46.trans (congrArg some (by kernel_rfl))⟩
  f15 := Tryd.func47.trans (congrArg some (by kernel_rfl))
  f20 := ⟨Tryd.f49.name, by decide, Tryd.func49.trans (congrArg some (by kernel_rfl))⟩
  f21 := ⟨Tryd.f50.name, by decide, Tryd.func50.trans (congrArg some (by kernel_rfl))⟩
  f22 := ⟨Tryd.f51.name, by decide, Tryd.func51.trans (congrArg some (by kernel_rfl))⟩
  f23 := ⟨Tryd.f52.name, by decide, Tryd.func52.trans (congrArg some (by kernel_rfl))⟩
  f24 := ⟨Tryd.f53.name, by decide, Tryd.func53.trans (congrArg some (by kernel_rfl))⟩
  f25 := ⟨Tryd.f54.name, by decide, Tryd.func54.trans (congrArg some (by kernel_rfl))⟩
  f26 := ⟨Tryd.f55.name, by decide, Tryd.func55.trans (congrArg some (by kernel_rfl))⟩
  f27 := ⟨Tryd.f56.name, by decide, Tryd.func56.trans (congrArg some (by kernel_rfl))⟩
  f28 := Tryd.func57.trans (congrArg some (by kernel_rfl))
  f29 := Tryd.func58.trans (congrArg some (by kernel_rfl))
  f46 := ⟨Tryd.f59.name, by decide, Tryd.func59.trans (congrArg some (by kernel_rfl))⟩
  f47 := Tryd.func60.trans (congrArg some (by kernel_rfl))
  f48 := Tryd.func61.trans (congrArg some (by kernel_rfl))
  f49 := ⟨Tryd.f62.name, by decide, Tryd.func62.trans (congrArg some (by kernel_rfl))⟩
  f50 := ⟨Tryd.f63.name, by decide, Tryd.func63.trans (congrArg some (by kernel_rfl))⟩
  f57 := ⟨Tryd.f64.name, by decide, Tryd.func64.trans (congrArg some (by kernel_rfl))⟩
  t0 := Tryd.underlying0
  a0 := Tryd.isAgg0
  z0 := Tryd.sizeOf0
  v0 := Tryd.zeroValue0
  t3 := Tryd.underlying3
  a3 := Tryd.isAgg3
  z3 := Tryd.sizeOf3
  v3 := Tryd.zeroValue3
  t4 := Tryd.underlying4
  a4 := Tryd.isAgg4
  z4 := Tryd.sizeOf4
  v4 := Tryd.zeroValue4
  t5 := Tryd.underlying5
  a5 := Tryd.isAgg5
  z5 := Tryd.sizeOf5
  v5 := Tryd.zeroValue5
  t9 := Tryd.underlying9
  a9 := Tryd.isAgg9
  z9 := Tryd.sizeOf9
  v9 := Tryd.zeroValue9
  t22 := Tryd.underlying23
  a22 := Tryd.isAgg23
  z22 := Tryd.sizeOf23
  v22 := Tryd.zeroValue23
  a24 := Tryd.isAgg3
  z24 := Tryd.sizeOf3
  t25 := Tryd.underlying72
  a25 := Tryd.isAgg72
  z25 := Tryd.sizeOf72
  v25 := Tryd.zeroValue72
  t39 := Tryd.underlying22
  a39 := Tryd.isAgg22
  z39 := Tryd.sizeOf22
  v39 := Tryd.zeroValue22
  t45 := Tryd.underlying82
  a45 := Tryd.isAgg82
  z45 := Tryd.sizeOf82
  v45 := Tryd.zeroValue82
  t46 := Tryd.underlying83
  a46 := Tryd.isAgg83
  z46 := Tryd.sizeOf83
  v46 := Tryd.zeroValue83
  t50 := Tryd.underlying68
  a50 := Tryd.isAgg68
  z50 := Tryd.sizeOf68
  v50 := Tryd.zeroValue68
  t53 := Tryd.underlying75
  a53 := Tryd.isAgg75
  z53 := Tryd.sizeOf75
  v53 := Tryd.zeroValue75
  t55 := Tryd.underlying77
  a55 := Tryd.isAgg77
  z55 := Tryd.sizeOf77
  v55 := Tryd.zeroValue77
  t66 := Tryd.underlying88
  a66 := Tryd.isAgg88
  z66 := Tryd.sizeOf88
  v66 := Tryd.zeroValue88
  t70 := Tryd.underlying92
  a70 := Tryd.isAgg92
  z70 := Tryd.sizeOf92
  v70 := Tryd.zeroValue92
  t76 := Tryd.underlying94
  a76 := Tryd.isAgg94
  z76 := Tryd.sizeOf94
  v76 := Tryd.zeroValue94
  t77 := Tryd.underlying95
  a77 := Tryd.isAgg95
  z77 := Tryd.sizeOf95
  v77 := Tryd.zeroValue95 }
open Go.Sort
theorem sortW_below {α : Type} [Inhabited α] (enc : α → Value) (w : World) (blk off m : Nat) (d : Array α) (os : Array Obj) (B : Nat) (hB : B ≤ blk) (hw : B ≤ w.heap.size) : RowKit.Below B w (sortWorld enc w blk off m d os) := by
  refine ⟨rfl, rfl, rfl, ?_, fun k hk => ?_⟩
  · unfold sortWorld; rw [size_grow]; show w.heap.size ≤ (putRow enc (Go.Sort.ahead w m) blk off d).heap.size + os.size; rw [Go.Sort.size_putRow]; show w.heap.size ≤ w.heap.size + os.size; omega
  · unfold sortWorld
    rw [heap_grow_old _ _ (by rw [Go.Sort.size_putRow]; show k < w.heap.size; omega)]
    unfold putRow mapBlock
    show (w.heap.modify blk _)[k]? = _
    rw [Array.getElem?_modify, if_neg (by omega)]
theorem sortW_at {α : Type} [Inhabited α] (enc : α → Value) (w : World) (blk off m : Nat) (d : Array α) (os : Array Obj) {k : Nat} (hk : k ≠ blk) (hw : k < w.heap.size) : (sortWorld enc w blk off m d os).heap[k]? = w.heap[k]? := by
  unfold sortWorld
  rw [heap_grow_old _ _ (by rw [Go.Sort.size_putRow]; exact hw)]
  unfold putRow mapBlock
  show (w.heap.modify blk _)[k]? = _
  rw [Array.getElem?_modify, if_neg (by omega)]
def cmF {K : Nat} (u v : Fin K) : Int := if u.val < v.val then -1 else if v.val < u.val then 1 else 0
theorem ltF {K : Nat} (u v : Fin K) : ltOf cmF u v = decide (u.val < v.val) := by
  unfold ltOf cmF
  by_cases h1 : u.val < v.val
  · simp [h1]
  · by_cases h2 : v.val < u.val <;> simp [h1, h2]
theorem swoF {K : Nat} : SWO (ltOf (cmF (K := K))) where
  irrefl x := by rw [ltF]; simp
  trans x y z h1 h2 := by rw [ltF] at *; simp only [decide_eq_true_eq] at *; omega
  ntrans x y z h1 h2 := by rw [ltF] at *; simp only [decide_eq_false_iff_not] at *; omega
theorem ord_F {K : Nat} {W : List (List Nat)} (h : okOrd K W = true) (u v : Fin K) : cmpW W u.val v.val = cmF u v := by
  have h1 := List.all_eq_true.1 (List.all_eq_true.1 h u.val (List.mem_range.2 u.isLt)) v.val (List.mem_range.2 v.isLt)
  simpa [cmF] using h1
theorem sort_fin {K : Nat} : (List.finRange K).mergeSort (fun x y => !(ltOf cmF) y x) = List.finRange K := by
  apply List.mergeSort_of_pairwise
  rw [List.pairwise_iff_getElem]
  intro i j hi hj hij
  rw [ltF]
  simp
  omega
theorem fin_at {K : Nat} [Inhabited (Fin K)] {j : Nat} (h : j < (List.finRange K).toArray.size) : ((List.finRange K).toArray[j]!).val = j := by
  have e : (List.finRange K).toArray[j]! = (List.finRange K).toArray[j] := _root_.getElem!_pos (List.finRange K).toArray j h
  rw [e]
  simp
set_option maxHeartbeats 1000000 in
theorem sorted_go (w0 w : World) (tb n K : Nat) (W N : List (List Nat)) (hT : TblAt w0 tb n W N) (ok : OkT n K W N) (ord : okOrd K W = true) (hb : RowKit.Below w0.heap.size w0 w) (g cap : Nat) (cur : Array Value)
    (hg0 : w0.heap.size ≤ g) (hg : w.heap[g]? = some (.cells cur 3 (0, 0))) (hc : ∀ i, i < K → cur[i]? = some (.int .i64 (i : Int))) (hK : 1 ≤ K) (hK2 : K ≤ 1000) :
    Calls Tryd.prog 29 #[.pointer (some ⟨tb, 0, none⟩), .slice (some ⟨g, 0, none⟩) K cap] w fun e w' => e = .returned (.slice (some ⟨g, 0, none⟩) K cap) ∧ RowKit.Below w0.heap.size w0 w' ∧ g < w'.heap.size ∧ ∀ i, i < K → w'.cell? ⟨g, 0 + i, none⟩ = some (.int .i64 (i : Int)) := by
  have hgl := lt_of_block hg
  haveI : Inhabited (Fin K) := ⟨⟨0, hK⟩⟩
  have eg : ∀ args w, (callFunc 40 args).run Tryd.prog w = .ok (.enter 40 args) w := enters_of Tryd.func40 (by kernel_rfl) rfl
  have hbb : RowKit.Below w0.heap.size w0 (w.alloc (.cells #[.pointer (some ⟨tb, 0, none⟩)] 42)) := hb.alloc hb.size _
  have hgb : (w.alloc (.cells #[.pointer (some ⟨tb, 0, none⟩)] 42)).heap[g]? = some (.cells cur 3 (0, 0)) := by
    rw [heap_alloc_eq, Array.getElem?_push, if_neg (by omega)]; exact hg
  have hxb := new_at w (.cells #[.pointer (some ⟨tb, 0, none⟩)] 42)
  have hsz : (List.finRange K).toArray.size = K := by simp
  have hsb : w.heap.size < (w.alloc (.cells #[.pointer (some ⟨tb, 0, none⟩)] 42)).heap.size := lt_of_block hxb
  have hH : Holds (fun u : Fin K => Value.int .i64 (u.val : Int)) (w.alloc (.cells #[.pointer (some ⟨tb, 0, none⟩)] 42)) g 0 (List.finRange K).toArray := fun j hj => by
    refine ⟨?_, free_at hgb _⟩
    rw [cells_at hgb, Nat.zero_add]
    show cur[j]? = some (.int .i64 (((List.finRange K).toArray[j]!).val : Int))
    rw [fin_at hj]
    exact hc j (by omega)
  have hcmp : CmpLays1 Tryd.prog 40 #[.pointer (some ⟨w.heap.size, 0, none⟩)] (fun u : Fin K => Value.int .i64 (u.val : Int)) cmF g 0 (List.finRange K).toArray.size (w.alloc (.cells #[.pointer (some ⟨tb, 0, none⟩)] 42)) := by
    intro m os dk _ x y
    have h1 := sortc_go (sortWorld (fun u : Fin K => Value.int .i64 (u.val : Int)) (w.alloc (.cells #[.pointer (some ⟨tb, 0, none⟩)] 42)) g 0 m dk os) w.heap.size tb n K W N (by rw [sortW_at _ _ _ _ _ _ _ (by omega) hsb]; exact hxb)
      (hT.mono (hbb.trans (sortW_below _ _ _ _ _ _ _ _ hg0 hbb.size))) ok x.val y.val x.isLt y.isLt
    rw [ord_F ord] at h1
    exact h1
  have hcon := Any.slices_SortFunc_total lay39 (fun u : Fin K => Value.int .i64 (u.val : Int)) (fun _ => rfl) cmF swoF 40 #[.pointer (some ⟨w.heap.size, 0, none⟩)] g 0 cap (List.finRange K).toArray _ eg hcmp hH (by omega) (by omega) (fun x y h1 h2 => by
    rw [ltF] at h1 h2
    simp only [decide_eq_false_iff_not] at h1 h2
    exact Fin.ext (by omega))
  change Calls Tryd.prog 39 _ _ _ at hcon
  rw [hsz] at hcon
  have HC := Lib.hid (show Calls Tryd.prog 39 #[.slice (some ⟨g, 0, none⟩) K cap, .func (.func 40) #[] #[.pointer (some ⟨w.heap.size, 0, none⟩)]] (w.alloc (.cells #[.pointer (some ⟨tb, 0, none⟩)] 42)) fun e w' => e = .returned (.tuple #[]) ∧ RowKit.Below w0.heap.size w0 w' ∧ g < w'.heap.size ∧ ∀ i, i < K → w'.cell? ⟨g, 0 + i, none⟩ = some (.int .i64 (i : Int)) from by
    refine hcon.mono ?_
    rintro e w' ⟨rfl, m, os, rfl⟩
    rw [sort_fin]
    have hsw : SW (fun u : Fin K => Value.int .i64 (u.val : Int)) (w.alloc (.cells #[.pointer (some ⟨tb, 0, none⟩)] 42)) g 0 (List.finRange K).toArray (sortWorld (fun u : Fin K => Value.int .i64 (u.val : Int)) (w.alloc (.cells #[.pointer (some ⟨tb, 0, none⟩)] 42)) g 0 m (List.finRange K).toArray os) := ⟨m, os, rfl⟩
    have hl := hsw.le
    refine ⟨rfl, hbb.trans (sortW_below _ _ _ _ _ _ _ _ hg0 hbb.size), by omega, fun i hi => ?_⟩
    have h := (hsw.holds (by omega) hH rfl i (by omega)).1
    rw [h]
    show some (Value.int .i64 (((List.finRange K).toArray[i]!).val : Int)) = _
    rw [fin_at (by omega)])
  clear hcon hcmp hH hbb hb hT ok ord hg hc hgb hxb eg
  go_enter Tryd.func29, Tryd.ntmps29
  go_wp2_with fail
  refine HC.out.mono ?_
  rintro e w' ⟨rfl, h2, h3, h4⟩
  have H2 := Lib.hid h2
  have H4 := Lib.hid h4
  clear h2 h4
  go_wp2
  go_ret
  exact ⟨rfl, H2.out, h3, H4.out⟩
end Go.Proofs.YtiapngmallfelaaDoor
