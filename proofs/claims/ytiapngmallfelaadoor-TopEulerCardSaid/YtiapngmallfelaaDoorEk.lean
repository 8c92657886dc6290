
/- mirror: the map of elements; laws of append. -/
import Derived.Test.YtiapngmallfelaaDoorEj
import Derived.Maps.OwnOps
import Derived.DeepKeys4
import Derived.Maps.OwnSet
import Derived.Maps.Views
namespace Go.Proofs.YtiapngmallfelaaDoor
open Go.RowKit
open Go.Maps (Keyed IsMap)
set_option linter.unusedSimpArgs false
theorem laidOutE : laidOutB Tryd.prog = true := by kernel_rfl
theorem keyE : Keyed Tryd.prog 63 := Keyed.of_law (deep_law_laid laidOutE (m := 2) (by omega) (of_decide_eq_true (by kernel_rfl)) (by kernel_rfl) (by kernel_rfl))
def okE (e : List Int) : Prop := e.length = 24 ∧ ∀ x ∈ e, 0 ≤ x ∧ x ≤ 24
noncomputable def klE (e : List Int) : Lit := (keyOf Tryd.prog 63 (.agg (eC e))).getD (.bool false)
theorem mapM_some {α β : Type} {f : α → Option β} : ∀ {l : List α}, (∀ x ∈ l, ∃ y, f x = some y) → ∃ ys, l.mapM f = some ys
  | [], _ => ⟨[], rfl⟩
  | x :: l, h => by
    obtain ⟨y, hy⟩ := h x (by simp)
    obtain ⟨ys, hys⟩ := mapM_some (f := f) (l := l) fun z hz => h z (by simp [hz])
    exact ⟨y :: ys, by simp [List.mapM_cons, hy, hys]⟩
theorem klE_is {e : List Int} (h : okE e) : keyOf Tryd.prog 63 (.agg (eC e)) = some (klE e) := by
  have hk : Tryd.prog.keyType 63 = true := by kernel_rfl
  have hc : Tryd.prog.cellsOf 63 = 24 := by kernel_rfl
  have hc1 : Tryd.prog.cellsOf 61 = 1 := by kernel_rfl
  have hu : Tryd.prog.underlying 61 = some (.int .i8) := by kernel_rfl
  have hsz : ∃ m, Tryd.prog.types.size + 1 = m + 2 := ⟨Tryd.prog.types.size - 1, by
    have : 0 < Tryd.prog.types.size := of_decide_eq_true (by kernel_rfl)
    omega⟩
  have hs : (keyOf Tryd.prog 63 (.agg (eC e))).isSome = true := by
    unfold keyOf
    rw [undE]
    have hf : (Value.agg (eC e)).formed Tryd.prog 63 = true := by
      simp [Value.formed, undE, hc, eC_size, h.1]
    simp only [hk, hf, Bool.and_self, if_true]
    obtain ⟨m, hm⟩ := hsz
    rw [hm]
    have hl : (Value.agg (eC e)).cells.toList = e.map (Value.int .i8) := by simp [Value.cells, eC]
    rw [hl]
    have hall : ∃ ys, ((List.range 24).mapM fun i => Tryd.prog.keyLits (m + 1) 61 (((e.map (Value.int .i8)).drop (i * 1)).take 1)) = some ys := by
      refine mapM_some fun i hi => ?_
      have hi' : i < e.length := by rw [h.1]; exact List.mem_range.1 hi
      have hd : ((e.map (Value.int .i8)).drop (i * 1)).take 1 = [.int .i8 e[i]] := by
        rw [Nat.mul_one, ← List.map_drop, List.drop_eq_getElem_cons hi', List.map_cons, List.take_succ_cons, List.take_zero]
      have hx := h.2 e[i] (List.getElem_mem hi')
      have hw : (Lit.int .i8 e[i]).wf = true := by
        have h8 := wrap8 e[i] (by omega) (by omega)
        have h9 : IntKind.i8.min = -128 := by decide
        have h10 : IntKind.i8.max = 127 := by decide
        simp [Lit.wf, h9, h10]
        omega
      exact ⟨[.int .i8 e[i]], by rw [hd]; simp [Program.keyLits, hu, hw]⟩
    obtain ⟨ys, hys⟩ := hall
    have hlen : (e.map (Value.int .i8)).length = 24 := by simp [h.1]
    have hk2 : Tryd.prog.keyLits (m + 2) 63 (e.map (Value.int .i8)) = some ys.flatten := by
      rw [Program.keyLits.eq_def]
      simp only [undE, hc, hc1, hlen, if_true]
      rw [hys]
      rfl
    rw [hk2]
    rfl
  unfold klE
  cases hq : keyOf Tryd.prog 63 (.agg (eC e)) with
  | none => rw [hq] at hs; cases hs
  | some x => rfl
theorem klE_inj {e f : List Int} (he : okE e) (hf : okE f) (h : klE e = klE f) : e = f := by
  have h1 := klE_is he
  rw [h] at h1
  have h2 := keyE.inj h1 (klE_is hf)
  injection h2 with h2
  exact eC_inj h2
theorem wrap64_wf' (x : Int) (h1 : -1000000 ≤ x) (h2 : x < 1000000) : (Lit.int .i64 x).wf = true := by
  have h9 : IntKind.i64.min = -9223372036854775808 := by decide
  have h10 : IntKind.i64.max = 9223372036854775807 := by decide
  simp [Lit.wf, h9, h10]
  omega
/-! ### the map of the elements -/
theorem posE_le (e : List Int) : ∀ l, posE e l ≤ l.length
  | [] => Nat.le_refl _
  | x :: l => by
    have := posE_le e l
    unfold posE
    split
    · omega
    · simp; omega
theorem posE_snoc (e f : List Int) : ∀ l, posE e (l ++ [f]) = if posE e l < l.length then posE e l else if f = e then l.length else l.length + 1
  | [] => by simp [posE]
  | x :: l => by
    have h1 := posE_snoc e f l
    have h2 := posE_le e l
    show (if x = e then 0 else posE e (l ++ [f]) + 1) = _
    simp only [posE, List.length_cons]
    by_cases hx : x = e
    · simp [hx]
    · rw [if_neg hx, if_neg hx, h1]
      by_cases h3 : posE e l < l.length
      · simp [h3]
      · by_cases h4 : f = e <;> simp [h3, h4]
def MapE (V : World) (gm n : Nat) (El : List (List Int)) : Prop :=
  ∃ D : DataW Unit, V.ownsMap Tryd.prog 63 (plainElem Tryd.prog 3) gm n D ∧ ∀ e, okE e → Maps.has D (klE e) = decide (posE e El < El.length) ∧ (posE e El < El.length → D.atKey (klE e) (.lit (.int .i64 0)) = .lit (.int .i64 (posE e El : Int)))
theorem MapE.keep {V V' : World} {gm n : Nat} {El : List (List Int)} (h : MapE V gm n El) (hk : V'.heap[gm]? = V.heap[gm]?) : MapE V' gm n El := by
  obtain ⟨D, ⟨es, clock, hb, r⟩, h2⟩ := h
  exact ⟨D, ⟨es, clock, hk.trans hb, r⟩, h2⟩
theorem MapE.lt {V : World} {gm n : Nat} {El : List (List Int)} (h : MapE V gm n El) : ∃ es clock, V.heap[gm]? = some (.map es clock) := by
  obtain ⟨D, ⟨es, clock, hb, r⟩, h2⟩ := h
  exact ⟨es, clock, hb⟩
theorem undM : Tryd.prog.underlying 56 = some (.map 63 3) := by kernel_rfl
theorem undInt : Tryd.prog.underlying 3 = some (.int .i64) := by kernel_rfl
theorem zeroInt (V : World) : (zeroValue 3).run Tryd.prog V = .ok (.int .i64 0) V := by
  obtain ⟨i0, hi, hz0, hz1, hz2⟩ := info_parts infoInt
  simp [zeroValue, typeInfo, hi, hz0]
theorem MapE.look {V : World} {gm n : Nat} {El : List (List Int)} (h : MapE V gm n El) {e : List Int} (he : okE e) :
    ∃ c : Int, (Instr.lookup 56 (.map (some gm)) (.agg (eC e)) true).run Tryd.prog V = .ok (.tuple #[.int .i64 c, .bool (decide (posE e El < El.length))]) V ∧ (posE e El < El.length → c = (posE e El : Int)) := by
  obtain ⟨D, hown, h2⟩ := h
  obtain ⟨v, ps, hrun, hv⟩ := hown.look_ok keyE undM (zeroInt V) (plainElem_int undInt (by decide)) (klE_is he)
  obtain ⟨c, rfl, hc, _⟩ := plainElem_int_inv undInt hv
  rw [(h2 e he).1] at hrun
  refine ⟨c, hrun, fun hp => ?_⟩
  have h3 := (h2 e he).2 hp
  have h4 := congrArg Prod.fst hc
  rw [h3] at h4
  simpa using h4.symm
theorem MapE.put {V : World} {gm n : Nat} {El : List (List Int)} (h : MapE V gm n El) {e : List Int} (he : okE e) (hp : ¬ posE e El < El.length) (hn : n < maxLen) (hl : El.length < 1000000) :
    ∃ V', (Instr.mapUpdate 56 (.map (some gm)) (.agg (eC e)) (.int .i64 (El.length : Int))).run Tryd.prog V = .ok () V' ∧ MapE V' gm (n + 1) (El ++ [e]) ∧ V.grownBy V' (some gm) := by
  obtain ⟨D, hown, h2⟩ := h
  have hw : (Lit.int .i64 (El.length : Int)).wf = true := wrap64_wf' _ (by omega) (by omega)
  obtain ⟨V', hrun, hown', hg⟩ := hown.update keyE undM hn (val := .int .i64 (El.length : Int)) (klE_is he) (plainElem_int undInt hw)
  have hm := hown.isMap
  have hk : WideAt.IsKeyLit (klE e) := keyE.key (klE_is he)
  refine ⟨V', hrun, ⟨_, hown', fun f hf => ?_⟩, hg⟩
  rw [posE_snoc, List.length_append]
  by_cases hef : e = f
  · subst hef
    rw [if_neg hp, if_pos rfl]
    exact ⟨by rw [Maps.has_put_same hm hk]; simp, fun _ => Maps.atKey_put_same hm hk _ _⟩
  · have hne : klE f ≠ klE e := fun h => hef (klE_inj he hf h.symm)
    rw [Maps.has_put_other hne, Maps.atKey_put_other hne, if_neg hef]
    obtain ⟨h3, h4⟩ := h2 f hf
    by_cases h5 : posE f El < El.length
    · rw [if_pos h5]
      exact ⟨by rw [h3]; simp; omega, fun _ => h4 h5⟩
    · rw [if_neg h5]
      exact ⟨by rw [h3]; simp [h5], fun h6 => by simp at h6⟩
end Go.Proofs.YtiapngmallfelaaDoor
