/- Chapter 9: the arguments that came in, opened. -/
import Derived.Test.YtcmakddnjmeklaaZb
import Derived.Test.YtcmakddnjmeklaaRow
import Derived.Deep.Slices
import Derived.ChangeSame
import Derived.OpenShut
import Derived.ChangeSlices
namespace Go.Proofs.Ytcmakddnjmeklaa
open Go.ChangeShapes Go.WideShapes Go.RowKit Go.Deep

section
variable {H : Type} {enc : TypeId × Value → H} {w : World} {base : Nat} {spare : Nat → Bool} {held : Bool}
theorem open_sl {fuel : Nat} {cs : List Value} {x : DataW H × List MemPlace} (h : DataW.trod enc Try.prog w base spare held fuel 26 cs = some x) (hsp : ∀ b, spare b = true) :
    ∃ a n c l, cs = [.slice a n c] ∧ Sl w a n c l ∧ ∀ z ∈ l, -9223372036854775808 ≤ z ∧ z ≤ 9223372036854775807 := by
  rcases open_ints Try.underlying26 Try.underlying3 (by kernel_rfl) h with ⟨hcs, _⟩ | ⟨x, l, c, zs, hcs, _, hl, hm, hz, _, hcell, hwz⟩
  · exact ⟨none, 0, 0, [], hcs, ⟨rfl, Nat.le_refl _, by unfold maxLen; omega, .inl ⟨rfl, rfl, rfl⟩⟩, fun z hz => by cases hz⟩
  · have hr : IsRow .i64 w (some x) l c zs := .inr ⟨x, rfl, hl, hm, by rw [hz, hsp, if_pos rfl], hcell, hwz⟩
    exact ⟨some x, l, c, _, hcs, hr.sl, hr.wf⟩
theorem addr_add (b off j : Nat) : (⟨b, off, none⟩ : Addr).add j = ⟨b, off + j, none⟩ := by unfold Addr.add; split <;> simp_all
/-- A slice of elements, opened: where it leads. -/
theorem open_sl_any {t e : TypeId} {sz fuel : Nat} {cs : List Value} {x : DataW H × List MemPlace} (ht : Try.prog.underlying t = some (.slice e)) (hc : Try.prog.cellsOf e = sz) (hsz : 0 < sz)
    (h : DataW.trod enc Try.prog w base spare held fuel t cs = some x) (hsp : ∀ b, spare b = true) :
    ∃ a n c, cs = [.slice a n c] ∧ n ≤ c ∧ c ≤ maxLen ∧ ((a = none ∧ n = 0 ∧ c = 0) ∨ (n = 0 ∧ c = 0 ∧ ∃ x, a = some x) ∨
      ∃ b off, a = some ⟨b, off, none⟩ ∧ b < w.heap.size ∧ ∀ i, i < n → ∃ (cs' : List Value) (m : Nat) (y : DataW H × List MemPlace), cs'.length = sz ∧ (∀ j, j < sz → w.cell? ⟨b, off + i * sz + j, none⟩ = cs'[j]?) ∧ DataW.trod enc Try.prog w base spare held m e cs' = some y) := by
  rcases open_slice ht h with ⟨hcs, _⟩ | ⟨a, len, cap, m, n, D, Pl, hcs, hb, hl, hm, hmm, _, hi⟩
  · exact ⟨none, 0, 0, hcs, Nat.le_refl _, by unfold maxLen; omega, .inl ⟨rfl, rfl, rfl⟩⟩
  · rw [hsp, if_pos rfl] at hmm
    subst hmm
    refine ⟨some a, len, m, hcs, hl, hm, ?_⟩
    by_cases h0 : m = 0
    · exact .inr (.inl ⟨by omega, h0, a, rfl⟩)
    · rw [hc] at hi
      obtain ⟨cs0, h1, _⟩ := hi 0 (by omega)
      obtain ⟨_, h2, h3⟩ := World.cells?_some h1
      obtain ⟨b, off, spot⟩ := a
      have h4 := h3 0 hsz
      rw [List.getElem?_eq_getElem (by omega)] at h4
      have hspot : spot = none := by simpa [Addr.add] using World.cell?_spot h4
      subst hspot
      rw [addr_add, addr_add] at h4
      refine .inr (.inr ⟨b, off, rfl, World.block_lt_of_cell? w _ h4, fun i hil => ?_⟩)
      obtain ⟨cs', h5, h6⟩ := hi i (by omega)
      obtain ⟨_, h7, h8⟩ := World.cells?_some h5
      refine ⟨cs', n, _, h7, fun j hj => ?_, h6⟩
      have := h8 j hj
      rwa [addr_add, addr_add] at this
theorem two {α : Type} {l : List α} (h : l.length = 2) : ∃ a b, l = [a, b] := by
  match l, h with
  | [a, b], _ => exact ⟨a, b, rfl⟩
theorem open_act_cells {fuel : Nat} {cs : List Value} {x : DataW H × List MemPlace} (h : DataW.trod enc Try.prog w base spare held fuel 42 cs = some x) (hsp : ∀ b, spare b = true) :
    ∃ g a n c l, cs = [.int .i64 g, .slice a n c] ∧ Sl w a n c l ∧ -9223372036854775808 ≤ g ∧ g ≤ 9223372036854775807 := by
  obtain ⟨y0, y1, n, _, hl, h0, h1⟩ := trod_struct2 Try.underlying42 h
  have hl2 : cs.length = 2 := hl.trans (by kernel_rfl)
  obtain ⟨v0, v1, rfl⟩ := two hl2
  obtain ⟨g, e0, _, hw⟩ := DataW.trod_int (t := 3) Try.underlying3 (cs := [v0]) (by simpa [show Try.prog.cellsOf 3 = 1 by kernel_rfl] using h0)
  obtain ⟨a, m, c, l, e1, hS, _⟩ := open_sl (cs := [v1]) (by simpa [show Try.prog.cellsOf 26 = 1 by kernel_rfl] using h1) hsp
  injection e0 with e0
  injection e1 with e1
  subst e0 e1
  simp only [Lit.wf, Bool.and_eq_true, decide_eq_true_eq] at hw
  exact ⟨g, a, m, c, l, rfl, hS, hw.1, hw.2⟩
theorem open_acts {fuel : Nat} {cs : List Value} {x : DataW H × List MemPlace} (h : DataW.trod enc Try.prog w base spare held fuel 43 cs = some x) (hsp : ∀ b, spare b = true) :
    ∃ a n c A, cs = [.slice a n c] ∧ AcSl w a n c A := by
  obtain ⟨a, n, c, rfl, hn, hc, h1 | h1 | ⟨b, off, rfl, hb, hi⟩⟩ := open_sl_any Try.underlying43 (sz := 2) (by kernel_rfl) (by omega) h hsp
  · exact ⟨a, n, c, [], rfl, h1.2.1.symm, hn, hc, .inl h1⟩
  · exact ⟨a, n, c, [], rfl, h1.1.symm, hn, hc, .inr (.inl h1)⟩
  · have : ∀ i, i < n → ∃ x : Ac, w.cell? ⟨b, off + i * 2, none⟩ = some (.int .i64 x.g) ∧ ∃ a n c, w.cell? ⟨b, off + i * 2 + 1, none⟩ = some (.slice a n c) ∧ Sl w a n c x.o := fun i hil => by
      obtain ⟨cs', m, y, _, h2, h3⟩ := hi i hil
      obtain ⟨g, a, n', c', l, rfl, hS, _⟩ := open_act_cells h3 hsp
      exact ⟨⟨g, l⟩, by simpa using h2 0 (by omega), a, n', c', by simpa using h2 1 (by omega), hS⟩
    have _inst : Inhabited Ac := ⟨⟨0, []⟩⟩
    obtain ⟨f, hf⟩ := choose_lt this
    refine ⟨_, n, c, (List.range n).map f, rfl, by simp, hn, hc, .inr (.inr ⟨b, off, rfl, hb, fun i hil => ?_⟩)⟩
    have e : ac ((List.range n).map f) i = f i := by simp [ac, hil]
    unfold AcEl
    rw [e]; exact hf i hil
theorem open_acts2 {fuel : Nat} {cs : List Value} {x : DataW H × List MemPlace} (h : DataW.trod enc Try.prog w base spare held fuel 23 cs = some x) (hsp : ∀ b, spare b = true) :
    ∃ a n c A, cs = [.slice a n c] ∧ A2Sl w a n c A := by
  obtain ⟨a, n, c, rfl, hn, hc, h1 | h1 | ⟨b, off, rfl, hb, hi⟩⟩ := open_sl_any Try.underlying23 (sz := 1) (by kernel_rfl) (by omega) h hsp
  · exact ⟨a, n, c, [], rfl, h1.2.1.symm, hn, hc, .inl h1⟩
  · exact ⟨a, n, c, [], rfl, h1.1.symm, hn, hc, .inr (.inl h1)⟩
  · have : ∀ i, i < n → ∃ x : List Ac, ∃ a n c, w.cell? ⟨b, off + i * 1, none⟩ = some (.slice a n c) ∧ AcSl w a n c x := fun i hil => by
      obtain ⟨cs', m, y, _, h2, h3⟩ := hi i hil
      obtain ⟨a, n', c', l, rfl, hS⟩ := open_acts h3 hsp
      exact ⟨l, a, n', c', by simpa using h2 0 (by omega), hS⟩
    obtain ⟨f, hf⟩ := choose_lt this
    refine ⟨_, n, c, (List.range n).map f, rfl, by simp, hn, hc, .inr (.inr ⟨b, off, rfl, hb, fun i hil => ?_⟩)⟩
    have e : acl ((List.range n).map f) i = f i := by simp [acl, hil]
    unfold A2El
    rw [e]; exact hf i hil
theorem three {α : Type} {l : List α} (h : l.length = 3) : ∃ a b c, l = [a, b, c] := by
  match l, h with
  | [a, b, c], _ => exact ⟨a, b, c, rfl⟩
set_option maxRecDepth 100000 in
/-- A world that came in. -/
theorem open_world {r : Reach} {b0 : Nat} {v : Value} {d : DataW H} {p : List MemPlace} (hv : Value.okWide Try.prog w r b0 25 v) (h : DataW.Trod enc Try.prog w base spare held 25 v d p) (hsp : ∀ b, spare b = true) :
    ∃ x n c W, v = wv (Wd.a W) (Wd.b W) x n c ∧ A2Sl w x n c (Wd.acts W) := by
  obtain ⟨cs, rfl, hsz⟩ := okWide_struct Try.underlying25 hv
  obtain ⟨fuel, hf⟩ := h
  obtain ⟨y0, y1, n, _, hl, h0, h1⟩ := trod_struct2 Try.underlying25 hf
  obtain ⟨l⟩ := cs
  have hl3 : l.length = 3 := hsz.trans (by kernel_rfl)
  obtain ⟨v0, v1, v2, rfl⟩ := three hl3
  obtain ⟨xs, m, _, _, hal, hxs, ha⟩ := DataW.trod_array (t := 22) Try.underlying22 (cs := [v0, v1]) (by simpa [Value.cells, show Try.prog.cellsOf 22 = 2 by kernel_rfl] using h0)
  have a0 := ha 0 (by omega)
  have a1 := ha 1 (by omega)
  rw [List.getElem?_eq_getElem (by omega)] at a0 a1
  obtain ⟨g0, e0, _, _⟩ := DataW.trod_int (t := 3) Try.underlying3 (cs := [v0]) (by simpa [show Try.prog.cellsOf 3 = 1 by kernel_rfl] using a0)
  obtain ⟨g1, e1, _, _⟩ := DataW.trod_int (t := 3) Try.underlying3 (cs := [v1]) (by simpa [show Try.prog.cellsOf 3 = 1 by kernel_rfl] using a1)
  obtain ⟨a, m, c, A, e2, hS⟩ := open_acts2 (cs := [v2]) (by simpa [Value.cells, show Try.prog.cellsOf 23 = 1 by kernel_rfl] using h1) hsp
  injection e0 with e0
  injection e1 with e1
  injection e2 with e2
  subst e0 e1 e2
  exact ⟨a, m, c, ⟨g0, g1, A⟩, rfl, hS⟩
set_option maxRecDepth 100000 in
theorem open_act {r : Reach} {b0 : Nat} {v : Value} {d : DataW H} {p : List MemPlace} (hv : Value.okWide Try.prog w r b0 42 v) (h : DataW.Trod enc Try.prog w base spare held 42 v d p) (hsp : ∀ b, spare b = true) :
    ∃ g x n c l, v = av g x n c ∧ Sl w x n c l ∧ -9223372036854775808 ≤ g ∧ g ≤ 9223372036854775807 := by
  obtain ⟨cs, rfl, hsz⟩ := okWide_struct Try.underlying42 hv
  obtain ⟨fuel, hf⟩ := h
  obtain ⟨l⟩ := cs
  obtain ⟨g, a, n, c, z, e, hS, h1, h2⟩ := open_act_cells hf hsp
  have e : l = [.int .i64 g, .slice a n c] := e
  subst e
  exact ⟨g, a, n, c, z, rfl, hS, h1, h2⟩
set_option maxRecDepth 100000 in
theorem open_list {r : Reach} {b0 : Nat} {v : Value} {d : DataW H} {p : List MemPlace} (hv : Value.okWide Try.prog w r b0 26 v) (h : DataW.Trod enc Try.prog w base spare held 26 v d p) (hsp : ∀ b, spare b = true) :
    ∃ x n c l, v = .slice x n c ∧ Sl w x n c l ∧ ∀ z ∈ l, -9223372036854775808 ≤ z ∧ z ≤ 9223372036854775807 := by
  obtain ⟨x, n, c, rfl⟩ := okWide_slice Try.underlying26 hv
  obtain ⟨fuel, hf⟩ := h
  obtain ⟨a, m, c', l, e, hS, hb⟩ := open_sl hf hsp
  simp [Value.cells] at e
  obtain ⟨rfl, rfl, rfl⟩ := e
  exact ⟨_, _, _, l, rfl, hS, hb⟩
set_option maxRecDepth 100000 in
theorem open_num {v : Value} {d : DataW H} {p : List MemPlace} {r : Reach} {b0 : Nat} (hv : Value.okWide Try.prog w r b0 3 v) (h : DataW.Trod enc Try.prog w base spare held 3 v d p) : ∃ z, v = .int .i64 z ∧ -9223372036854775808 ≤ z ∧ z ≤ 9223372036854775807 := by
  obtain ⟨z, rfl⟩ := okWide_int Try.underlying3 hv
  obtain ⟨fuel, hf⟩ := h
  obtain ⟨n, e, _, hw⟩ := DataW.trod_int Try.underlying3 hf
  simp [Value.cells] at e
  subst e
  simp only [Lit.wf, Bool.and_eq_true, decide_eq_true_eq] at hw
  exact ⟨z, rfl, hw.1, hw.2⟩
end
end Go.Proofs.Ytcmakddnjmeklaa
