
/- mirror: what the table's making holds, by classes of blocks. -/
import Derived.Test.YtiapngmallfelaaDoorEk
namespace Go.Proofs.YtiapngmallfelaaDoor
open Go.RowKit
set_option linter.unusedSimpArgs false
theorem run_appW {w : World} {t e size bytes : Nat} {z : Value} (ht : Tryd.prog.underlying t = some (.slice e)) (hinfo : (Tryd.prog.info? e).map (fun i => (i.zero, i.size, i.bytes)) = some (some z, size, bytes)) (hzs : z.cells.size = size) (hsz : 0 < size)
    {v : Value} {n : Nat} {xs : List Value} (hown : w.ownsRow 0 e size v n xs) (ad : Addr) (m c : Nat) (news : List Value) (hl : news.length = m * size) (hnews : ∀ j u, news[j]? = some u → w.cell? (ad.add j) = some u) (h1 : ∀ u ∈ news, u.oneCell' = true)
    (hm : 0 < m) (h63 : n + m ≤ 1000000) (hbytes : (n + m) * bytes ≤ 140737488355328) :
    ∃ v' w', (Builtin.append_ #[t, t] t #[v, .slice (some ad) m c]).run Tryd.prog w = .ok v' w' ∧ w'.ownsRow 0 e size v' (n + m) (xs ++ news) ∧ w.grownBy w' v.ownBlock ∧ (v'.ownBlock = v.ownBlock ∨ v'.ownBlock = some w.heap.size) := by
  obtain ⟨i0, hi, hz0, hz1, hz2⟩ := info_parts hinfo
  obtain ⟨v', w', hr, h2, h3, _⟩ := run_append_own (P := Tryd.prog) w 0 t t e i0 z size bytes ht hi hz0 hz1 hz2 hzs hsz v n xs hown ad m c news hl hnews h1 (by unfold maxLen; omega) hbytes (Nat.zero_le _)
  refine ⟨v', w', hr, h2, h3, ?_⟩
  rcases hown.2 with ⟨rfl, rfl⟩ | ⟨g, cap, cur, rfl, hbg, hg, hnc, hcm, hcs, htake⟩
  · have hb2 : m * bytes ≤ 140737488355328 := by simpa using hbytes
    have h4 := run_append_nil (P := Tryd.prog) w t t e i0 z ht hi hz0 ad m c news (by rw [hz1]; exact hl) hnews hm (by omega) (by rw [hz2]; omega)
    rw [h4] at hr
    injection hr with hr1 hr2
    exact .inr (by rw [← hr1]; rfl)
  · by_cases hroom : n + m ≤ cap
    · have hfit : n * size + news.length ≤ cur.size := by rw [hl, hcs, ← Nat.add_mul]; exact Nat.mul_le_mul_right _ hroom
      have h4 := run_append_room (P := Tryd.prog) w t t e i0 ht hi g n cap cur hg ad m c news (by rw [hz1]; exact hl) hnews h1 hroom (by rw [hz1]; exact hfit)
      rw [h4] at hr
      injection hr with hr1 hr2
      exact .inl (by rw [← hr1]; rfl)
    · have h4 := run_append_grow (P := Tryd.prog) w t t e i0 z ht hi hz0 ⟨g, 0, none⟩ n cap xs (by rw [hz1]; exact hown.1) (hown.cells (g := g) rfl) ad m c news (by rw [hz1]; exact hl) hnews (by omega) (by omega) (by rw [hz2]; exact growslice_fits (by omega) hbytes)
      rw [h4] at hr
      injection hr with hr1 hr2
      exact .inr (by rw [← hr1]; rfl)
/-- append of one int behind a full slice: a new row. -/
theorem run_full {w : World} (x : Addr) (m : Nat) (l : List Nat) (hs : Sl w (some x) m m (ints l)) (p s : Nat) (hp : w.heap[p]? = some (.cells #[.int .i64 (s : Int)] 3 (0, 0))) (hm : m ≤ 100000) :
    ∃ c w', (Builtin.append_ #[23, 23] 23 #[.slice (some x) m m, .slice (some ⟨p, 0, none⟩) 1 1]).run Tryd.prog w = .ok (.slice (some ⟨w.heap.size, 0, none⟩) (m + 1) c) w' ∧ Sl w' (some ⟨w.heap.size, 0, none⟩) (m + 1) c (ints (l ++ [s])) ∧ Below w.heap.size w w' := by
  obtain ⟨i0, hi, hz0, hz1, hz2⟩ := info_parts infoInt
  have ht : Tryd.prog.underlying 23 = some (.slice 3) := Tryd.underlying23
  have hlen : l.length = m := by have := hs.len; simpa [ints] using this
  have hold : ∀ j u, ((ints l).map (Value.int .i64))[j]? = some u → w.cell? (x.add j) = some u := by
    intro j u hj
    have hjl : j < m := by have := (List.getElem?_eq_some_iff.1 hj).1; simpa [ints, hlen] using this
    obtain ⟨b, off, e, hb, hc⟩ := hs.at (by omega)
    injection e with e
    subst e
    have hadd : (⟨b, off, none⟩ : Addr).add j = ⟨b, off + j, none⟩ := by unfold Addr.add; split <;> simp_all
    rw [hadd, hc j hjl]
    rw [List.getElem?_map, List.getElem?_eq_getElem (by simp [ints]; omega)] at hj
    rw [nth_of_lt (by simp [ints]; omega)]
    simpa using hj
  have hnew : ∀ j u, [Value.int .i64 (s : Int)][j]? = some u → w.cell? ((⟨p, 0, none⟩ : Addr).add j) = some u := by
    intro j u hj
    cases j with
    | zero => simp at hj; subst hj; exact one_atB hp
    | succ j => simp at hj
  have hr := run_append_grow (P := Tryd.prog) w 23 23 3 i0 (.int .i64 0) ht hi hz0 x m m ((ints l).map (Value.int .i64)) (by rw [hz1]; simp [ints, hlen]) hold ⟨p, 0, none⟩ 1 1 [.int .i64 (s : Int)] (by rw [hz1]; rfl) hnew (by omega) (by omega) (by rw [hz2]; exact growslice_fits (by omega) (by omega))
  have hge := grownCap_ge w (m + 1) m 3
  have hle := grownCap_le_maxLen w (m + 1) m 3 (by unfold maxLen; omega)
  refine ⟨_, _, hr, ⟨by simp [ints, hlen], hge, hle, .inr (.inr ⟨w.heap.size, 0, rfl, by simp, fun i hi' => ?_⟩)⟩, bal (w := w) (drewB ⟨1, rfl⟩) _⟩
  have hh := new_at w.drew (.cells (((ints l).map (Value.int .i64)).toArray ++ [Value.int .i64 (s : Int)].toArray ++ Builtin.zeroCells (Value.int .i64 0).cells (grownCap w (m + 1) m 3 - (m + 1))) 3)
  rw [show w.drew.heap.size = w.heap.size from rfl] at hh
  rw [cells_at hh, Nat.zero_add, Array.getElem?_append_left (by simp [ints, hlen]; omega)]
  have e1 : ((ints l).map (Value.int .i64)).toArray ++ [Value.int .i64 (s : Int)].toArray = ((ints (l ++ [s])).map (Value.int .i64)).toArray := by rw [ints_app]; simp [ints]
  rw [e1, List.getElem?_toArray, List.getElem?_map, List.getElem?_eq_getElem (by simp [ints]; omega), nth_of_lt (by simp [ints]; omega)]
  rfl
/-! ### classes of blocks -/
def ext (cls : Nat → Nat) (N c : Nat) : Nat → Nat := fun k => if k < N then cls k else c
theorem ext_lt {cls : Nat → Nat} {N c k : Nat} (h : k < N) : ext cls N c k = cls k := if_pos h
theorem ext_ge {cls : Nat → Nat} {N c k : Nat} (h : N ≤ k) : ext cls N c k = c := if_neg (by omega)
/-- Blocks whose class p spares lie as they lay. -/
structure St (p : Nat → Bool) (cls : Nat → Nat) (V V' : World) : Prop where
  os : V'.os = V.os
  tape : V'.tape = V.tape
  output : V'.output = V.output
  size : V.heap.size ≤ V'.heap.size
  block : ∀ k, k < V.heap.size → p (cls k) = false → V'.heap[k]? = V.heap[k]?
theorem St.below {p : Nat → Bool} {cls : Nat → Nat} {w V V' : World} (h : St p cls V V') (h0 : p 0 = false) (ho : ∀ k, k < w.heap.size → cls k = 0) (hb : Below w.heap.size w V) : Below w.heap.size w V' :=
  ⟨h.os.trans hb.os, h.tape.trans hb.tape, h.output.trans hb.output, Nat.le_trans hb.size h.size, fun k hk => (h.block k (Nat.lt_of_lt_of_le hk hb.size) (by rw [ho k hk]; exact h0)).trans (hb.block k hk)⟩
theorem St.of_below {p : Nat → Bool} {cls : Nat → Nat} {V V' : World} (h : Below V.heap.size V V') : St p cls V V' := ⟨h.os, h.tape, h.output, h.size, fun k hk _ => h.block k hk⟩
theorem St.app {cls : Nat → Nat} {c : Nat} {v : Value} {V V' : World} (hc : ∀ g, v.ownBlock = some g → cls g = c) (hg : V.grownBy V' v.ownBlock) : St (· == c) cls V V' :=
  ⟨hg.os, hg.tape, hg.output, hg.size, fun k hk hp => hg.block k hk (fun e => by rw [hc k e.symm] at hp; simp at hp)⟩
theorem St.set {p : Nat → Bool} {cls : Nat → Nat} {V V' : World} (h : St p cls V V') (b i : Nat) (v : Value) (hp : p (cls b) = true) : St p cls V (V'.setCell ⟨b, i, none⟩ v) :=
  ⟨h.os, h.tape, h.output, by rw [World.size_setCell]; exact h.size, fun k hk hk2 => (Below.heap_setCell _ _ _ k (by show k ≠ b; rintro rfl; rw [hp] at hk2; cases hk2)).trans (h.block k hk hk2)⟩
theorem St.weak {p q : Nat → Bool} {cls : Nat → Nat} {V V' : World} (h : St p cls V V') (hpq : ∀ c, q c = false → p c = false) : St q cls V V' := ⟨h.os, h.tape, h.output, h.size, fun k hk hk2 => h.block k hk (hpq _ hk2)⟩
def OwnC (V : World) (cls : Nat → Nat) (c : Nat) (e size : Nat) (v : Value) (n : Nat) (xs : List Value) : Prop := V.ownsRow 0 e size v n xs ∧ ∀ g, v.ownBlock = some g → cls g = c
theorem OwnC.keep {p : Nat → Bool} {cls cls' : Nat → Nat} {V V' : World} {c e size n : Nat} {v : Value} {xs : List Value} (h : OwnC V cls c e size v n xs) (hs : St p cls V V') (hp : p c = false) (hc : ∀ k, k < V.heap.size → cls k = c → cls' k = c) : OwnC V' cls' c e size v n xs := by
  obtain ⟨⟨h1, h2⟩, h3⟩ := h
  rcases h2 with ⟨rfl, rfl⟩ | ⟨g, cap, cur, rfl, hb, hg, r⟩
  · exact ⟨⟨h1, .inl ⟨rfl, rfl⟩⟩, fun g hg => by simp [Value.ownBlock] at hg⟩
  · have hlt := lt_of_block hg
    have hcg := h3 g rfl
    refine ⟨⟨h1, .inr ⟨g, cap, cur, rfl, hb, (hs.block g hlt (by rw [hcg]; exact hp)).trans hg, r⟩⟩, fun g' hg' => ?_⟩
    obtain rfl : g = g' := by simpa [Value.ownBlock] using hg'
    exact hc g hlt hcg
/-- Rows of ints: the row of slices is of class c, what they lead to of class 0. -/
def RowsC (V : World) (cls : Nat → Nat) (c : Nat) (v : Value) (M : List (List Nat)) : Prop :=
  ∃ Es : List Value, OwnC V cls c 23 1 v M.length Es ∧ ∀ i, i < M.length → ∃ a m cp, Es[i]? = some (.slice a m cp) ∧ Sl V a m cp (ints (wdW M i)) ∧ (0 < m → ∀ b o, a = some ⟨b, o, none⟩ → cls b = 0)
theorem Sl.keepC {p : Nat → Bool} {cls : Nat → Nat} {V V' : World} {a : Option Addr} {m cp : Nat} {l : List Int} (h : Sl V a m cp l) (hs : St p cls V V') (hp : p 0 = false) (hc : 0 < m → ∀ b o, a = some ⟨b, o, none⟩ → cls b = 0) : Sl V' a m cp l := by
  obtain ⟨h1, h2, h3, h | h | ⟨b, off, rfl, hlt, hcl⟩⟩ := h
  · exact ⟨h1, h2, h3, .inl h⟩
  · exact ⟨h1, h2, h3, .inr (.inl h)⟩
  · have hsz := hs.size
    refine ⟨h1, h2, h3, .inr (.inr ⟨b, off, rfl, by omega, fun i hi => ?_⟩)⟩
    rw [cells_same (hs.block b hlt (by rw [hc (by omega) b off rfl]; exact hp))]
    exact hcl i hi
theorem RowsC.keep {p : Nat → Bool} {cls cls' : Nat → Nat} {V V' : World} {c : Nat} {v : Value} {M : List (List Nat)} (h : RowsC V cls c v M) (hs : St p cls V V') (hp : p c = false) (hp0 : p 0 = false) (hc : ∀ k, k < V.heap.size → cls k = c → cls' k = c) (hc0 : ∀ k, k < V.heap.size → cls k = 0 → cls' k = 0) : RowsC V' cls' c v M := by
  obtain ⟨Es, h1, h2⟩ := h
  refine ⟨Es, h1.keep hs hp hc, fun i hi => ?_⟩
  obtain ⟨a, m, cp, h3, h4, h5⟩ := h2 i hi
  refine ⟨a, m, cp, h3, h4.keepC hs hp0 h5, fun hm b o e => ?_⟩
  obtain ⟨b', o', e', hb, _⟩ := h4.at hm
  rw [e'] at e
  simp only [Option.some.injEq, Addr.mk.injEq, and_true] at e
  obtain ⟨rfl, rfl⟩ := e
  exact hc0 _ hb (h5 hm _ _ e')
theorem wdW_snoc (M : List (List Nat)) (x : List Nat) (i : Nat) (h : i < M.length + 1) : wdW (M ++ [x]) i = if i < M.length then wdW M i else x := by
  unfold wdW
  rw [List.getD_eq_getElem?_getD, List.getD_eq_getElem?_getD]
  by_cases h1 : i < M.length
  · rw [if_pos h1, List.getElem?_append_left h1]
  · rw [if_neg h1, List.getElem?_append_right (by omega), show i - M.length = 0 by omega]
    rfl
structure TSc (w : World) (n gx tb gm : Nat) (cls : Nat → Nat) (Em El : List (List Int)) (W N : List (List Nat)) (row : List Nat) (vl vr vw vn : Value) (V : World) : Prop where
  below : Below w.heap.size w V
  old : ∀ k, k < w.heap.size → cls k = 0
  box : V.heap[gx]? = some (.cells #[.int .u8 65, .int .i64 (n : Int)] 28 (0, 0))
  cgx : cls gx = 0
  tbl : V.heap[tb]? = some (.cells #[.int .u8 65, .int .i64 (n : Int), vw, vn, .map (some gm)] 58 (0, 0))
  ctb : cls tb = 1
  wds : RowsC V cls 2 vw W
  nxt : RowsC V cls 3 vn N
  map : MapE V gm Em.length Em
  cgm : cls gm = 5
  els : OwnC V cls 4 63 24 vl El.length (El.flatMap fun e => (eC e).toList)
  rows : OwnC V cls 6 3 1 vr row.length (vals row)
  tbw : w.heap.size ≤ tb
def TS (w : World) (n gx tb gm : Nat) (Em El : List (List Int)) (W N : List (List Nat)) (row : List Nat) (vl vr vw vn : Value) (V : World) : Prop := ∃ cls, TSc w n gx tb gm cls Em El W N row vl vr vw vn V
end Go.Proofs.YtiapngmallfelaaDoor
