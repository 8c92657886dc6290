/- Chapter 9: what a call made and owns: acts, slices of acts, rows, fractions. -/
import Derived.Test.YtcmakddnjmeklaaZy
namespace Go.Proofs.Ytcmakddnjmeklaa
open Go.RowKit

def cells2 (f g : Nat → Value) (n : Nat) : List Value := (List.range n).flatMap fun i => [f i, g i]
theorem cells2_succ (f g : Nat → Value) (n : Nat) : cells2 f g (n + 1) = cells2 f g n ++ [f n, g n] := by
  unfold cells2; rw [List.range_succ, List.flatMap_append]; rfl
theorem cells2_len (f g : Nat → Value) (n : Nat) : (cells2 f g n).length = n * 2 := by
  induction n with
  | zero => rfl
  | succ n ih => rw [cells2_succ, List.length_append, ih]; simp; omega
theorem cells2_at (f g : Nat → Value) {n i : Nat} (hi : i < n) : (cells2 f g n)[i * 2]? = some (f i) ∧ (cells2 f g n)[i * 2 + 1]? = some (g i) := by
  induction n with
  | zero => omega
  | succ n ih =>
    rw [cells2_succ]
    by_cases e : i < n
    · have hl := cells2_len f g n
      rw [List.getElem?_append_left (by omega), List.getElem?_append_left (by omega)]
      exact ih e
    · obtain rfl : i = n := by omega
      have hl := cells2_len f g i
      rw [List.getElem?_append_right (by omega), List.getElem?_append_right (by omega), hl, Nat.sub_self, show i * 2 + 1 - i * 2 = 1 by omega]
      exact ⟨rfl, rfl⟩
theorem cells2_congr {f g f' g' : Nat → Value} {n : Nat} (hf : ∀ i, i < n → f i = f' i) (hg : ∀ i, i < n → g i = g' i) : cells2 f g n = cells2 f' g' n := by
  induction n with
  | zero => rfl
  | succ n ih => rw [cells2_succ, cells2_succ, ih (fun i hi => hf i (by omega)) (fun i hi => hg i (by omega)), hf n (by omega), hg n (by omega)]

/-- Owned, and its block lies below hi. -/
def OwnIn (w : World) (lo hi e size : Nat) (v : Value) (n : Nat) (xs : List Value) : Prop := w.ownsRow lo e size v n xs ∧ ∀ b, v.ownBlock = some b → b < hi
theorem OwnIn.keep {w w' : World} {lo hi e size n : Nat} {v : Value} {xs : List Value} (h : OwnIn w lo hi e size v n xs) (hk : ∀ b cs, lo ≤ b → b < hi → w.heap[b]? = some (.cells cs e (0, 0)) → w'.heap[b]? = w.heap[b]?) : OwnIn w' lo hi e size v n xs := by
  obtain ⟨⟨h1, h2⟩, h3⟩ := h
  refine ⟨⟨h1, ?_⟩, h3⟩
  rcases h2 with hn | ⟨g, cap, cur, rfl, hb, hg, rest⟩
  · exact .inl hn
  · exact .inr ⟨g, cap, cur, rfl, hb, (hk g cur hb (h3 g rfl) hg).trans hg, rest⟩
theorem OwnIn.mono {w w' : World} {lo hi e size n : Nat} {v : Value} {xs : List Value} (h : OwnIn w lo hi e size v n xs) (hb : Below w.heap.size w w') : OwnIn w' lo hi e size v n xs :=
  h.keep fun b _ _ _ q => hb.block b (lt_of_block q)
theorem OwnIn.wide {w : World} {lo hi hi' e size n : Nat} {v : Value} {xs : List Value} (h : OwnIn w lo hi e size v n xs) (hh : hi ≤ hi') : OwnIn w lo hi' e size v n xs :=
  ⟨h.1, fun b hb => Nat.lt_of_lt_of_le (h.2 b hb) hh⟩
theorem own_in {w : World} {lo e size n : Nat} {v : Value} {xs : List Value} (h : w.ownsRow lo e size v n xs) : OwnIn w lo w.heap.size e size v n xs := ⟨h, fun b hb => (h.lt b hb).2⟩
theorem own_cells {w : World} {base e n c size : Nat} {a : Option Addr} {xs : List Value} (h : w.ownsRow base e size (.slice a n c) n xs) (hn : 0 < n) :
    ∃ g, a = some ⟨g, 0, none⟩ ∧ base ≤ g ∧ g < w.heap.size ∧ n ≤ c ∧ c ≤ maxLen ∧ (∀ j u, xs[j]? = some u → w.cell? ⟨g, j, none⟩ = some u) ∧ (∀ j, w.frozen? ⟨g, j, none⟩ = false) ∧ ∃ cur, w.heap[g]? = some (.cells cur e (0, 0)) := by
  have hcells := fun g => h.cells (g := g)
  rcases h.2 with ⟨e1, h0⟩ | ⟨g, cap, cur, e1, hb, hg, hnc, hc, hs, ht⟩
  · omega
  · injection e1 with e2 e3 e4
    subst e2 e4
    refine ⟨g, rfl, hb, lt_of_block hg, hnc, hc, fun j u hu => ?_, free_at hg, cur, hg⟩
    have := hcells g rfl j u hu
    rwa [show (⟨g, 0, none⟩ : Addr).add j = ⟨g, j, none⟩ by unfold Addr.add; split <;> simp_all] at this

/-- Acts of the call's own: the cells in one block, the odds in blocks of their own between D i and D (i + 1). -/
def ActsTr (w : World) (lo hi : Nat) (v : Value) (A : List Ac) (E : Nat → Value) (D : Nat → Nat) : Prop :=
  OwnIn w lo hi 50 2 v A.length (cells2 (fun i => .int .i64 (ac A i).g) E A.length) ∧ lo ≤ D 0 ∧ (∀ i, i < A.length → D i ≤ D (i + 1)) ∧ D A.length ≤ hi ∧
    ∀ i, i < A.length → OwnIn w (D i) (D (i + 1)) 3 1 (E i) (ac A i).o.length ((ac A i).o.map (Value.int .i64))
def ActsOwn (w : World) (lo hi : Nat) (v : Value) (A : List Ac) : Prop := ∃ (E : Nat → Value) (D : Nat → Nat), ActsTr w lo hi v A E D
def Acts2Tr (w : World) (lo hi : Nat) (v : Value) (A : List (List Ac)) (E : Nat → Value) (D : Nat → Nat) : Prop :=
  OwnIn w lo hi 49 1 v A.length ((List.range A.length).map E) ∧ lo ≤ D 0 ∧ (∀ i, i < A.length → D i ≤ D (i + 1)) ∧ D A.length ≤ hi ∧
    ∀ i, i < A.length → ActsOwn w (D i) (D (i + 1)) (E i) (acl A i)
def Acts2Own (w : World) (lo hi : Nat) (v : Value) (A : List (List Ac)) : Prop := ∃ (E : Nat → Value) (D : Nat → Nat), Acts2Tr w lo hi v A E D

theorem mono_le {D : Nat → Nat} {n : Nat} (h : ∀ i, i < n → D i ≤ D (i + 1)) : ∀ i j, i ≤ j → j ≤ n → D i ≤ D j := by
  intro i j hij hj
  induction j with
  | zero => have : i = 0 := by omega
            subst this; exact Nat.le_refl _
  | succ j ih =>
    by_cases e : i = j + 1
    · subst e; exact Nat.le_refl _
    · exact Nat.le_trans (ih (by omega) (by omega)) (h j (by omega))

theorem ActsOwn.keep {w w' : World} {lo hi : Nat} {v : Value} {A : List Ac} (h : ActsOwn w lo hi v A)
    (hk : ∀ b cs e, lo ≤ b → b < hi → (e = 50 ∨ e = 3) → w.heap[b]? = some (.cells cs e (0, 0)) → w'.heap[b]? = w.heap[b]?) : ActsOwn w' lo hi v A := by
  obtain ⟨E, D, h1, h2, h3, h4, h5⟩ := h
  refine ⟨E, D, h1.keep fun b cs hl hh hb => hk b cs _ hl hh (.inl rfl) hb, h2, h3, h4, fun i hi => (h5 i hi).keep fun b cs hl hh hb => hk b cs _ ?_ ?_ (.inr rfl) hb⟩
  · have := mono_le h3 0 i (by omega) (by omega); omega
  · have := mono_le h3 (i + 1) A.length (by omega) (by omega); omega
theorem ActsOwn.mono {w w' : World} {lo hi : Nat} {v : Value} {A : List Ac} (h : ActsOwn w lo hi v A) (hb : Below w.heap.size w w') : ActsOwn w' lo hi v A :=
  h.keep fun b _ _ _ _ _ q => hb.block b (lt_of_block q)
theorem ActsOwn.wide {w : World} {lo hi hi' : Nat} {v : Value} {A : List Ac} (h : ActsOwn w lo hi v A) (hh : hi ≤ hi') : ActsOwn w lo hi' v A := by
  obtain ⟨E, D, h1, h2, h3, h4, h5⟩ := h
  exact ⟨E, D, h1.wide hh, h2, h3, by omega, h5⟩
theorem Acts2Own.keep {w w' : World} {lo hi : Nat} {v : Value} {A : List (List Ac)} (h : Acts2Own w lo hi v A)
    (hk : ∀ b cs e, lo ≤ b → b < hi → (e = 49 ∨ e = 50 ∨ e = 3) → w.heap[b]? = some (.cells cs e (0, 0)) → w'.heap[b]? = w.heap[b]?) : Acts2Own w' lo hi v A := by
  obtain ⟨E, D, h1, h2, h3, h4, h5⟩ := h
  refine ⟨E, D, h1.keep fun b cs hl hh hb => hk b cs _ hl hh (.inl rfl) hb, h2, h3, h4, fun i hi => (h5 i hi).keep fun b cs e hl hh he hb => hk b cs e ?_ ?_ (.inr he) hb⟩
  · have := mono_le h3 0 i (by omega) (by omega); omega
  · have := mono_le h3 (i + 1) A.length (by omega) (by omega); omega
theorem Acts2Own.mono {w w' : World} {lo hi : Nat} {v : Value} {A : List (List Ac)} (h : Acts2Own w lo hi v A) (hb : Below w.heap.size w w') : Acts2Own w' lo hi v A :=
  h.keep fun b _ _ _ _ _ q => hb.block b (lt_of_block q)

/-- What is owned reads as its acts. -/
theorem ActsOwn.sl {w : World} {lo hi : Nat} {v : Value} {A : List Ac} (h : ActsOwn w lo hi v A) : ∃ a c, v = .slice a A.length c ∧ AcSl w a A.length c A := by
  obtain ⟨E, D, h1, h2, h3, h4, h5⟩ := h
  obtain ⟨a, c, rfl⟩ := own_form h1.1
  refine ⟨a, c, rfl, rfl, ?_⟩
  by_cases hn : 0 < A.length
  · obtain ⟨g, rfl, _, hg, hnc, hc, hcells, _, _⟩ := own_cells h1.1 hn
    refine ⟨hnc, hc, .inr (.inr ⟨g, 0, rfl, hg, fun i hi => ?_⟩)⟩
    rw [Nat.zero_add]
    have q := cells2_at (fun i => Value.int .i64 (ac A i).g) E hi
    obtain ⟨b, cb, he⟩ := own_form (h5 i hi).1
    refine ⟨hcells _ _ q.1, b, (ac A i).o.length, cb, by rw [hcells _ _ q.2, he], ?_⟩
    have := (h5 i hi).1
    rw [he] at this
    exact own_sl this
  · have h0 : A.length = 0 := by omega
    rcases h1.1.2 with ⟨e1, _⟩ | ⟨g, cap, cur, e1, _, hg, hnc, hc, _⟩
    · injection e1 with e1 _ e3
      exact ⟨by omega, by unfold maxLen; omega, .inl ⟨e1, h0, e3⟩⟩
    · injection e1 with e1 _ e3
      subst e1 e3
      exact ⟨hnc, hc, .inr (.inr ⟨g, 0, rfl, lt_of_block hg, fun i hi => by omega⟩)⟩
theorem Acts2Own.sl {w : World} {lo hi : Nat} {v : Value} {A : List (List Ac)} (h : Acts2Own w lo hi v A) : ∃ a c, v = .slice a A.length c ∧ A2Sl w a A.length c A := by
  obtain ⟨E, D, h1, h2, h3, h4, h5⟩ := h
  obtain ⟨a, c, rfl⟩ := own_form h1.1
  refine ⟨a, c, rfl, rfl, ?_⟩
  by_cases hn : 0 < A.length
  · obtain ⟨g, rfl, _, hg, hnc, hc, hcells, _, _⟩ := own_cells h1.1 hn
    refine ⟨hnc, hc, .inr (.inr ⟨g, 0, rfl, hg, fun i hi => ?_⟩)⟩
    rw [Nat.zero_add, Nat.mul_one]
    obtain ⟨b, cb, he, hA⟩ := (h5 i hi).sl
    exact ⟨b, _, cb, by rw [hcells i (E i) (by simp [hi]), he], hA⟩
  · have h0 : A.length = 0 := by omega
    rcases h1.1.2 with ⟨e1, _⟩ | ⟨g, cap, cur, e1, _, hg, hnc, hc, _⟩
    · injection e1 with e1 _ e3
      exact ⟨by omega, by unfold maxLen; omega, .inl ⟨e1, h0, e3⟩⟩
    · injection e1 with e1 _ e3
      subst e1 e3
      exact ⟨hnc, hc, .inr (.inr ⟨g, 0, rfl, lt_of_block hg, fun i hi => by omega⟩)⟩

theorem own_type {w : World} {lo e size n g : Nat} {v : Value} {xs : List Value} (h : w.ownsRow lo e size v n xs) (hg : v.ownBlock = some g) : ∃ cs, w.heap[g]? = some (.cells cs e (0, 0)) := by
  rcases h.2 with ⟨rfl, _⟩ | ⟨g', cap, cur, rfl, _, h2, _⟩
  · simp [Value.ownBlock] at hg
  · simp [Value.ownBlock] at hg
    subst hg; exact ⟨cur, h2⟩
/-- A step of append leaves all blocks but the row's own. -/
theorem app_keep {w0 w1 w2 : World} {o : Obj} {lo e size n : Nat} {v : Value} {xs : List Value} (h : w0.ownsRow lo e size v n xs) (hb : Below w0.heap.size w0 w1) (hg : (w1.alloc o).grownBy w2 v.ownBlock) :
    w1.heap.size < w2.heap.size ∧ (∀ b : Nat, w0.heap.size ≤ b → b < w1.heap.size → w2.heap[b]? = w1.heap[b]?) ∧ ∀ (b : Nat) (cs : Array Value) (e' : Nat), e' ≠ e → w0.heap[b]? = some (Obj.cells cs e' (0, 0)) → w2.heap[b]? = w0.heap[b]? := by
  have hs : (w1.alloc o).heap.size = w1.heap.size + 1 := by simp
  have h1 := hg.size
  have h2 := hb.size
  refine ⟨by omega, fun b hb1 hb2 => ?_, fun b cs e' hne hbb => ?_⟩
  · rw [hg.block b (by omega) (fun e => by have := (h.lt b e.symm).2; omega)]
    exact Below.heap_alloc w1 o b hb2
  · have hlt := lt_of_block hbb
    rw [hg.block b (by omega) (fun e => ?_)]
    · rw [Below.heap_alloc w1 o b (by omega)]; exact hb.block b hlt
    · obtain ⟨cs2, h3⟩ := own_type h e.symm
      rw [hbb] at h3
      injection h3 with h3
      injection h3 with _ h4
      exact hne h4
theorem ac_app {A : List Ac} {x : Ac} {i : Nat} : ac (A ++ [x]) i = if i < A.length then ac A i else if i = A.length then x else ⟨0, []⟩ := by
  unfold ac
  rw [List.getD_eq_getElem?_getD, List.getD_eq_getElem?_getD]
  by_cases h : i < A.length
  · rw [if_pos h, List.getElem?_append_left h]
  · rw [if_neg h, List.getElem?_append_right (by omega)]
    by_cases e : i = A.length
    · rw [if_pos e, e]; simp
    · rw [if_neg e, List.getElem?_eq_none (by simp; omega)]; rfl
theorem acl_app {A : List (List Ac)} {x : List Ac} {i : Nat} : acl (A ++ [x]) i = if i < A.length then acl A i else if i = A.length then x else [] := by
  unfold acl
  rw [List.getD_eq_getElem?_getD, List.getD_eq_getElem?_getD]
  by_cases h : i < A.length
  · rw [if_pos h, List.getElem?_append_left h]
  · rw [if_neg h, List.getElem?_append_right (by omega)]
    by_cases e : i = A.length
    · rw [if_pos e, e]; simp
    · rw [if_neg e, List.getElem?_eq_none (by simp; omega)]; rfl

/-- One act more. -/
theorem ActsTr.snoc {w0 w1 w2 : World} {o : Obj} {lo : Nat} {v v' E' : Value} {A : List Ac} {x : Ac} {E : Nat → Value} {D : Nat → Nat} (h : ActsTr w0 lo w0.heap.size v A E D) (hlo : lo ≤ w0.heap.size) (hb : Below w0.heap.size w0 w1)
    (hE : w1.ownsRow w0.heap.size 3 1 E' x.o.length (x.o.map (Value.int .i64)))
    (hown : w2.ownsRow lo 50 2 v' (A.length + 1) (cells2 (fun i => .int .i64 (ac A i).g) E A.length ++ [.int .i64 x.g, E']))
    (hg : (w1.alloc o).grownBy w2 v.ownBlock) : ActsOwn w2 lo w2.heap.size v' (A ++ [x]) := by
  obtain ⟨h1, h2, h3, h4, h5⟩ := h
  obtain ⟨k1, k2, k3⟩ := app_keep h1.1 hb hg
  have hz := hb.size
  have hl : (A ++ [x]).length = A.length + 1 := by simp
  refine ⟨fun i => if i < A.length then E i else E', fun i => if i < A.length then D i else if i = A.length then w0.heap.size else w2.heap.size, ?_, ?_, ?_, ?_, ?_⟩
  · rw [hl]
    refine own_in ?_
    rw [cells2_succ]
    show w2.ownsRow _ _ _ _ _ (_ ++ [Value.int .i64 (ac (A ++ [x]) A.length).g, if A.length < A.length then E A.length else E'])
    rw [if_neg (Nat.lt_irrefl _), ac_app, if_neg (Nat.lt_irrefl _), if_pos rfl]
    rw [cells2_congr (f := fun i => Value.int .i64 (ac (A ++ [x]) i).g) (f' := fun i => Value.int .i64 (ac A i).g) (g' := E) (fun i hi => by rw [ac_app, if_pos hi]) (fun i hi => by rw [if_pos hi])]
    exact hown
  · show lo ≤ if 0 < A.length then D 0 else if 0 = A.length then w0.heap.size else w2.heap.size
    split
    · exact h2
    · split <;> omega
  · intro i hi
    rw [hl] at hi
    show (if i < A.length then D i else if i = A.length then w0.heap.size else w2.heap.size) ≤ if i + 1 < A.length then D (i + 1) else if i + 1 = A.length then w0.heap.size else w2.heap.size
    by_cases e : i < A.length
    · rw [if_pos e]
      have h6 := h3 i e
      have h7 := mono_le h3 (i + 1) A.length (by omega) (by omega)
      split
      · exact h6
      · rw [if_pos (by omega)]; omega
    · rw [if_neg e, if_pos (by omega), if_neg (by omega), if_neg (by omega)]; omega
  · show (if (A ++ [x]).length < A.length then _ else if (A ++ [x]).length = A.length then _ else _) ≤ _
    rw [hl, if_neg (by omega), if_neg (by omega)]; exact Nat.le_refl _
  · intro i hi
    rw [hl] at hi
    show OwnIn w2 (if i < A.length then D i else if i = A.length then w0.heap.size else w2.heap.size) (if i + 1 < A.length then D (i + 1) else if i + 1 = A.length then w0.heap.size else w2.heap.size) _ _ (if i < A.length then E i else E') _ _
    rw [ac_app]
    by_cases e : i < A.length
    · rw [if_pos e, if_pos e, if_pos e]
      have h6 := (h5 i e).keep (w' := w2) fun b cs _ _ hbb => k3 b cs _ (by decide) hbb
      refine h6.wide ?_
      have h7 := mono_le h3 (i + 1) A.length (by omega) (by omega)
      split
      · exact Nat.le_refl _
      · rw [if_pos (by omega)]; omega
    · have e' : i = A.length := by omega
      rw [if_neg e, if_pos e', if_neg e, if_neg e, if_pos e', if_neg (by omega), if_neg (by omega)]
      refine ((own_in hE).keep fun b cs hl hh _ => k2 b hl hh).wide (Nat.le_of_lt k1)

/-- One list more. -/
theorem Acts2Tr.snoc {w0 w1 w2 : World} {o : Obj} {lo : Nat} {v v' E' : Value} {A : List (List Ac)} {x : List Ac} {E : Nat → Value} {D : Nat → Nat} (h : Acts2Tr w0 lo w0.heap.size v A E D) (hlo : lo ≤ w0.heap.size) (hb : Below w0.heap.size w0 w1)
    (hE : ActsOwn w1 w0.heap.size w1.heap.size E' x)
    (hown : w2.ownsRow lo 49 1 v' (A.length + 1) ((List.range A.length).map E ++ [E']))
    (hg : (w1.alloc o).grownBy w2 v.ownBlock) : Acts2Own w2 lo w2.heap.size v' (A ++ [x]) := by
  obtain ⟨h1, h2, h3, h4, h5⟩ := h
  obtain ⟨k1, k2, k3⟩ := app_keep h1.1 hb hg
  have hz := hb.size
  have hl : (A ++ [x]).length = A.length + 1 := by simp
  refine ⟨fun i => if i < A.length then E i else E', fun i => if i < A.length then D i else if i = A.length then w0.heap.size else w2.heap.size, ?_, ?_, ?_, ?_, ?_⟩
  · rw [hl]
    refine own_in ?_
    rw [List.range_succ, List.map_append, List.map_singleton, if_neg (Nat.lt_irrefl _)]
    rw [show (List.range A.length).map (fun i => if i < A.length then E i else E') = (List.range A.length).map E from List.map_congr_left fun i hi => if_pos (List.mem_range.1 hi)]
    exact hown
  · show lo ≤ if 0 < A.length then D 0 else if 0 = A.length then w0.heap.size else w2.heap.size
    split
    · exact h2
    · split <;> omega
  · intro i hi
    rw [hl] at hi
    show (if i < A.length then D i else if i = A.length then w0.heap.size else w2.heap.size) ≤ if i + 1 < A.length then D (i + 1) else if i + 1 = A.length then w0.heap.size else w2.heap.size
    by_cases e : i < A.length
    · rw [if_pos e]
      have h6 := h3 i e
      have h7 := mono_le h3 (i + 1) A.length (by omega) (by omega)
      split
      · exact h6
      · rw [if_pos (by omega)]; omega
    · rw [if_neg e, if_pos (by omega), if_neg (by omega), if_neg (by omega)]; omega
  · show (if (A ++ [x]).length < A.length then _ else if (A ++ [x]).length = A.length then _ else _) ≤ _
    rw [hl, if_neg (by omega), if_neg (by omega)]; exact Nat.le_refl _
  · intro i hi
    rw [hl] at hi
    show ActsOwn w2 (if i < A.length then D i else if i = A.length then w0.heap.size else w2.heap.size) (if i + 1 < A.length then D (i + 1) else if i + 1 = A.length then w0.heap.size else w2.heap.size) (if i < A.length then E i else E') _
    rw [acl_app]
    by_cases e : i < A.length
    · rw [if_pos e, if_pos e, if_pos e]
      have h6 := (h5 i e).keep (w' := w2) fun b cs e' _ _ he hbb => k3 b cs e' (by rcases he with rfl | rfl <;> decide) hbb
      refine h6.wide ?_
      have h7 := mono_le h3 (i + 1) A.length (by omega) (by omega)
      split
      · exact Nat.le_refl _
      · rw [if_pos (by omega)]; omega
    · have e' : i = A.length := by omega
      rw [if_neg e, if_pos e', if_neg e, if_neg e, if_pos e', if_neg (by omega), if_neg (by omega)]
      exact (hE.keep fun b cs e' hl hh _ _ => k2 b hl hh).wide (Nat.le_of_lt k1)
end Go.Proofs.Ytcmakddnjmeklaa
