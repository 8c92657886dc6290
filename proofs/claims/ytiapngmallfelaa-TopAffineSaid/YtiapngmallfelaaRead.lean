
/- Walks: Read, own, awake. -/
import Derived.Test.YtiapngmallfelaaNumP
namespace Go.Proofs.Ytiapngmallfelaa
open Go.RowKit

theorem below_set4 {B : Nat} {w w1 : World} {p : Nat} (h : Below B w w1) (hp : B ≤ p) (a b c d : Value) : Below B w ((((w1.setCell ⟨p, 0, none⟩ a).setCell ⟨p, 1, none⟩ b).setCell ⟨p, 2, none⟩ c).setCell ⟨p, 3, none⟩ d) :=
  (((h.setCell hp _).setCell hp _).setCell hp _).setCell hp _

theorem bal {w w1 : World} (h : Below w.heap.size w w1) (o : Obj) : Below w.heap.size w (w1.alloc o) := h.alloc h.size o

theorem btr {w w1 w2 : World} (h : Below w.heap.size w w1) (k : Below w1.heap.size w1 w2) : Below w.heap.size w w2 := h.trans (k.mono h.size)

/-! ### schemes.Read -/
set_option maxHeartbeats 400000 in
theorem read_bad (w : World) (a : Option Addr) (n cap : Nat) (l : List Int) (hs : Sl w a n cap l) (hv : ¬ VldP l) :
    Calls Try.prog 10 #[.slice a n cap] w fun e w' => e = .returned (.tuple #[agg4 0 0 0 0, .int .i64 2]) ∧ Below w.heap.size w w' := by
  have hd : decide (VldP l) = false := by simp [hv]
  have hs2 : Sl (w.alloc (.cells #[.int .i64 0, .int .i64 0, .int .i64 0, .int .i64 0] 30)) a n cap l := hs.mono ((Below.refl _ _).alloc (Nat.le_refl _) _)
  go_enter Try.func10, Try.ntmps10
  go_wp2_with (go_at_call 34; refine (valid_go _ _ _ _ _ hs2).mono ?_; rintro e w' ⟨rfl, m, rfl⟩)
  refine bodyPost_ret (v := .tuple #[agg4 0 0 0 0, .int .i64 2]) ?_ rfl ⟨rfl, ?_⟩
  · simp [results, Try.results10, go_sem]
  · exact below_set4 (drewN_below ((Below.refl _ _).alloc (Nat.le_refl _) _)) (Nat.le_refl _) _ _ _ _

theorem bcell {W w1 : World} (hb : Below W.heap.size W w1) : (∀ b o, b < W.heap.size → w1.cell? ⟨b, o, none⟩ = W.cell? ⟨b, o, none⟩) ∧ (∀ b o, b < W.heap.size → w1.frozen? ⟨b, o, none⟩ = W.frozen? ⟨b, o, none⟩) :=
  ⟨fun b o h => hb.cell (p := ⟨b, o, none⟩) h, fun b o h => hb.frozen (p := ⟨b, o, none⟩) h⟩

theorem four_at {w : World} {p : Nat} {a b c d : Value} {E : TypeId} (h : w.heap[p]? = some (.cells #[a, b, c, d] E (0, 0))) :
    p < w.heap.size ∧ w.cell? ⟨p, 0, none⟩ = some a ∧ w.cell? ⟨p, 1, none⟩ = some b ∧ w.cell? ⟨p, 2, none⟩ = some c ∧ w.cell? ⟨p, 3, none⟩ = some d ∧
    w.frozen? ⟨p, 0, none⟩ = false ∧ w.frozen? ⟨p, 1, none⟩ = false ∧ w.frozen? ⟨p, 2, none⟩ = false ∧ w.frozen? ⟨p, 3, none⟩ = false := by
  refine ⟨lt_of_block h, ?_, ?_, ?_, ?_, free_at h 0, free_at h 1, free_at h 2, free_at h 3⟩ <;> rw [cells_at h] <;> rfl
/-- The variable that a call made first, seen behind a callee. -/
theorem kept_new {w w' : World} {o : Obj} {m : Nat} (hb : Below ((w.alloc o).drewN m).heap.size ((w.alloc o).drewN m) w') : w'.heap[w.heap.size]? = some o := by
  rw [hb.block w.heap.size (by show _ < (w.alloc o).heap.size; simp)]
  show (w.alloc o).heap[w.heap.size]? = _
  simp [heap_alloc_eq]

theorem new_below {w w' : World} {o : Obj} {m : Nat} (hb : Below ((w.alloc o).drewN m).heap.size ((w.alloc o).drewN m) w') : Below w.heap.size w w' :=
  (drewN_below ((Below.refl _ _).alloc (Nat.le_refl _) _)).trans (hb.mono (by show _ ≤ (w.alloc o).heap.size; simp))

/-- What Read answers. -/
def ReadPost (w : World) (G : List Nat) (e : Ending) (w' : World) : Prop :=
  Below w.heap.size w w' ∧ ((∃ k l m : Nat, Num G k l m ∧ e = .returned (.tuple #[agg4 G.length k l m, .int .i64 0])) ∨ ((¬ ∃ k l m, Num G k l m) ∧ e = .returned (.tuple #[agg4 0 0 0 0, .int .i64 4])))

set_option maxHeartbeats 800000 in
theorem read_go (w : World) (a : Option Addr) (n cap : Nat) (G : List Nat) (hs : Sl w a n cap (ints G)) (hG : Gr G) :
    Calls Try.prog 10 #[.slice a n cap] w (ReadPost w G) := by
  have hd : decide (VldP (ints G)) = true := by simp [vld_ints hG]
  have hn : G.length = n := by have := hs.len; rwa [ints_length] at this
  subst hn
  have hs2 : Sl (w.alloc (.cells #[.int .i64 0, .int .i64 0, .int .i64 0, .int .i64 0] 30)) a G.length cap (ints G) := hs.mono ((Below.refl _ _).alloc (Nat.le_refl _) _)
  have hbn := ok_num hG
  have hbi := ok_iff hG
  have HBN := Lib.hid hbn
  have HBI := Lib.hid hbi
  clear hbn hbi
  rcases hsk : stL (Kl G G.length) with ⟨nk, tk, fk⟩
  rcases hsl : stL (Ll G true (prs G.length 0)) with ⟨nl, tl, fl⟩
  rcases hsm : stL (Ll G false (prs G.length 0)) with ⟨nm, tm, fm⟩
  cases hok : okB (nk, tk, fk) (nl, tl, fl) (nm, tm, fm) with
  | true =>
    have HK := Lib.hid hsk
    have HL := Lib.hid hsl
    have HM := Lib.hid hsm
    clear hsk hsl hsm
    go_enter Try.func10, Try.ntmps10
    go_wp2_with (first
      | (go_at_call 34; refine (valid_go _ _ _ _ _ hs2).mono ?_; rintro e w' ⟨rfl, m, rfl⟩)
      | (go_at_call 35; refine (numbers_go _ _ _ _ G (hs2.mono (drewN_below (Below.refl _ _))) hG).mono ?_; rw [HK.out, HL.out, HM.out]; rintro e w' ⟨rfl, hb⟩; obtain ⟨z, c0, c1, c2, c3, f0, f1, f2, f3⟩ := four_at (kept_new hb)))
    obtain ⟨k, l, m', hnum, ek, el, em⟩ := HBN.out (by rw [HK.out, HL.out, HM.out]; exact hok)
    rw [HK.out] at ek
    rw [HL.out] at el
    rw [HM.out] at em
    refine bodyPost_ret (v := .tuple #[agg4 G.length nk nl nm, .int .i64 0]) ?_ rfl ⟨?_, .inl ⟨k, l, m', hnum, ?_⟩⟩
    · simp [results, Try.results10, go_sem, *]
    · exact bal (below_set4 (new_below hb) (Nat.le_refl _) _ _ _ _) _
    · simp at ek el em; rw [ek, el, em]
  | false =>
    have HK := Lib.hid hsk
    have HL := Lib.hid hsl
    have HM := Lib.hid hsm
    clear hsk hsl hsm
    go_enter Try.func10, Try.ntmps10
    go_wp2_with (first
      | (go_at_call 34; refine (valid_go _ _ _ _ _ hs2).mono ?_; rintro e w' ⟨rfl, m, rfl⟩)
      | (go_at_call 35; refine (numbers_go _ _ _ _ G (hs2.mono (drewN_below (Below.refl _ _))) hG).mono ?_; rw [HK.out, HL.out, HM.out]; rintro e w' ⟨rfl, hb⟩; obtain ⟨z, c0, c1, c2, c3, f0, f1, f2, f3⟩ := four_at (kept_new hb)))
    refine bodyPost_ret (v := .tuple #[agg4 0 0 0 0, .int .i64 4]) ?_ rfl ⟨?_, .inr ⟨fun h => ?_, rfl⟩⟩
    · simp [results, Try.results10, go_sem, *]
    · exact bal (below_set4 (new_below hb) (Nat.le_refl _) _ _ _ _) _
    · have := HBI.out.2 h
      rw [HK.out, HL.out, HM.out, hok] at this; cases this

/-! ### own, awake -/
theorem vld5 : Gr [18, 5, 10, 20, 9] := by unfold Gr; decide
theorem num5 : Num [18, 5, 10, 20, 9] 2 0 1 := by
  refine ⟨by decide, by decide, by decide, ?_, ?_⟩
  · have : ∀ i, i < 5 → ∀ j, j < i → (gn [18, 5, 10, 20, 9] i).testBit j = true → pop (gn [18, 5, 10, 20, 9] i &&& gn [18, 5, 10, 20, 9] j) = 0 := by decide
    exact fun i j hi hj => this i hi j hj
  · have : ∀ i, i < 5 → ∀ j, j < i → (gn [18, 5, 10, 20, 9] i).testBit j = false → pop (gn [18, 5, 10, 20, 9] i &&& gn [18, 5, 10, 20, 9] j) = 1 := by decide
    exact fun i j hi hj => this i hi j hj
theorem sl_five (w : World) : Sl (w.alloc (.cells #[.int .i64 18, .int .i64 5, .int .i64 10, .int .i64 20, .int .i64 9] 3)) (some ⟨w.heap.size, 0, none⟩) 5 5 (ints [18, 5, 10, 20, 9]) := by
  refine ⟨rfl, Nat.le_refl _, by unfold maxLen; omega, .inr (.inr ⟨_, _, rfl, by simp, fun i hi => ?_⟩)⟩
  match i, hi with
  | 0, _ => simp [nth, ints]
  | 1, _ => simp [nth, ints]
  | 2, _ => simp [nth, ints]
  | 3, _ => simp [nth, ints]
  | 4, _ => simp [nth, ints]

/-- A graph with numbers. -/
theorem read_num (w : World) (a : Option Addr) (n cap : Nat) (G : List Nat) (hs : Sl w a n cap (ints G)) (hG : Gr G) {k l m : Nat} (hn : Num G k l m) :
    Calls Try.prog 10 #[.slice a n cap] w fun e w' => e = .returned (.tuple #[agg4 G.length k l m, .int .i64 0]) ∧ Below w.heap.size w w' := by
  refine (read_go w a n cap G hs hG).mono ?_
  rintro e w' ⟨hb, ⟨k', l', m', hn', rfl⟩ | ⟨hno, rfl⟩⟩
  · obtain ⟨rfl, rfl, rfl⟩ := Num.unique hG hn hn'
    exact ⟨rfl, hb⟩
  · exact absurd ⟨_, _, _, hn⟩ hno
theorem read_none (w : World) (a : Option Addr) (n cap : Nat) (G : List Nat) (hs : Sl w a n cap (ints G)) (hG : Gr G) (hn : ¬ ∃ k l m, Num G k l m) :
    Calls Try.prog 10 #[.slice a n cap] w fun e w' => e = .returned (.tuple #[agg4 0 0 0 0, .int .i64 4]) ∧ Below w.heap.size w w' := by
  refine (read_go w a n cap G hs hG).mono ?_
  rintro e w' ⟨hb, ⟨k', l', m', hn', rfl⟩ | ⟨hno, rfl⟩⟩
  · exact absurd ⟨_, _, _, hn'⟩ hn
  · exact ⟨rfl, hb⟩

end Go.Proofs.Ytiapngmallfelaa
