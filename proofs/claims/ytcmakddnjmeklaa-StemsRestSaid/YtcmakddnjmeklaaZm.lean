/- Chapter 9: rows of rows; walks: Grow, Concat, without, clone. -/
import Derived.Test.YtcmakddnjmeklaaZq
import Derived.Lib.AppendZeros
import Derived.StillTailTactics
namespace Go.Proofs.Ytcmakddnjmeklaa
open Go.RowKit

/-! ### rows of the call's own -/
def RwTr (w : World) (lo hi : Nat) (v : Value) (M : List (List Int)) (E : Nat → Value) (D : Nat → Nat) : Prop :=
  OwnIn w lo hi 26 1 v M.length ((List.range M.length).map E) ∧ lo ≤ D 0 ∧ (∀ i, i < M.length → D i ≤ D (i + 1)) ∧ D M.length ≤ hi ∧
    ∀ i, i < M.length → OwnIn w (D i) (D (i + 1)) 3 1 (E i) (rw_ M i).length ((rw_ M i).map (Value.int .i64))
def RwOwn (w : World) (lo hi : Nat) (v : Value) (M : List (List Int)) : Prop := ∃ (E : Nat → Value) (D : Nat → Nat), RwTr w lo hi v M E D
theorem RwOwn.keep {w w' : World} {lo hi : Nat} {v : Value} {A : List (List Int)} (h : RwOwn w lo hi v A)
    (hk : ∀ b cs e, lo ≤ b → b < hi → (e = 26 ∨ e = 3) → w.heap[b]? = some (.cells cs e (0, 0)) → w'.heap[b]? = w.heap[b]?) : RwOwn w' lo hi v A := by
  obtain ⟨E, D, h1, h2, h3, h4, h5⟩ := h
  refine ⟨E, D, h1.keep fun b cs hl hh hb => hk b cs _ hl hh (.inl rfl) hb, h2, h3, h4, fun i hi => (h5 i hi).keep fun b cs hl hh hb => hk b cs _ ?_ ?_ (.inr rfl) hb⟩
  · have := mono_le h3 0 i (by omega) (by omega); omega
  · have := mono_le h3 (i + 1) A.length (by omega) (by omega); omega
theorem RwOwn.mono {w w' : World} {lo hi : Nat} {v : Value} {A : List (List Int)} (h : RwOwn w lo hi v A) (hb : Below w.heap.size w w') : RwOwn w' lo hi v A :=
  h.keep fun b _ _ _ _ _ q => hb.block b (lt_of_block q)
theorem RwOwn.wide {w : World} {lo hi hi' : Nat} {v : Value} {A : List (List Int)} (h : RwOwn w lo hi v A) (hh : hi ≤ hi') : RwOwn w lo hi' v A := by
  obtain ⟨E, D, h1, h2, h3, h4, h5⟩ := h
  exact ⟨E, D, h1.wide hh, h2, h3, by omega, h5⟩
theorem RwOwn.low {w : World} {lo lo' hi : Nat} {v : Value} {A : List (List Int)} (h : RwOwn w lo hi v A) (hh : lo' ≤ lo) : RwOwn w lo' hi v A := by
  obtain ⟨E, D, h1, h2, h3, h4, h5⟩ := h
  exact ⟨E, D, h1.low hh, by omega, h3, h4, h5⟩
theorem RwOwn.nil (w : World) (lo : Nat) : RwOwn w lo lo (.slice none 0 0) [] :=
  ⟨fun _ => .slice none 0 0, fun _ => lo, ⟨World.ownsRow_nil _ _ _ _, fun b hb => by simp [Value.ownBlock] at hb⟩, Nat.le_refl _, fun i hi => absurd hi (by simp), Nat.le_refl _, fun i hi => absurd hi (by simp)⟩
theorem RwOwn.sl {w : World} {lo hi : Nat} {v : Value} {A : List (List Int)} (h : RwOwn w lo hi v A) : ∃ a c, v = .slice a A.length c ∧ RwSl w a A.length c A := by
  obtain ⟨E, D, h1, h2, h3, h4, h5⟩ := h
  obtain ⟨a, c, rfl⟩ := own_form h1.1
  refine ⟨a, c, rfl, rfl, ?_⟩
  by_cases hn : 0 < A.length
  · obtain ⟨g, rfl, _, hg, hnc, hc, hcells, _, _⟩ := own_cells h1.1 hn
    refine ⟨hnc, hc, .inr (.inr ⟨g, 0, rfl, hg, fun i hi => ?_⟩)⟩
    rw [Nat.zero_add, Nat.mul_one]
    obtain ⟨b, cb, he⟩ := own_form (h5 i hi).1
    refine ⟨b, (rw_ A i).length, cb, by rw [hcells i (E i) (by simp [hi]), he], ?_⟩
    have := (h5 i hi).1
    rw [he] at this
    exact own_sl this
  · have h0 : A.length = 0 := by omega
    rcases h1.1.2 with ⟨e1, _⟩ | ⟨g, cap, cur, e1, _, hg, hnc, hc, _⟩
    · injection e1 with e1 _ e3
      exact ⟨by omega, by unfold maxLen; omega, .inl ⟨e1, h0, e3⟩⟩
    · injection e1 with e1 _ e3
      subst e1 e3
      exact ⟨hnc, hc, .inr (.inr ⟨g, 0, rfl, lt_of_block hg, fun i hi => by omega⟩)⟩
theorem rw_app {A : List (List Int)} {x : List Int} {i : Nat} : rw_ (A ++ [x]) i = if i < A.length then rw_ A i else if i = A.length then x else [] := by
  unfold rw_
  rw [List.getD_eq_getElem?_getD, List.getD_eq_getElem?_getD]
  by_cases h : i < A.length
  · rw [if_pos h, List.getElem?_append_left h]
  · rw [if_neg h, List.getElem?_append_right (by omega)]
    by_cases e : i = A.length
    · rw [if_pos e, e]; simp
    · rw [if_neg e, List.getElem?_eq_none (by simp; omega)]; rfl
/-- One row more. -/
theorem RwTr.snocX {w0 w1 w2 : World} {o : Obj} {lo : Nat} {v v' E' : Value} {A : List (List Int)} {x : List Int} {E : Nat → Value} {D : Nat → Nat} (h : RwTr w0 lo w0.heap.size v A E D) (hlo : lo ≤ w0.heap.size) (hb : Below w0.heap.size w0 w1)
    (hE : w1.ownsRow w0.heap.size 3 1 E' x.length (x.map (Value.int .i64)))
    (hown : w2.ownsRow lo 26 1 v' (A.length + 1) ((List.range A.length).map E ++ [E']))
    (hg : (w1.alloc o).grownBy w2 v.ownBlock) : RwTr w2 lo w2.heap.size v' (A ++ [x]) (fun i => if i < A.length then E i else E') (fun i => if i < A.length then D i else if i = A.length then w0.heap.size else w2.heap.size) := by
  obtain ⟨h1, h2, h3, h4, h5⟩ := h
  obtain ⟨k1, k2, k3⟩ := app_keep h1.1 hb hg
  have hz := hb.size
  have hl : (A ++ [x]).length = A.length + 1 := by simp
  refine ⟨?_, ?_, ?_, ?_, ?_⟩
  · rw [hl]
    refine own_in ?_
    rw [List.range_succ, List.map_append, List.map_singleton, if_neg (Nat.lt_irrefl _)]
    rw [show (List.range A.length).map (fun i => if i < A.length then E i else E') = (List.range A.length).map E from List.map_congr_left fun i hi => if_pos (List.mem_range.1 hi)]
    exact hown
  · show lo ≤ if 0 < A.length then D 0 else if 0 = A.length then w0.heap.size else w2.heap.size
    split
    · exact h2
    · split <;> omega
  · intro i hi
    rw [hl] at hi
    show (if i < A.length then D i else if i = A.length then w0.heap.size else w2.heap.size) ≤ if i + 1 < A.length then D (i + 1) else if i + 1 = A.length then w0.heap.size else w2.heap.size
    by_cases e : i < A.length
    · rw [if_pos e]
      have h6 := h3 i e
      have h7 := mono_le h3 (i + 1) A.length (by omega) (by omega)
      split
      · exact h6
      · rw [if_pos (by omega)]; omega
    · rw [if_neg e, if_pos (by omega), if_neg (by omega), if_neg (by omega)]; omega
  · show (if (A ++ [x]).length < A.length then _ else if (A ++ [x]).length = A.length then _ else _) ≤ _
    rw [hl, if_neg (by omega), if_neg (by omega)]; exact Nat.le_refl _
  · intro i hi
    rw [hl] at hi
    show OwnIn w2 (if i < A.length then D i else if i = A.length then w0.heap.size else w2.heap.size) (if i + 1 < A.length then D (i + 1) else if i + 1 = A.length then w0.heap.size else w2.heap.size) _ _ (if i < A.length then E i else E') _ _
    rw [rw_app]
    by_cases e : i < A.length
    · rw [if_pos e, if_pos e, if_pos e]
      have h6 := (h5 i e).keep (w' := w2) fun b cs _ _ hbb => k3 b cs _ (by decide) hbb
      refine h6.wide ?_
      have h7 := mono_le h3 (i + 1) A.length (by omega) (by omega)
      split
      · exact Nat.le_refl _
      · rw [if_pos (by omega)]; omega
    · have e' : i = A.length := by omega
      rw [if_neg e, if_pos e', if_neg e, if_neg e, if_pos e', if_neg (by omega), if_neg (by omega)]
      refine ((own_in hE).keep fun b cs hl hh _ => k2 b hl hh).wide (Nat.le_of_lt k1)

theorem RwTr.snoc {w0 w1 w2 : World} {o : Obj} {lo : Nat} {v v' E' : Value} {A : List (List Int)} {x : List Int} {E : Nat → Value} {D : Nat → Nat} (h : RwTr w0 lo w0.heap.size v A E D) (hlo : lo ≤ w0.heap.size) (hb : Below w0.heap.size w0 w1)
    (hE : w1.ownsRow w0.heap.size 3 1 E' x.length (x.map (Value.int .i64)))
    (hown : w2.ownsRow lo 26 1 v' (A.length + 1) ((List.range A.length).map E ++ [E']))
    (hg : (w1.alloc o).grownBy w2 v.ownBlock) : RwOwn w2 lo w2.heap.size v' (A ++ [x]) := ⟨_, _, h.snocX hlo hb hE hown hg⟩

/-! ### Grow, Concat -/
def GivesOwn (w : World) (n : Nat) (L : List Int) (e : Ending) (w' : World) : Prop := ∃ a c, e = .returned (.slice a n c) ∧ w'.ownsRow w.heap.size 3 1 (.slice a n c) n (L.map (Value.int .i64)) ∧ Below w.heap.size w w'
set_option maxHeartbeats 400000 in
theorem grow_go (w : World) (n : Nat) (h0 : 1 ≤ n) (hn : n ≤ 16) :
    Calls Try.prog 94 #[.slice none 0 0, .int .i64 n] w (GivesOwn w 0 []) := by
  obtain ⟨i0, hi, hz0, hz1, hz2⟩ := info_parts infoInt
  have d0 : decide ((n : Int) < 0) = false := by simp
  have d1 : decide ((0 : Int) < (n : Int)) = true := by simp; omega
  have d2 : decide (0 < n) = true := by simp; omega
  have hr : ∀ ty, (Builtin.append_ #[26, 3] ty #[.slice none 0 0, .int .i64 n]).run Try.prog w = _ := fun ty => Lib.run_append_nil_zeros w 26 3 ty 3 i0 (.int .i64 0) .i64 .i64 Try.underlying26 Try.underlying3 hi hz0 n (by omega) (by omega) (by omega) (by rw [hz2]; omega)
  have hc1 := grownCap_ge w n 0 3
  have hc2 := grownCap_le_maxLen w n 0 3 (by unfold maxLen; omega)
  have hs : (Builtin.zeroCells (Value.int .i64 0).cells n ++ Builtin.zeroCells (Value.int .i64 0).cells (grownCap w n 0 3 - n)).size = grownCap w n 0 3 * 1 := by
    rw [Array.size_append, size_zeroCells, size_zeroCells]; show n * 1 + _ * 1 = _; omega
  have HOWN := Lib.hid (World.ownsRow_made (base := w.heap.size) (e := 3) (size := 1) w.drew _ _ (Nat.le_refl _) hc2 hs)
  have HR := Lib.hid hr
  clear hr hi hz0 hz1 hz2 hs
  generalize grownCap w n 0 3 = cap at *
  generalize Builtin.zeroCells (Value.int .i64 0).cells n ++ Builtin.zeroCells (Value.int .i64 0).cells (cap - n) = cs at *
  go_enter Try.func94, Try.ntmps94
  go_wp2_with (at_builtin; refine Lib.wpList_append_run _ rfl _ _ _ _ rfl _ _ rfl rfl _ _ (HR.out _) ?_)
  go_ret
  exact ⟨_, cap, rfl, HOWN.out, (Below.refl w.heap.size w).drew.alloc (Nat.le_refl _) _⟩

set_option maxHeartbeats 1000000 in
theorem concat_go (w : World) (p n1 c1 n2 c2 : Nat) (a1 a2 : Option Addr) (l1 l2 : List Int) (hp : w.heap[p]? = some (.cells #[.slice a1 n1 c1, .slice a2 n2 c2] 26 (0, 0))) (hs1 : Sl w a1 n1 c1 l1) (hs2 : Sl w a2 n2 c2 l2) (h0 : 1 ≤ n1 + n2) (hn : n1 + n2 ≤ 16) :
    Calls Try.prog 92 #[.slice (some ⟨p, 0, none⟩) 2 2] w (GivesSl w (l1 ++ l2)) := by
  have q0 : w.cell? ⟨p, 0, none⟩ = some (.slice a1 n1 c1) := by rw [cells_at hp]; rfl
  have q1 : w.cell? ⟨p, 1, none⟩ = some (.slice a2 n2 c2) := by rw [cells_at hp]; rfl
  have zp := lt_of_block hp
  have HP := Lib.hid hp
  have HS1 := Lib.hid hs1
  have HS2 := Lib.hid hs2
  clear hp hs1 hs2
  have hcm := HS1.out.cap
  have hcm2 := HS2.out.cap
  go_enter Try.func92, Try.ntmps92
  go_wp2
  go_loop [3, 11] (fun s t => ∃ (k kk : Int) (m : Nat), (k = 0 ∧ m = 0 ∨ k = 1 ∧ m = n1 ∨ k = 2 ∧ m = n1 + n2) ∧ kk = (m : Int) ∧ t = .int .i64 k ∧ s = .int .i64 kk) (fun _ t => 2 - (intOf t).toNat)
  case atStart => exact ⟨0, 0, 0, .inl ⟨rfl, rfl⟩, rfl, rfl, rfl⟩
  case round =>
    obtain ⟨k, kk, m, hk, hkk, rfl, rfl⟩ := hrel
    rcases hk with ⟨rfl, rfl⟩ | ⟨rfl, rfl⟩ | ⟨rfl, rfl⟩
    · obtain rfl : kk = 0 := by omega
      clear hkk
      have d : decide ((n1 : Int) < 0) = false := by simp
      go_wp2
      go_round
      case rel => go_light; exact ⟨1, _, n1, .inr (.inl ⟨rfl, rfl⟩), rfl, by go_num, by go_num⟩
      case measure => simp [intOf]
    · subst hkk
      have d : decide ((m : Int) + (n2 : Int) < 0) = false := by simp; omega
      go_wp2
      go_round
      case rel => go_light; exact ⟨2, (m : Int) + (n2 : Int), m + n2, .inr (.inr ⟨rfl, rfl⟩), by omega, by go_num, by go_num⟩
      case measure => simp [intOf]
    · obtain ⟨N, hN⟩ : ∃ N, N = n1 + n2 := ⟨_, rfl⟩
      rw [← hN] at hkk
      subst hkk
      have hN1 : 1 ≤ N := by omega
      have hN2 : N ≤ 16 := by omega
      clear hN
      go_wp2_with fail
      refine (grow_go _ N hN1 hN2).mono ?_
      rintro e w1 ⟨a3, c3, rfl, hown, hb1⟩
      go_wp2
      go_loopw [6, 27] (fun s t wr => ∃ (k : Int) (v : Value) (m : Nat) (L : List Int), (k = 0 ∧ m = 0 ∧ L = [] ∨ k = 1 ∧ m = n1 ∧ L = l1 ∨ k = 2 ∧ m = n1 + n2 ∧ L = l1 ++ l2) ∧ t = .int .i64 k ∧ s = v ∧ wr.ownsRow w.heap.size 3 1 v m (L.map (Value.int .i64)) ∧ Below w.heap.size w wr) (fun _ t _ => 2 - (intOf t).toNat)
      case atStart => exact ⟨0, _, 0, [], .inl ⟨rfl, rfl, rfl⟩, rfl, rfl, hown, hb1⟩
      case round =>
        clear hown hb1
        obtain ⟨k, v, m, L, hk, rfl, rfl, hown, hB⟩ := hrel
        obtain ⟨va, vc, rfl⟩ := own_form hown
        have hpr := persist HP.out hB
        have q0 : wr.cell? ⟨p, 0, none⟩ = some (.slice a1 n1 c1) := by rw [cells_at hpr]; rfl
        have q1 : wr.cell? ⟨p, 1, none⟩ = some (.slice a2 n2 c2) := by rw [cells_at hpr]; rfl
        have zp := lt_of_block hpr
        have hsz := hB.size
        clear hpr
        rcases hk with ⟨rfl, rfl, rfl⟩ | ⟨rfl, rfl, rfl⟩ | ⟨rfl, rfl, rfl⟩
        · go_wp2_with (at_builtin; refine wpList_app rfl _ _ 26 rfl Try.underlying26 w.heap.size _ 0 [] rfl hown _ n1 c1 l1 rfl (HS1.out.mono hB) (by omega) hsz ?_; intro v' wn hown' hgrow; obtain ⟨wa, wc, rfl⟩ := own_form hown')
          have hBn := hB.grown hgrow hB.size (fun j hj => (hown.lt j hj).1)
          have HO := Lib.hid hown'
          clear hown hown' hgrow hB
          go_wp2
          go_roundw
          case rel => go_light; exact ⟨1, _, n1, l1, .inr (.inl ⟨rfl, rfl, rfl⟩), by go_num, rfl, by simpa using HO.out, hBn⟩
          case measure => simp [intOf]
        · go_wp2_with (at_builtin; refine wpList_app rfl _ _ 26 rfl Try.underlying26 w.heap.size _ _ _ rfl hown _ n2 c2 l2 rfl (HS2.out.mono hB) (by omega) hsz ?_; intro v' wn hown' hgrow; obtain ⟨wa, wc, rfl⟩ := own_form hown')
          have hBn := hB.grown hgrow hB.size (fun j hj => (hown.lt j hj).1)
          have HO := Lib.hid hown'
          clear hown hown' hgrow hB
          go_wp2
          go_roundw
          case rel => go_light; exact ⟨2, _, _, _, .inr (.inr ⟨rfl, rfl, rfl⟩), by go_num, rfl, HO.out, hBn⟩
          case measure => simp [intOf]
        · go_wp2
          go_ret
          exact ⟨_, _, _, rfl, hown, hB⟩
end Go.Proofs.Ytcmakddnjmeklaa
