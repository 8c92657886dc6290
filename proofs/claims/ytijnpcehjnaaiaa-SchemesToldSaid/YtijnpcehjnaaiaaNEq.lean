/- Walks: comparing and searching slices of numbers. -/
import Derived.Test.YtijnpcehjnaaiaaRList
namespace Go.Proofs.Ytijnpcehjnaaiaa
open Go.RowKit

/-- The slice value (a, c, cap) of numbers reads as P. -/
def SlN (w : World) (a : Option Addr) (c cap n : Nat) (P : List (Nat × Nat × Nat)) : Prop :=
  P.length = c ∧ c ≤ cap ∧ cap ≤ maxLen ∧ (c = 0 ∨ ∃ g, a = some ⟨g, 0, none⟩ ∧ g < w.heap.size ∧ ∀ r, r < c →
    w.cell? ⟨g, r * 4, none⟩ = some (.int .i64 (n : Int)) ∧ w.cell? ⟨g, r * 4 + 1, none⟩ = some (.int .i64 ((P.getD r (0, 0, 0)).1 : Int)) ∧
    w.cell? ⟨g, r * 4 + 2, none⟩ = some (.int .i64 ((P.getD r (0, 0, 0)).2.1 : Int)) ∧ w.cell? ⟨g, r * 4 + 3, none⟩ = some (.int .i64 ((P.getD r (0, 0, 0)).2.2 : Int)))

theorem cells4_len (n : Nat) (P : List (Nat × Nat × Nat)) : (cells4 n P).length = P.length * 4 := by
  induction P with
  | nil => rfl
  | cons q P ih => have : cells4 n (q :: P) = [.int .i64 (n : Int), .int .i64 (q.1 : Int), .int .i64 (q.2.1 : Int), .int .i64 (q.2.2 : Int)] ++ cells4 n P := rfl
                   rw [this, List.length_append, ih]; simp; omega
theorem cells4_at (n : Nat) (P : List (Nat × Nat × Nat)) : ∀ r, r < P.length → (cells4 n P)[r * 4]? = some (.int .i64 (n : Int)) ∧ (cells4 n P)[r * 4 + 1]? = some (.int .i64 ((P.getD r (0, 0, 0)).1 : Int)) ∧ (cells4 n P)[r * 4 + 2]? = some (.int .i64 ((P.getD r (0, 0, 0)).2.1 : Int)) ∧ (cells4 n P)[r * 4 + 3]? = some (.int .i64 ((P.getD r (0, 0, 0)).2.2 : Int)) := by
  induction P with
  | nil => intro r h; simp at h
  | cons q P ih =>
    intro r h
    have e : cells4 n (q :: P) = .int .i64 (n : Int) :: .int .i64 (q.1 : Int) :: .int .i64 (q.2.1 : Int) :: .int .i64 (q.2.2 : Int) :: cells4 n P := rfl
    rw [e]
    cases r with
    | zero => exact ⟨rfl, rfl, rfl, rfl⟩
    | succ r =>
      have := ih r (by simpa using h)
      rw [show (r + 1) * 4 = r * 4 + 1 + 1 + 1 + 1 by omega, show r * 4 + 1 + 1 + 1 + 1 + 1 = (r * 4 + 1) + 1 + 1 + 1 + 1 by omega, show r * 4 + 1 + 1 + 1 + 1 + 2 = (r * 4 + 2) + 1 + 1 + 1 + 1 by omega, show r * 4 + 1 + 1 + 1 + 1 + 3 = (r * 4 + 3) + 1 + 1 + 1 + 1 by omega]
      simpa using this

theorem gives_slN {E : TypeId} {w w' : World} {n : Nat} {P : List (Nat × Nat × Nat)} {v : Value} (h : GivesN E w n P v w') : ∃ a c cap, v = .slice a c cap ∧ SlN w' a c cap n P ∧ Below w.heap.size w w' := by
  obtain ⟨a, c, cap, rfl, hown, hb⟩ := h
  have hl : P.length = c := by have := hown.1; rw [cells4_len] at this; omega
  refine ⟨a, c, cap, rfl, ⟨hl, ?_⟩, hb⟩
  rcases hown.2 with ⟨hv, h0⟩ | ⟨g, c', cur, hv, hgb, hg, hn, hc, hs, ht⟩
  · simp at hv; obtain ⟨rfl, rfl, rfl⟩ := hv
    exact ⟨by omega, by simp, .inl rfl⟩
  · simp at hv; obtain ⟨rfl, rfl⟩ := hv
    refine ⟨hn, hc, .inr ⟨g, rfl, (Array.getElem?_eq_some_iff.1 hg).1, fun r hr => ?_⟩⟩
    have h1 := cells4_at n P r (by omega)
    rw [← ht] at h1
    rw [List.getElem?_take_of_lt (by omega), List.getElem?_take_of_lt (by omega), List.getElem?_take_of_lt (by omega), List.getElem?_take_of_lt (by omega)] at h1
    rw [cells_at hg, cells_at hg, cells_at hg, cells_at hg]
    simpa using h1

theorem SlN.mono {w w' : World} {a : Option Addr} {c cap n : Nat} {P : List (Nat × Nat × Nat)} (h : SlN w a c cap n P) (hb : Below w.heap.size w w') : SlN w' a c cap n P := by
  obtain ⟨h1, h2, h3, h | ⟨g, rfl, hg, hc⟩⟩ := h
  · exact ⟨h1, h2, h3, .inl h⟩
  · refine ⟨h1, h2, h3, .inr ⟨g, rfl, Nat.lt_of_lt_of_le hg hb.size, fun r hr => ?_⟩⟩
    obtain ⟨k0, k1, k2, k3⟩ := hc r hr
    exact ⟨(hb.cell (p := ⟨g, r * 4, none⟩) hg).trans k0, (hb.cell (p := ⟨g, r * 4 + 1, none⟩) hg).trans k1, (hb.cell (p := ⟨g, r * 4 + 2, none⟩) hg).trans k2, (hb.cell (p := ⟨g, r * 4 + 3, none⟩) hg).trans k3⟩

theorem four_mono {w wr : World} {g r : Nat} {a b c d : Value} (hg : g < w.heap.size) (hb : Below w.heap.size w wr)
    (h : w.cell? ⟨g, r * 4, none⟩ = some a ∧ w.cell? ⟨g, r * 4 + 1, none⟩ = some b ∧ w.cell? ⟨g, r * 4 + 2, none⟩ = some c ∧ w.cell? ⟨g, r * 4 + 3, none⟩ = some d) :
    wr.cell? ⟨g, r * 4, none⟩ = some a ∧ wr.cell? ⟨g, r * 4 + 1, none⟩ = some b ∧ wr.cell? ⟨g, r * 4 + 2, none⟩ = some c ∧ wr.cell? ⟨g, r * 4 + 3, none⟩ = some d :=
  ⟨(hb.cell (p := ⟨g, r * 4, none⟩) hg).trans h.1, (hb.cell (p := ⟨g, r * 4 + 1, none⟩) hg).trans h.2.1, (hb.cell (p := ⟨g, r * 4 + 2, none⟩) hg).trans h.2.2.1, (hb.cell (p := ⟨g, r * 4 + 3, none⟩) hg).trans h.2.2.2⟩

theorem cf_lists1 (args : Array Value) (w : World) : (callFunc 50 args).run Try.prog w = .ok (.enter 50 args) w := by kernel_rfl

set_option maxHeartbeats 1000000 in
theorem lists1_go (w : World) (a b c d : Int) :
    Calls Try.prog 50 #[agg4 a b c d, agg4 a b c d] w fun e w' => e = .returned (.bool true) ∧ Below w.heap.size w w' := by
  go_enter Try.func50, Try.ntmps50
  go_wp2
  have hp := persist2 (Below.refl ((w.alloc (.cells #[.int .i64 a, .int .i64 b, .int .i64 c, .int .i64 d] 24)).alloc (.cells #[.int .i64 a, .int .i64 b, .int .i64 c, .int .i64 d] 32)).heap.size _)
  have hB : Below w.heap.size w ((w.alloc (.cells #[.int .i64 a, .int .i64 b, .int .i64 c, .int .i64 d] 24)).alloc (.cells #[.int .i64 a, .int .i64 b, .int .i64 c, .int .i64 d] 32)) := bal (bal (Below.refl _ _) _) _
  generalize ((w.alloc (.cells #[.int .i64 a, .int .i64 b, .int .i64 c, .int .i64 d] 24)).alloc (.cells #[.int .i64 a, .int .i64 b, .int .i64 c, .int .i64 d] 32)) = W at *
  generalize hp2 : w.heap.size + 1 = p2 at *
  generalize hp1 : w.heap.size = p1 at *
  have HB := Lib.hid hB
  have HP1 := Lib.hid hp1
  clear hp2 hp1 hB
  have hC : Below W.heap.size W W.drew := (Below.refl _ _).drew
  have SX : ∀ w' : World, Below W.heap.size W w' → (w'.cell? ⟨p1, 0, none⟩ = some (.int .i64 a) ∧ w'.cell? ⟨p1, 1, none⟩ = some (.int .i64 b) ∧ w'.cell? ⟨p1, 2, none⟩ = some (.int .i64 c) ∧ w'.cell? ⟨p1, 3, none⟩ = some (.int .i64 d) ∧
      w'.cell? ⟨p2, 0, none⟩ = some (.int .i64 a) ∧ w'.cell? ⟨p2, 1, none⟩ = some (.int .i64 b) ∧ w'.cell? ⟨p2, 2, none⟩ = some (.int .i64 c) ∧ w'.cell? ⟨p2, 3, none⟩ = some (.int .i64 d)) := fun w' h => by
    obtain ⟨_, a0, a1, a2, a3, _⟩ := four_at (persist hp.1 h)
    obtain ⟨_, b0, b1, b2, b3, _⟩ := four_at (persist hp.2 h)
    exact ⟨a0, a1, a2, a3, b0, b1, b2, b3⟩
  have HSX := Lib.hid SX
  clear SX hp
  go_region_held3 (fun w' => w'.cell? ⟨p1, 0, none⟩ = some (.int .i64 a) ∧ w'.cell? ⟨p1, 1, none⟩ = some (.int .i64 b) ∧ w'.cell? ⟨p1, 2, none⟩ = some (.int .i64 c) ∧ w'.cell? ⟨p1, 3, none⟩ = some (.int .i64 d) ∧
      w'.cell? ⟨p2, 0, none⟩ = some (.int .i64 a) ∧ w'.cell? ⟨p2, 1, none⟩ = some (.int .i64 b) ∧ w'.cell? ⟨p2, 2, none⟩ = some (.int .i64 c) ∧ w'.cell? ⟨p2, 3, none⟩ = some (.int .i64 d)) ((exact HSX.out _ hC)) (first
    | (go_at_call 19; refine (own_go _ _ _ _ _).mono ?_; rintro e w' ⟨rfl, hb⟩; replace hC := btr hC hb; clear hb))
  go_wp2
  go_ret
  refine ⟨rfl, ?_⟩
  have h1 := HB.out
  have h2 := HP1.out
  subst h2
  exact btr h1 hC

theorem eqf_go (w : World) (a a' : Option Addr) (c cap cap' n : Nat) (P : List (Nat × Nat × Nat)) (h1 : SlN w a c cap n P) (h2 : SlN w a' c cap' n P) :
    Calls Try.prog 48 #[.slice a c cap, .slice a' c cap', .func (Fn.func 50) #[] #[]] w fun e w' => e = .returned (.bool true) ∧ Below w.heap.size w w' := by
  have hcf := cf_lists1
  go_enter Try.func48, Try.ntmps48
  by_cases hc : c = 0
  · subst hc
    go_wp2
    go_loopw [17] (fun t wr => t = .int .i64 (0 : Nat) ∧ Below w.heap.size w wr) (fun _ _ => 1)
    case atStart => exact ⟨rfl, Below.refl _ _⟩
    case round =>
      obtain ⟨rfl, hB⟩ := hrel
      go_wp2
      go_ret
      exact ⟨rfl, hB⟩
  · obtain ⟨l1, l2, l3, h0 | ⟨g, rfl, hg, hcell⟩⟩ := h1
    · exact absurd h0 hc
    obtain ⟨l1', l2', l3', h0 | ⟨g', rfl, hg', hcell'⟩⟩ := h2
    · exact absurd h0 hc
    unfold maxLen at l3
    have HC := Lib.hid hcell
    have HC' := Lib.hid hcell'
    clear hcell hcell'
    go_wp2
    go_loopw [17] (fun t wr => ∃ i : Nat, i ≤ c ∧ t = .int .i64 i ∧ Below w.heap.size w wr) (fun t _ => c - (intOf t).toNat)
    case atStart => exact ⟨0, by omega, rfl, Below.refl _ _⟩
    case round =>
      obtain ⟨i, hi, rfl, hB⟩ := hrel
      by_cases hl : i < c
      · obtain ⟨k0, k1, k2, k3⟩ := four_mono hg hB (HC.out i hl)
        obtain ⟨m0, m1, m2, m3⟩ := four_mono hg' hB (HC'.out i hl)
        have icap : i ≤ cap := by omega
        have icap' : i ≤ cap' := by omega
        have hgz := Nat.lt_of_lt_of_le hg hB.size
        have hgz' := Nat.lt_of_lt_of_le hg' hB.size
        generalize (P.getD i (0, 0, 0)).1 = x at *
        generalize (P.getD i (0, 0, 0)).2.1 = y at *
        generalize (P.getD i (0, 0, 0)).2.2 = q at *
        go_wp2_with fail
        refine (lists1_go _ n x y q).mono ?_
        rintro e w2 ⟨rfl, hb⟩
        go_wp2
        go_roundw
        case rel => exact ⟨i + 1, by omega, by go_num, btr (bal (bal hB _) _) hb⟩
        case measure => simp [intOf]; omega
      · obtain rfl : i = c := by omega
        go_wp2
        go_ret
        exact ⟨rfl, hB⟩

/-- The place of numbers that are in the slice. -/
theorem index_go (w : World) (a : Option Addr) (c cap n : Nat) (P : List (Nat × Nat × Nat)) (h1 : SlN w a c cap n P) (x y z : Nat) (hm : (x, y, z) ∈ P) :
    Calls Try.prog 72 #[.slice a c cap, agg4 n x y z] w fun e w' => (∃ i : Nat, e = .returned (.int .i64 i)) ∧ Below w.heap.size w w' := by
  obtain ⟨l1, l2, l3, h0 | ⟨g, rfl, hg, hcell⟩⟩ := h1
  · subst h0; have := List.eq_nil_of_length_eq_zero l1; subst this; simp at hm
  · have HC := Lib.hid hcell
    unfold maxLen at l3
    clear hcell
    have HM := Lib.hid hm
    clear hm
    have HL := Lib.hid l1
    clear l1
    go_enter Try.func72, Try.ntmps72
    go_wp2
    have hx := new_at w (.cells #[.int .i64 (n : Int), .int .i64 (x : Int), .int .i64 (y : Int), .int .i64 (z : Int)] 24)
    have hB := bal (Below.refl w.heap.size w) (.cells #[.int .i64 (n : Int), .int .i64 (x : Int), .int .i64 (y : Int), .int .i64 (z : Int)] 24)
    generalize w.alloc _ = w1 at *
    go_loopw [8] (fun t wr => ∃ i : Nat, i ≤ c ∧ t = .int .i64 i ∧ Hid (∀ r, r < i → ¬ P.getD r (0, 0, 0) = (x, y, z)) ∧ wr.heap[w.heap.size]? = some (.cells #[.int .i64 (n : Int), .int .i64 (x : Int), .int .i64 (y : Int), .int .i64 (z : Int)] 24 (0, 0)) ∧ Below w.heap.size w wr) (fun t _ => c - (intOf t).toNat)
    case atStart => exact ⟨0, by omega, rfl, Lib.hid (fun r hr => by omega), hx, hB⟩
    case round =>
      clear hx hB
      obtain ⟨i, hi, rfl, hno, hx, hB⟩ := hrel
      by_cases hl : i < c
      · obtain ⟨k0, k1, k2, k3⟩ := four_mono hg hB (HC.out i hl)
        obtain ⟨zz, c0, c1, c2, c3, _, _, _, _⟩ := four_at hx
        have icap : i ≤ cap := by omega
        have hgz := Nat.lt_of_lt_of_le hg hB.size
        have HE := Lib.hid (show P.getD i (0, 0, 0) = ((P.getD i (0, 0, 0)).1, (P.getD i (0, 0, 0)).2.1, (P.getD i (0, 0, 0)).2.2) from rfl)
        generalize (P.getD i (0, 0, 0)).1 = x' at *
        generalize (P.getD i (0, 0, 0)).2.1 = y' at *
        generalize (P.getD i (0, 0, 0)).2.2 = z' at *
        by_cases e1 : x = x'
        · subst e1
          by_cases e2 : y = y'
          · subst e2
            by_cases e3 : z = z'
            · subst e3
              go_wp2
              go_quiet (fail)
              go_wp2
              go_ret
              exact ⟨⟨i, rfl⟩, drewN_below hB⟩
            · have f3 : ((z : Int) == (z' : Int)) = false := by simp; omega
              have f3' : ¬ (z : Int) = (z' : Int) := by omega
              have hno2 : Hid (∀ r, r < i + 1 → ¬ P.getD r (0, 0, 0) = (x, y, z)) := Lib.hid (fun r hr => by
                by_cases q : r = i
                · subst q; rw [HE.out]; simp; omega
                · exact hno.out r (by omega))
              go_wp2
              go_quiet (fail)
              go_wp2
              go_roundw
              case rel => exact ⟨i + 1, by omega, by go_num, hno2, hx, drewN_below hB⟩
              case measure => simp [intOf]; omega
          · have f3 : ((y : Int) == (y' : Int)) = false := by simp; omega
            have f3' : ¬ (y : Int) = (y' : Int) := by omega
            have hno2 : Hid (∀ r, r < i + 1 → ¬ P.getD r (0, 0, 0) = (x, y, z)) := Lib.hid (fun r hr => by
              by_cases q : r = i
              · subst q; rw [HE.out]; simp; omega
              · exact hno.out r (by omega))
            go_wp2
            go_quiet (fail)
            go_wp2
            go_roundw
            case rel => exact ⟨i + 1, by omega, by go_num, hno2, hx, drewN_below hB⟩
            case measure => simp [intOf]; omega
        · have f3 : ((x : Int) == (x' : Int)) = false := by simp; omega
          have f3' : ¬ (x : Int) = (x' : Int) := by omega
          have hno2 : Hid (∀ r, r < i + 1 → ¬ P.getD r (0, 0, 0) = (x, y, z)) := Lib.hid (fun r hr => by
            by_cases q : r = i
            · subst q; rw [HE.out]; simp; omega
            · exact hno.out r (by omega))
          go_wp2
          go_quiet (fail)
          go_wp2
          go_roundw
          case rel => exact ⟨i + 1, by omega, by go_num, hno2, hx, drewN_below hB⟩
          case measure => simp [intOf]; omega
      · obtain rfl : i = c := by omega
        exfalso
        obtain ⟨r, hr, he⟩ := List.getElem_of_mem HM.out
        have hr2 : r < i := by have := HL.out; omega
        refine hno.out r hr2 ?_
        rw [List.getD_eq_getElem?_getD, List.getElem?_eq_getElem hr, he]; rfl
end Go.Proofs.Ytijnpcehjnaaiaa
