/- Walk: the statement SchemesReads. -/
import Derived.Test.YtijnpcehjnaaiaaRRead
namespace Go.Proofs.Ytijnpcehjnaaiaa
open Go.RowKit

theorem persist {w w' : World} {p : Nat} {o : Obj} (h : w.heap[p]? = some o) (hb : Below w.heap.size w w') : w'.heap[p]? = some o := by
  rw [hb.block p (lt_of_block h)]; exact h
theorem new_at (w : World) (o : Obj) : (w.alloc o).heap[w.heap.size]? = some o := by simp [heap_alloc_eq]

set_option maxHeartbeats 1000000 in
theorem reads_bad (w : World) (a : Option Addr) (n cap : Nat) (l : List Int) (hs : Sl w a n cap l) (hv : ¬ VldP l) :
    Calls Try.prog 3 #[.slice a n cap] w fun e w' => e = .returned (.bool true) ∧ Below w.heap.size w w' := by
  have hv2 : ¬ VldP (l.take 20) := fun h => hv (vld_len.1 h)
  have hd : decide (VldP l) = false := by simp [hv]
  go_enter Try.func3, Try.ntmps3
  go_wp2_with fail
  refine (list_go _ _ _ _ _ hs).mono ?_
  rintro e w1 ⟨a1, n1, p1, rfl, ho1, hb1⟩
  go_wp2_with fail
  refine (read_bad _ _ _ _ _ (own_sl ho1) hv2).mono ?_
  rintro e w2 ⟨rfl, hb2⟩
  have hB2 := btr hb1 hb2
  clear ho1 hb1 hb2
  go_wp2_with fail
  refine (list_go _ _ _ _ _ (hs.mono (bal hB2 _))).mono ?_
  rintro e w3 ⟨a3, n3, p3, rfl, ho3, hb3⟩
  have hx := Lib.hid (persist (new_at _ _) hb3)
  have hB3 := btr (bal hB2 _) hb3
  clear hb3 hB2
  go_wp2_with fail
  refine (other_bad _ _ _ _ _ (own_sl ho3) hv2).mono ?_
  rintro e w4 ⟨rfl, hb4⟩
  have hx4 := Lib.hid (persist hx.out hb4)
  have hB4 := btr hB3 hb4
  clear hb4 hx hB3 ho3
  go_wp2_with fail
  refine (graph_go _ _ _ _ _ (hs.mono hB4)).mono ?_
  rintro e w5 ⟨rfl, m, rfl⟩
  obtain ⟨z, x0, x1, x2, x3, fx0, fx1, fx2, fx3⟩ := four_at hx4.out
  have hB5 := drewN_below (n := m) hB4
  clear hB4 hx4
  go_wp2_with fail
  refine (own_go _ _ _ _ _).mono ?_
  rintro e w6 ⟨rfl, hb6⟩
  have hB6 := btr hB5 hb6
  clear hB5 hb6
  go_wp2_with fail
  refine (awake_go _).mono ?_
  rintro e w7 ⟨rfl, hb7⟩
  have hB7 := btr hB6 hb7
  clear hB6 hb7
  go_wp2
  go_ret
  exact ⟨rfl, hB7⟩

theorem drewB {w w' : World} (h : ∃ m, w' = w.drewN m) : Below w.heap.size w w' := by obtain ⟨m, rfl⟩ := h; exact drewN_below (Below.refl _ _)
theorem equal_same (w : World) (a c : Option Addr) (n p m q : Nat) (l : List Int) (hs : Sl w a n p l) (ht : Sl w c m q l) :
    Calls Try.prog 22 #[.slice a n p, .slice c m q] w fun e w' => e = .returned (.bool true) ∧ Below w.heap.size w w' :=
  (equal_go w a c n p m q l l hs ht).mono fun e w' ⟨he, hw⟩ => ⟨by simpa using he, drewB hw⟩

/-- What Read answers of a graph, the program's and the reference's alike. -/
theorem read_val {G : List Nat} (hG : Gr G) : ∃ n k l m er : Int,
    (∀ (w : World) (a : Option Addr) (c cap : Nat), Sl w a c cap (ints G) → Calls Try.prog 15 #[.slice a c cap] w fun e w' => e = .returned (.tuple #[agg4 n k l m, .int .i64 er]) ∧ Below w.heap.size w w') ∧
    (∀ (w : World) (a : Option Addr) (c cap : Nat), Sl w a c cap (ints G) → Calls Try.prog 21 #[.slice a c cap] w fun e w' => e = .returned (.tuple #[agg4 n k l m, .int .i64 er]) ∧ Below w.heap.size w w') := by
  by_cases h : ∃ k l m, Num G k l m
  · obtain ⟨k, l, m, hn⟩ := h
    refine ⟨G.length, k, l, m, 0, fun w a c cap hs => (read_go w a c cap G hs hG).mono ?_, fun w a c cap hs => (rread_go w a c cap G hs hG).mono ?_⟩ <;>
    · rintro e w' ⟨hb, ⟨k', l', m', hn', rfl⟩ | ⟨hno, rfl⟩⟩
      · obtain ⟨rfl, rfl, rfl⟩ := Num.unique hG hn hn'
        exact ⟨rfl, hb⟩
      · exact absurd ⟨_, _, _, hn⟩ hno
  · refine ⟨0, 0, 0, 0, 4, fun w a c cap hs => (read_go w a c cap G hs hG).mono ?_, fun w a c cap hs => (rread_go w a c cap G hs hG).mono ?_⟩ <;>
    · rintro e w' ⟨hb, ⟨k', l', m', hn', rfl⟩ | ⟨hno, rfl⟩⟩
      · exact absurd ⟨_, _, _, hn'⟩ h
      · exact ⟨rfl, hb⟩

set_option maxHeartbeats 2000000 in
theorem reads_good (w : World) (a : Option Addr) (n cap : Nat) (G : List Nat) (hs : Sl w a n cap (ints G)) (hG : Gr G) :
    Calls Try.prog 3 #[.slice a n cap] w fun e w' => e = .returned (.bool true) ∧ Below w.heap.size w w' := by
  have hv := vld_ints hG
  have ht : (ints G).take 20 = ints G := vld_take hv
  have hd : decide (VldP (ints G)) = true := by simp [hv]
  obtain ⟨N, K, L, M, er, hR, hRR⟩ := read_val hG
  have HR := Lib.hid hR
  have HRR := Lib.hid hRR
  clear hR hRR
  go_enter Try.func3, Try.ntmps3
  go_wp2_with fail
  refine (list_go _ _ _ _ _ hs).mono ?_
  rw [ht]
  rintro e w1 ⟨a1, n1, p1, rfl, ho1, hb1⟩
  go_wp2_with fail
  refine (HR.out _ _ _ _ (own_sl ho1)).mono ?_
  rintro e w2 ⟨rfl, hb2⟩
  have hB2 := btr hb1 hb2
  clear ho1 hb1 hb2
  go_wp2_with fail
  refine (list_go _ _ _ _ _ (hs.mono (bal hB2 _))).mono ?_
  rw [ht]
  rintro e w3 ⟨a3, n3, p3, rfl, ho3, hb3⟩
  have hx := Lib.hid (persist (new_at _ _) hb3)
  have hB3 := btr (bal hB2 _) hb3
  clear hb3 hB2
  go_wp2_with fail
  refine (other_go _ _ _ _ _ (own_sl ho3) hG).mono ?_
  rintro e w4 ⟨a4, n4, p4, rfl, ho4, hb4⟩
  have hx4 := Lib.hid (persist hx.out hb4)
  have hB4 := btr hB3 hb4
  clear hb4 hx hB3 ho3
  go_wp2_with fail
  refine (graph_go _ _ _ _ _ (hs.mono hB4)).mono ?_
  rintro e w5 ⟨rfl, m, hw5⟩
  have hB5 := drewN_below (n := m) hB4
  have hx5 : (w4.drewN m).heap[w2.heap.size]? = _ := hx4.out
  have ho5 : Sl (w4.drewN m) a4 n4 p4 (ints (othr G)) := own_sl ho4
  rw [← hw5] at hB5 hx5 ho5
  clear hw5 hB4 hx4 ho4
  go_wp2_with fail
  refine (HRR.out _ _ _ _ (hs.mono hB5)).mono ?_
  rintro e w6 ⟨rfl, hb6⟩
  have hB6 := bal (btr hB5 hb6) (.cells #[.int .i64 N, .int .i64 K, .int .i64 L, .int .i64 M] 32)
  have hx6 := Lib.hid (persist (persist hx5 hb6) (bal (Below.refl _ _) (.cells #[.int .i64 N, .int .i64 K, .int .i64 L, .int .i64 M] 32)))
  have hy6 := Lib.hid (new_at w6 (.cells #[.int .i64 N, .int .i64 K, .int .i64 L, .int .i64 M] 32))
  have ho6 := (ho5.mono hb6).mono (bal (Below.refl _ _) (.cells #[.int .i64 N, .int .i64 K, .int .i64 L, .int .i64 M] 32))
  clear hb6 hB5 hx5 ho5
  go_wp2_with fail
  have hsW := hs.mono hB6
  generalize w6.heap.size = p6 at *
  generalize w6.alloc _ = W at *
  generalize w2.heap.size = p2 at *
  obtain ⟨z, x0, x1, x2, x3, fx0, fx1, fx2, fx3⟩ := four_at hx6.out
  obtain ⟨zy, y0, y1, y2, y3, fy0, fy1, fy2, fy3⟩ := four_at hy6.out
  have hC : Below W.heap.size W W.drew := (Below.refl _ _).drew
  have HS := Lib.hid hsW
  have HO := Lib.hid ho6
  clear hs hsW ho6
  have SX : ∀ w' : World, Below W.heap.size W w' → (w'.cell? ⟨p2, 0, none⟩ = some (.int .i64 N) ∧ w'.cell? ⟨p2, 1, none⟩ = some (.int .i64 K) ∧ w'.cell? ⟨p2, 2, none⟩ = some (.int .i64 L) ∧ w'.cell? ⟨p2, 3, none⟩ = some (.int .i64 M) ∧
      w'.cell? ⟨p6, 0, none⟩ = some (.int .i64 N) ∧ w'.cell? ⟨p6, 1, none⟩ = some (.int .i64 K) ∧ w'.cell? ⟨p6, 2, none⟩ = some (.int .i64 L) ∧ w'.cell? ⟨p6, 3, none⟩ = some (.int .i64 M)) := fun w' h => by
    obtain ⟨_, a0, a1, a2, a3, _⟩ := four_at (persist hx6.out h)
    obtain ⟨_, b0, b1, b2, b3, _⟩ := four_at (persist hy6.out h)
    exact ⟨a0, a1, a2, a3, b0, b1, b2, b3⟩
  have HSX := Lib.hid SX
  clear SX z x0 x1 x2 x3 fx0 fx1 fx2 fx3 zy y0 y1 y2 y3 fy0 fy1 fy2 fy3
  go_region_held3 (fun w' => w'.cell? ⟨p2, 0, none⟩ = some (.int .i64 N) ∧ w'.cell? ⟨p2, 1, none⟩ = some (.int .i64 K) ∧ w'.cell? ⟨p2, 2, none⟩ = some (.int .i64 L) ∧ w'.cell? ⟨p2, 3, none⟩ = some (.int .i64 M) ∧
      w'.cell? ⟨p6, 0, none⟩ = some (.int .i64 N) ∧ w'.cell? ⟨p6, 1, none⟩ = some (.int .i64 K) ∧ w'.cell? ⟨p6, 2, none⟩ = some (.int .i64 L) ∧ w'.cell? ⟨p6, 3, none⟩ = some (.int .i64 M)) ((exact HSX.out _ hC)) (first
    | (go_at_call 19; refine (own_go _ _ _ _ _).mono ?_; rintro e w' ⟨rfl, hb⟩; replace hC := btr hC hb; clear hb)
    | (go_at_call 23; refine (rother_go _ _ _ _ _ (HS.out.mono hC) hG).mono ?_; rintro e w' ⟨a8, n8, p8, rfl, ho8, hb⟩; replace hC := btr hC hb; clear hb; have HO8 := Lib.hid (own_sl ho8); clear ho8)
    | (go_at_call 22; refine (equal_same _ _ _ _ _ _ _ _ (HO.out.mono hC) HO8.out).mono ?_; rintro e w' ⟨rfl, hb⟩; replace hC := btr hC hb; clear hb)
    | (go_at_call 20; refine (awake_go _).mono ?_; rintro e w' ⟨rfl, hb⟩; replace hC := btr hC hb; clear hb))
  go_wp2
  go_ret
  exact ⟨rfl, btr hB6 hC⟩

theorem reads_walk (w : World) (a : Option Addr) (n cap : Nat) (l : List Int) (hs : Sl w a n cap l) :
    Calls Try.prog 3 #[.slice a n cap] w fun e w' => e = .returned (.bool true) ∧ Below w.heap.size w w' := by
  by_cases hv : VldP l
  · obtain ⟨G, rfl, hG⟩ := vld_gr hv
    exact reads_good w a n cap G hs hG
  · exact reads_bad w a n cap l hs hv
end Go.Proofs.Ytijnpcehjnaaiaa
