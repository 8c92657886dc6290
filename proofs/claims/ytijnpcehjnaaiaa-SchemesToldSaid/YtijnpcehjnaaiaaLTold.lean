/- Walk: the statement SchemesTold. -/
import Derived.Test.YtijnpcehjnaaiaaToldC
import Derived.Test.YtijnpcehjnaaiaaLLists
namespace Go.Proofs.Ytijnpcehjnaaiaa
open Go.RowKit

set_option maxRecDepth 100000 in
set_option maxHeartbeats 1000000 in
theorem ltold_bad (w : World) (a : Option Addr) (n cap : Nat) (l : List Int) (hs : Sl w a n cap l) (hv : ¬ VldP l) :
    Calls Try.prog 14 #[.slice a n cap] w fun e w' => e = .returned (.bool true) ∧ Below w.heap.size w w' := by
  have hv2 : ¬ VldP (l.take 20) := fun h => hv (vld_len.1 h)
  go_enter Try.func14, Try.ntmps14
  go_wp2_with fail
  refine (list_go _ _ _ _ _ hs).mono ?_
  rintro e w1 ⟨a1, n1, p1, rfl, ho1, hb1⟩
  go_wp2_with fail
  refine (read_bad _ _ _ _ _ (own_sl ho1) hv2).mono ?_
  rintro e w2 ⟨rfl, hb2⟩
  have hB2 := btr hb1 hb2
  clear ho1 hb1 hb2
  go_wp2_with fail
  refine (list_go _ _ _ _ _ (hs.mono (bal hB2 _))).mono ?_
  rintro e w3 ⟨a3, n3, p3, rfl, ho3, hb3⟩
  have hB3 := btr (bal hB2 _) hb3
  clear hb3 hB2
  go_wp2_with fail
  refine (other_bad _ _ _ _ _ (own_sl ho3) hv2).mono ?_
  rintro e w4 ⟨rfl, hb4⟩
  have hB4 := btr hB3 hb4
  clear ho3 hb4 hB3
  go_wp2_with fail
  refine (awake_go _).mono ?_
  rintro e w5 ⟨rfl, hb5⟩
  go_wp2
  go_ret
  exact ⟨rfl, btr hB4 hb5⟩

theorem oth_none {G : List Nat} (hG : Gr G) (h : ¬ ∃ k l m, Num G k l m) : ¬ ∃ k l m, Num (othr G) k l m := by
  rintro ⟨k, l, m, hn⟩
  obtain ⟨_, _, h3⟩ := oth_num (oth_gr hG) hn
  rw [oth_oth hG] at h3
  exact h ⟨_, _, _, h3⟩

set_option maxRecDepth 100000 in
set_option maxHeartbeats 2000000 in
theorem ltold_none (w : World) (a : Option Addr) (n cap : Nat) (G : List Nat) (hs : Sl w a n cap (ints G)) (hG : Gr G) (hno : ¬ ∃ k l m, Num G k l m) :
    Calls Try.prog 14 #[.slice a n cap] w fun e w' => e = .returned (.bool true) ∧ Below w.heap.size w w' := by
  have hv := vld_ints hG
  have hd : decide (VldP (ints G)) = true := by simp [hv]
  have ht := Lib.hid (vld_take hv)
  have hO := oth_gr hG
  have HO2 := Lib.hid (oth_oth hG)
  have hno2 := oth_none hG hno
  go_enter Try.func14, Try.ntmps14
  go_wp2_with fail
  refine (list_go _ _ _ _ _ hs).mono ?_
  rw [ht.out]
  rintro e w1 ⟨a1, n1, p1, rfl, ho1, hb1⟩
  go_wp2_with fail
  refine (read_none _ _ _ _ G (own_sl ho1) hG hno).mono ?_
  rintro e w2 ⟨rfl, hb2⟩
  have hB2 := btr hb1 hb2
  clear ho1 hb1 hb2
  go_wp2_with fail
  refine (list_go _ _ _ _ _ (hs.mono (bal hB2 _))).mono ?_
  rw [ht.out]
  rintro e w3 ⟨a3, n3, p3, rfl, ho3, hb3⟩
  have hB3 := btr (bal hB2 _) hb3
  clear hb3 hB2
  go_wp2_with fail
  refine (other_go _ _ _ _ G (own_sl ho3) hG).mono ?_
  rintro e w4 ⟨a4, n4, p4, rfl, ho4, hb4⟩
  have hB4 := btr hB3 hb4
  have hs4 := Lib.hid (own_sl ho4)
  clear ho3 hb4 hB3 ho4
  go_wp2_with fail
  refine (graph_go _ _ _ _ _ (hs.mono hB4)).mono ?_
  rw [hd]
  rintro e w5 ⟨rfl, hw⟩
  have hb5 := drewB hw
  have hB5 := btr hB4 hb5
  have hs5 := Lib.hid (hs4.out.mono hb5)
  clear hw hb5 hB4 hs4
  go_wp2_with fail
  refine (clone_go _ _ _ _ _ hs5.out (by have e1 := hs5.out.len; rw [ints_length] at e1; have := hO.2.1; omega)).mono ?_
  rintro e w6 ⟨a6, n6, p6, rfl, ho6, hb6⟩
  have hB6 := btr hB5 hb6
  have hs6 := Lib.hid (hs5.out.mono hb6)
  clear hb6 hB5 hs5
  go_wp2_with fail
  refine (read_none _ _ _ _ _ (own_sl ho6) hO hno2).mono ?_
  rintro e w7 ⟨rfl, hb7⟩
  have hB7 := btr hB6 hb7
  have hs7 := Lib.hid (hs6.out.mono hb7)
  clear hb7 hB6 hs6 ho6
  go_wp2_with fail
  refine (other_go _ _ _ _ _ (hs7.out.mono (bal (Below.refl _ _) _)) hO).mono ?_
  rw [HO2.out]
  rintro e w8 ⟨a8, n8, p8, rfl, ho8, hb8⟩
  have hB8 := btr (bal hB7 _) hb8
  have hs8 := Lib.hid (own_sl ho8)
  clear hb8 hB7 hs7 ho8
  go_wp2_with fail
  refine (equal_same _ _ _ _ _ _ _ _ hs8.out (hs.mono hB8)).mono ?_
  rintro e w9 ⟨rfl, hb9⟩
  have hB9 := btr hB8 hb9
  clear hb9 hB8
  go_wp2_with fail
  refine (awake_go _).mono ?_
  rintro e wa ⟨rfl, hba⟩
  go_wp2
  go_ret
  exact ⟨rfl, btr hB9 hba⟩
set_option maxRecDepth 100000 in
set_option maxHeartbeats 8000000 in
theorem ltold_good (w : World) (a : Option Addr) (n cap : Nat) (G : List Nat) (hs : Sl w a n cap (ints G)) (hG : Gr G) (k l m : Nat) (hn : Num G k l m) :
    Calls Try.prog 14 #[.slice a n cap] w fun e w' => e = .returned (.bool true) ∧ Below w.heap.size w w' := by
  have hv := vld_ints hG
  have hd : decide (VldP (ints G)) = true := by simp [hv]
  have ht := Lib.hid (vld_take hv)
  have hO := oth_gr hG
  have HO2 := Lib.hid (oth_oth hG)
  have HN := Lib.hid hn
  obtain ⟨q1, q2, hn2⟩ := oth_num hG hn
  have HN2 := Lib.hid hn2
  have hl : G.length = n := by have := hs.len; rwa [ints_length] at this
  have HL := Lib.hid hl
  have n16 : n ≤ 16 := by have := hG.2.1; omega
  obtain ⟨hmk, l16, m16⟩ := num_m hG hn
  have kn := hn.2.1
  have k16 : k ≤ 16 := by omega
  have knn : k + 1 ≤ n := by omega
  rw [hl] at q1 q2
  clear hn hn2 hl kn
  go_enter Try.func14, Try.ntmps14
  go_wp2_with fail
  refine (list_go _ _ _ _ _ hs).mono ?_
  rw [ht.out]
  rintro e w1 ⟨a1, n1, p1, rfl, ho1, hb1⟩
  go_wp2_with fail
  refine (read_num _ _ _ _ G (own_sl ho1) hG HN.out).mono ?_
  rw [HL.out]
  rintro e w2 ⟨rfl, hb2⟩
  have hB2 := btr hb1 hb2
  clear ho1 hb1 hb2
  go_wp2_with fail
  refine (list_go _ _ _ _ _ (hs.mono (bal hB2 _))).mono ?_
  rw [ht.out]
  rintro e w3 ⟨a3, n3, p3, rfl, ho3, hb3⟩
  have hB3 := btr (bal hB2 _) hb3
  have hx3 := Lib.hid (keptD hb3)
  clear hb3 hB2
  go_wp2_with fail
  refine (other_go _ _ _ _ G (own_sl ho3) hG).mono ?_
  rintro e w4 ⟨a4, n4, p4, rfl, ho4, hb4⟩
  have hB4 := btr hB3 hb4
  have hx4 := Lib.hid (persist hx3.out hb4)
  clear hx3
  have hs4 := Lib.hid (own_sl ho4)
  clear ho3 hb4 hB3 ho4
  go_wp2_with fail
  refine (graph_go _ _ _ _ _ (hs.mono hB4)).mono ?_
  rw [hd]
  rintro e w5 ⟨rfl, hw⟩
  have hb5 := drewB hw
  have hB5 := btr hB4 hb5
  have hx5 := Lib.hid (persist hx4.out hb5)
  clear hx4
  have hs5 := Lib.hid (hs4.out.mono hb5)
  clear hw hb5 hB4 hs4
  go_wp2_with fail
  refine (clone_go _ _ _ _ _ hs5.out (by have e1 := hs5.out.len; rw [ints_length] at e1; have := hO.2.1; omega)).mono ?_
  rintro e w6 ⟨a6, n6, p6, rfl, ho6, hb6⟩
  have hB6 := btr hB5 hb6
  have hx6 := Lib.hid (persist hx5.out hb6)
  clear hx5
  have hs6 := Lib.hid (hs5.out.mono hb6)
  clear hb6 hB5 hs5
  go_wp2_with fail
  refine (read_num _ _ _ _ _ (own_sl ho6) hO HN2.out).mono ?_
  rw [othr_length, HL.out]
  rintro e w7 ⟨rfl, hb7⟩
  have hB7 := btr hB6 hb7
  have hx7 := Lib.hid (persist hx6.out hb7)
  clear hx6
  have hs7 := Lib.hid (hs6.out.mono hb7)
  clear hb7 hB6 hs6 ho6
  go_wp2_with fail
  refine (other_go _ _ _ _ _ (hs7.out.mono (bal (Below.refl _ _) _)) hO).mono ?_
  rw [HO2.out]
  rintro e w8 ⟨a8, n8, p8, rfl, ho8, hb8⟩
  have hB8 := btr (bal hB7 _) hb8
  have hx8 := Lib.hid (persist (persist hx7.out (bal (Below.refl _ _) _)) hb8)
  have hy8 := Lib.hid (keptD hb8)
  clear hx7
  have hs8 := Lib.hid (own_sl ho8)
  clear hb8 hB7 hs7 ho8
  go_wp2_with fail
  refine (equal_same _ _ _ _ _ _ _ _ hs8.out (hs.mono hB8)).mono ?_
  rintro e w9 ⟨rfl, hb9⟩
  have hB9 := btr hB8 hb9
  have hx9 := Lib.hid (persist hx8.out hb9)
  have hy9 := Lib.hid (persist hy8.out hb9)
  clear hx8 hy8
  clear hb9 hB8
  generalize hk' : n - k - 1 = k' at *
  generalize hl' : n + m - 2 - 2 * k = l' at *
  generalize hm' : n + l - 2 * k = m' at *
  have E1 := Lib.hid hk'
  have E2 := Lib.hid hl'
  have E3 := Lib.hid hm'
  clear hk' hl' hm'
  have hn1 : 1 ≤ n := by have := hG.1; have := HL.out; omega
  rcases hs.parts with ⟨_, h0, _⟩ | ⟨b, off, rfl, hs2⟩
  · omega
  have hlt16 := gn_lt hG.small (show 0 < 65536 by omega)
  obtain ⟨hbz, hcell⟩ := hs2.icells hn1
  have HC := Lib.hid hcell
  have hpl : cap ≤ maxLen := hs2.2.2.1
  have hnp : n ≤ cap := hs2.2.1
  clear hcell hs2
  go_wp2_with fail
  go_loopw [79] (fun t wr => ∃ i : Nat, i ≤ n ∧ t = .int .i64 i ∧ Below w9.heap.size w9 wr) (fun t _ => n - (intOf t).toNat)
  case atStart => exact ⟨0, by omega, rfl, Below.refl _ _⟩
  case round =>
    obtain ⟨i, hi, rfl, hC⟩ := hrel
    by_cases hli : i < n
    · have di : decide ((i : Int) < (n : Int)) = true := by simp; omega
      go_wp2
      have HC0 := Lib.hid hC
      clear hC
      obtain ⟨wz, rfl⟩ : ∃ wz : World, wz = wr := ⟨_, rfl⟩
      go_loopw [84] (fun t wr => ∃ j : Nat, j ≤ n ∧ t = .int .i64 j ∧ Below w9.heap.size w9 wr) (fun t _ => n - (intOf t).toNat)
      case atStart => exact ⟨0, by omega, rfl, HC0.out⟩
      case round =>
        obtain ⟨j, hj, rfl, hC⟩ := hrel
        by_cases hlj : j < n
        · have hb9 := btr hB9 hC
          have hci : wr.cell? ⟨b, off + i, none⟩ = some (.int .i64 (gn G i)) := (hb9.cell (p := ⟨b, off + i, none⟩) hbz).trans (HC.out i hli)
          have hcj : wr.cell? ⟨b, off + j, none⟩ = some (.int .i64 (gn G j)) := (hb9.cell (p := ⟨b, off + j, none⟩) hbz).trans (HC.out j hlj)
          have hand := i64_and_nat (gn G i) (gn G j) (by have := hlt16 i; omega) (by have := hlt16 j; omega)
          have hlo : gn G i &&& gn G j < 65536 := Nat.lt_of_le_of_lt Nat.and_le_left (hlt16 i)
          have hbit1 := bits_bt (gn G i) j (by have := hlt16 i; omega)
          have hx := persist hx9.out hC
          obtain ⟨zx, x0, x1, x2, x3, _, _, _, _⟩ := four_at hx
          have hbz2 := Nat.lt_of_lt_of_le hbz hb9.size
          by_cases e : i = j
          · have hp : pop (gn G i &&& gn G j) = k := by subst e; rw [Nat.and_self]; exact HN.out.2.2.1 i (by have := HL.out; omega)
            have t1 : ((i : Int) == (j : Int)) = true := by simp; omega
            have t2 : (((pop (gn G i &&& gn G j) : Nat) : Int) != (k : Int)) = false := by rw [hp]; simp
            have HE := Lib.hid e
            clear e hp
            go_wp2
            go_quiet ((go_at_call 37; exact quiet_is (lsize_go _ _ hlo)))
            go_wp2
            go_roundw
            case rel => exact ⟨j + 1, by omega, by go_num, drewN_below hC⟩
            case measure => simp [intOf]; omega
          · have t1 : ((i : Int) == (j : Int)) = false := by simp; omega
            have hp := num_and hG HN.out (i := i) (j := j) (by have := HL.out; omega) (by have := HL.out; omega) e
            cases hbit : (gn G i).testBit j with
            | true =>
              rw [hbit, if_pos rfl] at hp
              have hone : ((bt (gn G i) j : Int) == 1) = true := by rw [bt_test, hbit]; rfl
              have t2 : (((pop (gn G i &&& gn G j) : Nat) : Int) != (l : Int)) = false := by rw [hp]; simp
              clear hp hbit
              go_wp2
              go_quiet ((go_at_call 37; exact quiet_is (lsize_go _ _ hlo)))
              go_wp2
              go_roundw
              case rel => exact ⟨j + 1, by omega, by go_num, drewN_below hC⟩
              case measure => simp [intOf]; omega
            | false =>
              rw [hbit, if_neg (by simp)] at hp
              have hone : ((bt (gn G i) j : Int) == 1) = false := by rw [bt_test, hbit]; rfl
              have t2 : (((pop (gn G i &&& gn G j) : Nat) : Int) != (m : Int)) = false := by rw [hp]; simp
              clear hp hbit
              go_wp2
              go_quiet ((go_at_call 37; exact quiet_is (lsize_go _ _ hlo)))
              go_wp2
              go_roundw
              case rel => exact ⟨j + 1, by omega, by go_num, drewN_below hC⟩
              case measure => simp [intOf]; omega
        · obtain rfl : j = n := by omega
          go_wp2
          go_roundw
          case rel => exact ⟨i + 1, by omega, by go_num, hC⟩
          case measure => simp [intOf]; omega
    · obtain rfl : i = n := by omega
      have hb9 := btr hB9 hC
      have hx := persist hx9.out hC
      have hy := persist hy9.out hC
      obtain ⟨zx, x0, x1, x2, x3, _, _, _, _⟩ := four_at hx
      obtain ⟨hfit, hask⟩ := num_fit hG HN.out
      obtain ⟨hfit2, hask2⟩ := num_fit hO HN2.out
      rw [HL.out] at hfit hask
      rw [othr_length, HL.out] at hfit2 hask2
      rw [E1.out, E2.out, E3.out] at hfit2 hask2
      have f1 : reaF i k l m (rootsC k l m) = 0 := by simpa [fit] using hfit
      have f2 : reaF i k' l' m' (rootsC k' l' m') = 0 := by simpa [fit] using hfit2
      have HP1 := Lib.hid (show ∀ w, _ from fun w => preasonX_go w i k l m _ hask (rootsC_ro hask))
      have HP2 := Lib.hid (show ∀ w, _ from fun w => preasonX_go w i k' l' m' _ hask2 (rootsC_ro hask2))
      rw [f1, show reaE 0 = 4 from rfl] at HP1
      rw [f2, show reaE 0 = 4 from rfl] at HP2
      clear f1 f2 hfit hfit2 hask hask2
      go_wp2_with fail
      refine (HP1.out _).mono ?_
      rintro e wa ⟨rfl, hba⟩
      have hBa := btr hb9 hba
      have hxa := persist hx hba
      have hya := persist hy hba
      clear hx hy hba hb9 hC zx x0 x1 x2 x3
      obtain ⟨zx, x0, x1, x2, x3, _, _, _, _⟩ := four_at hya
      go_wp2_with fail
      refine (HP2.out _).mono ?_
      rintro e wb ⟨rfl, hbb⟩
      have hBb := btr hBa hbb
      have hxb := persist hxa hbb
      have hyb := persist hya hbb
      clear hxa hya hbb hBa zx x0 x1 x2 x3
      obtain ⟨zx, x0, x1, x2, x3, _, _, _, _⟩ := four_at hxb
      obtain ⟨zy, y0, y1, y2, y3, _, _, _, _⟩ := four_at hyb
      have HOT := Lib.hid (show ∀ w, _ from fun w => other_go2 w i k l m (by omega) q1 q2 knn (by omega) (by omega))
      rw [E1.out, E2.out, E3.out] at HOT
      go_wp2_with fail
      clear zx x0 x1 x2 x3 zy y0 y1 y2 y3
      generalize w2.heap.size = p2 at *
      generalize w7.heap.size = p7 at *
      have hC : Below wb.heap.size wb wb.drew := (Below.refl _ _).drew
      have SX : ∀ w' : World, Below wb.heap.size wb w' → (w'.cell? ⟨p2, 0, none⟩ = some (.int .i64 (i : Int)) ∧ w'.cell? ⟨p2, 1, none⟩ = some (.int .i64 (k : Int)) ∧ w'.cell? ⟨p2, 2, none⟩ = some (.int .i64 (l : Int)) ∧ w'.cell? ⟨p2, 3, none⟩ = some (.int .i64 (m : Int)) ∧
          w'.cell? ⟨p7, 0, none⟩ = some (.int .i64 (i : Int)) ∧ w'.cell? ⟨p7, 1, none⟩ = some (.int .i64 (k' : Int)) ∧ w'.cell? ⟨p7, 2, none⟩ = some (.int .i64 (l' : Int)) ∧ w'.cell? ⟨p7, 3, none⟩ = some (.int .i64 (m' : Int))) := fun w' h => by
        obtain ⟨_, a0, a1, a2, a3, _⟩ := four_at (persist hxb h)
        obtain ⟨_, b0, b1, b2, b3, _⟩ := four_at (persist hyb h)
        exact ⟨a0, a1, a2, a3, b0, b1, b2, b3⟩
      have HSX := Lib.hid SX
      have HBb := Lib.hid hBb
      clear SX hxb hyb hBb
      go_region_held3 (fun w' => w'.cell? ⟨p2, 0, none⟩ = some (.int .i64 (i : Int)) ∧ w'.cell? ⟨p2, 1, none⟩ = some (.int .i64 (k : Int)) ∧ w'.cell? ⟨p2, 2, none⟩ = some (.int .i64 (l : Int)) ∧ w'.cell? ⟨p2, 3, none⟩ = some (.int .i64 (m : Int)) ∧
          w'.cell? ⟨p7, 0, none⟩ = some (.int .i64 (i : Int)) ∧ w'.cell? ⟨p7, 1, none⟩ = some (.int .i64 (k' : Int)) ∧ w'.cell? ⟨p7, 2, none⟩ = some (.int .i64 (l' : Int)) ∧ w'.cell? ⟨p7, 3, none⟩ = some (.int .i64 (m' : Int))) ((exact HSX.out _ hC)) (first
        | (go_at_call 52; refine (HOT.out _).mono ?_; rintro e w' ⟨rfl, hb⟩; replace hC := btr hC hb; clear hb)
        | (go_at_call 20; refine (awake_go _).mono ?_; rintro e w' ⟨rfl, hb⟩; replace hC := btr hC hb; clear hb))
      go_wp2
      go_ret
      exact ⟨rfl, btr HBb.out hC⟩

theorem ltold_walk (w : World) (a : Option Addr) (n cap : Nat) (l : List Int) (hs : Sl w a n cap l) :
    Calls Try.prog 14 #[.slice a n cap] w fun e w' => e = .returned (.bool true) ∧ Below w.heap.size w w' := by
  by_cases hv : VldP l
  · obtain ⟨G, rfl, hG⟩ := vld_gr hv
    by_cases hn : ∃ k l m, Num G k l m
    · obtain ⟨k, l, m, hn⟩ := hn
      exact ltold_good w a n cap G hs hG k l m hn
    · exact ltold_none w a n cap G hs hG hn
  · exact ltold_bad w a n cap l hs hv
end Go.Proofs.Ytijnpcehjnaaiaa
