
/- the law. -/
import Derived.Test.YtiapngmallfelaaDoorJf
import Derived.Test.YtiapngmallfelaaDoorJg
namespace Go.Proofs.YtiapngmallfelaaDoor
open Go.RowKit
set_option linter.unusedSimpArgs false
theorem n_nat (k : Int) : ∃ n : Nat, 1 ≤ n ∧ n ≤ 4 ∧ wrap64 (1 + wrap64 ((IntKind.u64.wrap k).tmod 4)) = (n : Int) := by
  have h0 : 0 ≤ IntKind.u64.wrap k := by
    have e : IntKind.u64.wrap k = k % 18446744073709551616 := by simp [IntKind.wrap, IntKind.bits, IntKind.signed]
    omega
  have h1 : (IntKind.u64.wrap k).tmod 4 = IntKind.u64.wrap k % 4 := Int.tmod_eq_emod_of_nonneg h0
  refine ⟨(IntKind.u64.wrap k % 4).toNat + 1, by omega, by omega, ?_⟩
  rw [h1, IntWalk.wrap64_in (IntKind.u64.wrap k % 4) (by constructor <;> omega), IntWalk.wrap64_in _ (by constructor <;> omega)]
  omega
theorem eul_b {n i : Nat} (h1 : 1 ≤ n) (h4 : n ≤ 4) (hi : i < n + 1) : IntKind.i64.wrap ((2 : Int) ^ (n + 1)) = 2 ^ (n + 1) ∧ IntKind.i64.wrap ((2 : Int) ^ (n + 1) - 1) = 2 ^ (n + 1) - 1 ∧ IntKind.i64.wrap ((2 : Int) * 2 ^ i) = 2 * 2 ^ i ∧ IntKind.i64.wrap ((2 : Int) * 2 ^ i - 1) = 2 * 2 ^ i - 1 ∧ bits .andNot .i64 ((2 : Int) ^ (n + 1) - 1) (2 * 2 ^ i - 1) = ((2 ^ (n + 1) - 2 ^ (i + 1) : Nat) : Int) := by
  have h : ((List.range 5).all fun n => (List.range 5).all fun i => !decide (i < n + 1) || (IntKind.i64.wrap ((2 : Int) ^ (n + 1)) == 2 ^ (n + 1) && (IntKind.i64.wrap ((2 : Int) ^ (n + 1) - 1) == 2 ^ (n + 1) - 1 && (IntKind.i64.wrap ((2 : Int) * 2 ^ i) == 2 * 2 ^ i && (IntKind.i64.wrap ((2 : Int) * 2 ^ i - 1) == 2 * 2 ^ i - 1 && bits .andNot .i64 ((2 : Int) ^ (n + 1) - 1) (2 * 2 ^ i - 1) == ((2 ^ (n + 1) - 2 ^ (i + 1) : Nat) : Int)))))) = true := by kernel_rfl
  have h2 := List.all_eq_true.1 (List.all_eq_true.1 h n (List.mem_range.2 (by omega))) i (List.mem_range.2 (by omega))
  simp only [hi, decide_true, Bool.not_true, Bool.false_or, Bool.and_eq_true, beq_iff_eq] at h2
  exact h2
theorem eulB_len (m : Nat) : (eulB m).length = m := by simp [eulB]
theorem eul_gn {m i : Nat} (h : i < m) : gn (eulB m) i = 2 ^ m - 2 ^ (i + 1) := by simp [gn, eulB, h]
theorem eul_take {m i : Nat} (h : i < m) : (eulB m).take (i + 1) = (eulB m).take i ++ [2 ^ m - 2 ^ (i + 1)] := by
  rw [take_gn (by rw [eulB_len]; exact h), eul_gn h]
theorem cntL_len (W N : List (List Nat)) (n m : Nat) : ∀ u, (cntL W N n m u).length = m + 1
  | 0 => by simp [cntL]
  | u + 1 => by unfold cntL; simp [cntL_len W N n m u]
theorem popB_le {n f : Nat} (h4 : n ≤ 4) (h : f < 2 ^ n) : popB f ≤ n := by
  have h0 : ((List.range 5).all fun n => (List.range 16).all fun f => !decide (f < 2 ^ n) || decide (popB f ≤ n)) = true := by decide +kernel
  have h16 : f < 16 := Nat.lt_of_lt_of_le h (by have : 2 ^ n ≤ 2 ^ 4 := Nat.pow_le_pow_right (by omega) h4; omega)
  have h2 := List.all_eq_true.1 (List.all_eq_true.1 h0 n (List.mem_range.2 (by omega))) f (List.mem_range.2 h16)
  simpa [h] using h2
theorem popB_step {x : Nat} (h : x < 16) (h0 : 0 < x) : ∃ y : Nat, bits .and .i64 (x : Int) ((x : Int) - 1) = (y : Int) ∧ y < x ∧ popB y + 1 = popB x ∧ (0 : Int) < (x : Int) := by
  have hA : ((List.range 16).all fun x => !decide (0 < x) || (decide (bits .and .i64 (x : Int) ((x : Int) - 1) = ((x &&& (x - 1) : Nat) : Int)) && (decide (x &&& (x - 1) < x) && decide (popB (x &&& (x - 1)) + 1 = popB x)))) = true := by decide +kernel
  have h2 := List.all_eq_true.1 hA x (List.mem_range.2 h)
  simp only [h0, decide_true, Bool.not_true, Bool.false_or, Bool.and_eq_true, decide_eq_true_eq] at h2
  exact ⟨_, h2.1, h2.2.1, h2.2.2, by omega⟩
theorem cnt_le (W N : List (List Nat)) (n m : Nat) : ∀ u r, gn (cntL W N n m u) r ≤ u
  | 0, r => by
    unfold cntL gn
    rw [List.getD_eq_getElem?_getD, List.getElem?_replicate]
    split <;> simp
  | u + 1, r => by
    have h1 := cnt_le W N n m u r
    have h2 := cnt_le W N n m u (popB (fallN W N u n))
    have e : cntL W N n m (u + 1) = (cntL W N n m u).set (popB (fallN W N u n)) (gn (cntL W N n m u) (popB (fallN W N u n)) + 1) := rfl
    rw [e]
    unfold gn at h1 h2 ⊢
    rw [List.getD_eq_getElem?_getD, List.getElem?_set]
    split
    · split
      · simpa using h2
      · simp
    · rw [← List.getD_eq_getElem?_getD]; omega
set_option maxHeartbeats 1000000 in
theorem euler_go (w : World) (k : Int) (tab : Tab w) : Calls Tryd.prog 3 #[.int .i64 k] w fun e w' => e = .returned (.bool true) ∧ Below w.heap.size w w' := by
  obtain ⟨n, h1, h4, hn⟩ := n_nat k
  have HTAB := Lib.hid tab
  clear tab
  go_enter Tryd.func3, Tryd.ntmps3
  go_wp2
  rw [hn]
  generalize wrap64 ((IntKind.u64.wrap k).tmod 4) = z1 at *
  generalize (IntKind.u64.wrap k).tmod 4 = z2 at *
  generalize IntKind.u64.wrap k = z3 at *
  clear hn
  go_loopw [3, 23] (fun v t wr => ∃ i : Nat, i ≤ n + 1 ∧ t = .int .i64 i ∧ Hid (wr.ownsRow w.heap.size 3 1 v i ((ints ((eulB (n + 1)).take i)).map (Value.int .i64))) ∧ Hid (Below w.heap.size w wr)) (fun _ t _ => n + 1 - (intOf t).toNat)
  case atStart => exact ⟨0, by omega, rfl, ⟨rfl, .inl ⟨rfl, rfl⟩⟩, Below.refl _ _⟩
  case round =>
    obtain ⟨i, hi, rfl, HOW, HB⟩ := hrel
    by_cases hin : i < n + 1
    · have hsz := HB.out.size
      obtain ⟨p1, p2, p3, p4, p5⟩ := eul_b h1 h4 hin
      have p0 : IntKind.i64.wrap ((n : Int) + 1) = ((n + 1 : Nat) : Int) := by rw [IntWalk.i64_left, IntWalk.wrap64_in _ (by constructor <;> omega)]; simp
      go_wp2
      go_region_law (refine step_app rfl _ _ 23 rfl Tryd.underlying23 w.heap.size u3 i _ rfl (HOW.out.alloc _).drew (some ⟨wr.heap.size, 0, none⟩) 1 1 [((2 ^ (n + 1) - 2 ^ (i + 1) : Nat) : Int)] rfl ((sl_one _ _).mono (drewB ⟨1, rfl⟩)) (by omega) (by simp; omega) ?_; intro v' wn hown' hgrow)
      go_wp2
      go_roundw
      case rel =>
        have hb1 : Below w.heap.size w wn := own_grownI HOW.out HB.out _ (show (wr.alloc _).grownBy _ _ from ⟨hgrow.os, hgrow.tape, hgrow.output, hgrow.size, hgrow.block⟩)
        refine ⟨i + 1, by omega, by go_num, ?_, hb1⟩
        show wn.ownsRow _ _ _ _ _ _
        rw [eul_take hin, ints_app]
        exact hown'
      case measure => simp [intOf]; omega
    · obtain rfl : i = n + 1 := by omega
      obtain ⟨a0, c0, rfl⟩ := own_form HOW.out
      have hsl := own_sl HOW.out
      rw [List.take_of_length_le (by rw [eulB_len]; exact Nat.le_refl _)] at hsl
      have HH := Lib.hid (hits_go wr a0 (n + 1) c0 (eulB (n + 1)) hsl (by omega) (by omega) (fun i => by
        by_cases hi : i < n + 1
        · rw [eul_gn hi]
          have h5 : 0 < 2 ^ (i + 1) := Nat.pow_pos (by omega)
          have h6 : 0 < 2 ^ (n + 1) := Nat.pow_pos (by omega)
          omega
        · have : gn (eulB (n + 1)) i = 0 := by unfold gn; rw [List.getD_eq_getElem?_getD, List.getElem?_eq_none (by rw [eulB_len]; omega)]; rfl
          rw [this]
          exact Nat.pow_pos (by omega)) (HTAB.out.mono HB.out.size (HB.out.block 1 HTAB.out.1)))
      clear hsl HOW
      have HB1 := HB
      clear HB
      go_wp2_with fail
      refine HH.out.mono ?_
      rintro e w1 ⟨ha, hn, hc, rfl, hown, hb⟩
      obtain rfl : hn = n + 2 := by
        have h5 := hown.1
        rw [euler_n h1 h4] at h5
        simp [ints, cntL_len] at h5
        omega
      have HSH := Lib.hid (own_sl hown)
      have HB2 := Lib.hid (btr HB1.out hb)
      clear hown hb HH HB1
      have g0 := new_at w1 (.cells #[.int .u8 65, .int .i64 (n : Int)] 28)
      go_wp2_with fail
      refine (mall_go _ n h1 h4).mono ?_
      rintro e w2 ⟨la, lc, rfl, hrw, hb⟩
      have HB3 := Lib.hid (btr HB2.out (btr (bal (Below.refl _ _) _) hb))
      have HRW := Lib.hid hrw
      have HSH2 := Lib.hid ((HSH.out.mono (bal (Below.refl _ _) _)).mono hb)
      have HG := Lib.hid (persist g0 hb)
      have hlc := hrw.2.cap
      have hhc := HSH2.out.cap
      unfold maxLen at hlc hhc
      clear hrw hb g0 HB2 HSH
      have hmk : ∀ w : World, (Instr.makeSlice 23 (.int .i64 ((n : Int) + 2)) (.int .i64 ((n : Int) + 2))).run Tryd.prog w = .ok (.slice (some ⟨w.heap.size, 0, none⟩) (n + 2) (n + 2)) (w.alloc (.cells ((List.replicate (n + 2) 0).map fun x : Nat => Value.int .i64 (x : Int)).toArray 3)) := fun w => by
        have := mkI_go w (n + 2) (by omega)
        simpa using this
      generalize w1.heap.size = gb at *
      go_wp2
      have hrep : (Array.replicate (n + 2) (Value.int .i64 0)) = ((cntL (tabW n) (tabN n) n (n + 1) 0).map fun x : Nat => Value.int .i64 (x : Int)).toArray := by simp [cntL]
      go_loopw [68] (fun t wr => ∃ u : Nat, u ≤ sizeN n ∧ t = .int .i64 u ∧ Hid (Below w2.heap.size w2 wr ∧ wr.heap[w2.heap.size]? = some (.cells (((cntL (tabW n) (tabN n) n (n + 1) u).map fun x : Nat => Value.int .i64 (x : Int)).toArray) 3 (0, 0)))) (fun t _ => sizeN n - (intOf t).toNat)
      case atStart => exact ⟨0, by omega, rfl, bal (Below.refl _ _) _, by rw [← hrep]; exact new_at w2 _⟩
      case round =>
        clear hrep hmk
        obtain ⟨u, hu, rfl, HE⟩ := hrel
        have hK := @sizeN_bd n
        by_cases huK : u < sizeN n
        · have hbw := HE.out.1
          have HOK := Lib.hid (okT_n h1 h4)
          obtain ⟨bl, ol, rfl, hbl, hcl⟩ := (HRW.out.mono hbw).at (by omega)
          obtain ⟨a1, m1, p1, e1, hsw⟩ := hcl u huK
          rw [rw_ints] at hsw
          have HSW := Lib.hid hsw
          have hm30 : m1 ≤ 30 := by have := hsw.len; have := HOK.out.w30 u; simp [ints] at *; omega
          have pg := persist HG.out hbw
          have cg0 : wr.cell? ⟨gb, 0, none⟩ = some (.int .u8 65) := by rw [cells_at pg]; rfl
          have cg1 : wr.cell? ⟨gb, 1, none⟩ = some (.int .i64 (n : Int)) := by rw [cells_at pg]; rfl
          have zg := lt_of_block pg
          have HF := Lib.hid (HOK.out.fl u huK)
          clear hbw hcl hsw pg
          go_wp2
          have hB : Below wr.heap.size wr wr.drew := drewB ⟨1, rfl⟩
          refine wp_region_F (S := fun V => Below wr.heap.size wr V) 99 (by kernel_rfl) hB (fun hHeld => ?_)
          refine wpAnyF_take (i := 0) (oi := _) (v := ?_) rfl (by kernel_rfl) (by kernel_rfl) (by kernel_rfl) (by kernel_rfl) (fun _ _ _ h => h) (Or.inl ⟨by rfl, ?_⟩) (by assumption) ?_
          rotate_left
          · intro V0 hSw
            (try dsimp only at hSw)
            have q1 := bcell hSw
            go_simp
            all_goals with_reducible rfl
          (try simp only [Act.put, List.getElem_toArray, List.getElem_cons_succ, List.getElem_cons_zero, List.setIfInBounds_toArray, List.set_cons_zero, List.set_cons_succ])
          refine wpAnyF_take (i := 1) (oi := _) (v := ?_) rfl (by kernel_rfl) (by kernel_rfl) (by kernel_rfl) (by kernel_rfl) (fun _ _ _ h => h) (Or.inl ⟨by rfl, ?_⟩) (by assumption) ?_
          rotate_left
          · intro V0 hSw
            (try dsimp only at hSw)
            have q1 := bcell hSw
            go_simp
            all_goals with_reducible rfl
          (try simp only [Act.put, List.getElem_toArray, List.getElem_cons_succ, List.getElem_cons_zero, List.setIfInBounds_toArray, List.set_cons_zero, List.set_cons_succ])
          clear hHeld
          generalize wr.drew = V at hB ⊢
          refine wpAnyF_br (rs := [2]) (by kernel_rfl) (by simp) ?_
          simp only [List.forall_mem_cons, List.not_mem_nil, false_imp_iff, implies_true, and_true]
          refine wpOp_step (o := _) rfl (fun K hK => ?_)
          go_simp
          refine (clone_go V a1 _ p1 _ (HSW.out.mono hB) (by omega)).mono ?_
          rintro e V2 ⟨a2, n2, q2, rfl, hown, hb⟩
          have hsw2 := own_sl hown
          clear hown
          replace hB := btr hB hb
          clear hb
          refine hK _ _ ⟨fun _ => hB, ?_⟩
          clear hK K
          (try simp only [Act.put, List.getElem_toArray, List.getElem_cons_succ, List.getElem_cons_zero, List.setIfInBounds_toArray, List.set_cons_zero, List.set_cons_succ])
          refine wpAnyF_br (rs := [3]) (by kernel_rfl) (by simp) ?_
          simp only [List.forall_mem_cons, List.not_mem_nil, false_imp_iff, implies_true, and_true]
          refine wpOp_step (o := _) rfl (fun K hK => ?_)
          go_simp
          refine (mfalls_go V2 n h1 h4 a2 n2 q2 u huK (wdW (tabW n) u) hsw2 (by have := hsw2.len; have := HOK.out.w30 u; simp [ints] at *; omega) (HOK.out.wn u) (HOK.out.wk u huK)).mono ?_
          rintro e V3 ⟨rfl, hb⟩
          clear hsw2
          replace hB := btr hB hb
          clear hb
          refine hK _ _ ⟨fun _ => hB, ?_⟩
          clear hK K
          (try simp only [Act.put, List.getElem_toArray, List.getElem_cons_succ, List.getElem_cons_zero, List.setIfInBounds_toArray, List.set_cons_zero, List.set_cons_succ])
          refine wpAnyF_take (i := 4) (oi := _) (v := ?_) rfl (by kernel_rfl) (by kernel_rfl) (by kernel_rfl) (by kernel_rfl) (fun _ _ _ h => h) (Or.inl ⟨by rfl, ?_⟩) (by assumption) ?_
          rotate_left
          · intro V0 hSw
            (try dsimp only at hSw)
            have q1 := bcell hSw
            go_simp
            all_goals with_reducible rfl
          (try simp only [Act.put, List.getElem_toArray, List.getElem_cons_succ, List.getElem_cons_zero, List.setIfInBounds_toArray, List.set_cons_zero, List.set_cons_succ])
          refine wpAnyF_take (i := 5) (oi := _) (v := ?_) rfl (by kernel_rfl) (by kernel_rfl) (by kernel_rfl) (by kernel_rfl) (fun _ _ _ h => h) (Or.inl ⟨by rfl, ?_⟩) (by assumption) ?_
          rotate_left
          · intro V0 hSw
            (try dsimp only at hSw)
            have q1 := bcell hSw
            go_simp
            all_goals with_reducible rfl
          (try simp only [Act.put, List.getElem_toArray, List.getElem_cons_succ, List.getElem_cons_zero, List.setIfInBounds_toArray, List.set_cons_zero, List.set_cons_succ])
          refine wpAnyF_take (i := 6) (oi := _) (v := ?_) rfl (by kernel_rfl) (by kernel_rfl) (by kernel_rfl) (by kernel_rfl) (fun _ _ _ h => h) (Or.inl ⟨by rfl, ?_⟩) (by assumption) ?_
          rotate_left
          · intro V0 hSw
            (try dsimp only at hSw)
            have q1 := bcell hSw
            go_simp
            all_goals with_reducible rfl
          (try simp only [Act.put, List.getElem_toArray, List.getElem_cons_succ, List.getElem_cons_zero, List.setIfInBounds_toArray, List.set_cons_zero, List.set_cons_succ])
          refine wpAnyF_take (i := 7) (oi := _) (v := ?_) rfl (by kernel_rfl) (by kernel_rfl) (by kernel_rfl) (by kernel_rfl) (fun _ _ _ h => h) (Or.inl ⟨by rfl, ?_⟩) (by assumption) ?_
          rotate_left
          · intro V0 hSw
            (try dsimp only at hSw)
            have q1 := bcell hSw
            go_simp
            all_goals with_reducible rfl
          (try simp only [Act.put, List.getElem_toArray, List.getElem_cons_succ, List.getElem_cons_zero, List.setIfInBounds_toArray, List.set_cons_zero, List.set_cons_succ])
          refine wpAnyF_take (i := 8) (oi := _) (v := ?_) rfl (by kernel_rfl) (by kernel_rfl) (by kernel_rfl) (by kernel_rfl) (fun _ _ _ h => h) (Or.inl ⟨by rfl, ?_⟩) (by assumption) ?_
          rotate_left
          · intro V0 hSw
            (try dsimp only at hSw)
            have q1 := bcell hSw
            go_simp
            all_goals with_reducible rfl
          (try simp only [Act.put, List.getElem_toArray, List.getElem_cons_succ, List.getElem_cons_zero, List.setIfInBounds_toArray, List.set_cons_zero, List.set_cons_succ])
          refine wpAnyF_end (by kernel_rfl) ?_
          go_simp
          generalize hf : fallN (tabW n) (tabN n) u n = f at *
          have hf16 : f < 16 := Nat.lt_of_lt_of_le HF.out (by have : 2 ^ n ≤ 2 ^ 4 := Nat.pow_le_pow_right (by omega) h4; omega)
          have hpw : IntKind.i64.wrap ((2 : Int) ^ n) = 2 ^ n := by rw [IntWalk.i64_left]; exact wrap_pow (by omega)
          have hlt : (f : Int) < 2 ^ n := by have := HF.out; rw [show (2 : Int) ^ n = ((2 ^ n : Nat) : Int) by simp]; omega
          have HPB := Lib.hid (popB_le h4 HF.out)
          have hbw := HE.out.1
          go_wp2
          go_loop [13, 15] (fun vx vk => ∃ x q : Nat, vx = .int .i64 x ∧ vk = .int .i64 q ∧ x < 16 ∧ q + popB x = popB f) (fun vx _ => (intOf vx).toNat)
          case atStart => exact ⟨f, 0, rfl, rfl, hf16, by omega⟩
          case round =>
            obtain ⟨x, q, rfl, rfl, hx, hq⟩ := hrel
            by_cases hx0 : 0 < x
            · obtain ⟨y, y1, y2, y3, y4⟩ := popB_step hx hx0
              have hq5 : q ≤ 4 := by have := HPB.out; omega
              go_wp2
              go_round
              case rel => exact ⟨y, q + 1, rfl, by go_num, by omega, by omega⟩
              case measure => simp [intOf]; omega
            · obtain rfl : x = 0 := by omega
              have hq0 : q = popB f := by have : popB 0 = 0 := rfl; omega
              subst hq0
              have hpb := HPB.out
              have hpbN := Lib.hid hpb
              have kf := persist HE.out.2 hB
              have hlenC := cntL_len (tabW n) (tabN n) n (n + 1) u
              have kc : V3.cell? ⟨w2.heap.size, popB f, none⟩ = some (.int .i64 ((gn (cntL (tabW n) (tabN n) n (n + 1) u) (popB f) : Nat) : Int)) := by
                rw [cells_at kf, List.getElem?_toArray, List.getElem?_map, List.getElem?_eq_getElem (by omega)]
                simp [gn, show popB f < (cntL (tabW n) (tabN n) n (n + 1) u).length by omega]
              have kfr := free_at kf (popB f)
              have kz := lt_of_block kf
              have hcb : gn (cntL (tabW n) (tabN n) n (n + 1) u) (popB f) ≤ 1000 := Nat.le_trans (cnt_le _ _ _ _ u _) (by omega)
              have HSTEP := Lib.hid (show cntL (tabW n) (tabN n) n (n + 1) (u + 1) = (cntL (tabW n) (tabN n) n (n + 1) u).set (popB f) (gn (cntL (tabW n) (tabN n) n (n + 1) u) (popB f) + 1) by rw [← hf]; rfl)
              have HKF := Lib.hid kf
              have HBV := Lib.hid (btr hbw hB)
              clear kf hlenC
              generalize gn (cntL (tabW n) (tabN n) n (n + 1) u) (popB f) = cv at *
              generalize hpf : popB f = pf at *
              go_wp2
              go_roundw
              case rel =>
                refine ⟨u + 1, by omega, by go_num, HBV.out.setCell (Nat.le_refl _) _, ?_⟩
                rw [set_at HKF.out, HSTEP.out]
                congr 2
                apply Array.ext_getElem?
                intro r
                rw [Array.getElem?_setIfInBounds, List.getElem?_toArray, List.getElem?_toArray, List.getElem?_map, List.getElem?_map, List.getElem?_set, List.size_toArray, List.length_map]
                by_cases hr : pf = r
                · subst hr
                  rw [if_pos rfl, if_pos rfl]
                  split
                  · simp
                  · simp
                · rw [if_neg hr, if_neg hr]
              case measure => simp [intOf]; omega
        · obtain rfl : u = sizeN n := by omega
          have hbw := HE.out.1
          have hsF : Sl wr (some ⟨w2.heap.size, 0, none⟩) (n + 2) (n + 2) (ints (cntL (tabW n) (tabN n) n (n + 1) (sizeN n))) := by
            have hlenC := cntL_len (tabW n) (tabN n) n (n + 1) (sizeN n)
            refine ⟨by simp [ints, hlenC], Nat.le_refl _, by unfold maxLen; omega, .inr (.inr ⟨_, 0, rfl, lt_of_block HE.out.2, fun r hr => ?_⟩)⟩
            rw [cells_at HE.out.2, Nat.zero_add, nth_ints, List.getElem?_toArray, List.getElem?_map, List.getElem?_eq_getElem (by omega)]
            simp [gn, show r < (cntL (tabW n) (tabN n) n (n + 1) (sizeN n)).length by omega]
          have HEQ := Lib.hid (equal_go wr ha _ (n + 2) hc (n + 2) (n + 2) _ _ (HSH2.out.mono hbw) hsF)
          rw [euler_n h1 h4, decide_eq_true rfl] at HEQ
          have HBW := Lib.hid (btr HB3.out hbw)
          clear hbw hsF
          go_wp2_with fail
          refine HEQ.out.mono ?_
          rintro e w' ⟨rfl, md, rfl⟩
          have HBD := Lib.hid (drewN_below (n := md) HBW.out)
          go_wp2_with fail
          refine (places_go _ (HTAB.out.mono HBD.out.size (HBD.out.block 1 HTAB.out.1))).mono ?_
          rintro e w4 ⟨rfl, hb4⟩
          have HB4 := Lib.hid (btr HBD.out hb4)
          clear hb4
          go_wp2
          go_ret
          exact ⟨rfl, HB4.out⟩
end Go.Proofs.YtiapngmallfelaaDoor
