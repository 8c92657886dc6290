/- Chapter 9: After refuses; the reference's After. -/
import Derived.Test.YtcmakddnjmeklaaAj
namespace Go.Proofs.Ytcmakddnjmeklaa
open Go.RowKit
set_option linter.unusedSimpArgs false

theorem after_no (w : World) (x y : Option Addr) (n c m dd : Nat) (t : Int) (W : Wd) (p : List Int) (hA : A2Sl w x n c W.acts) (hp : Sl w y m dd p) (hok : isPlanB W p = false ∨ t < 0 ∨ 3 < t) :
    Calls Try.prog 38 #[wv W.a W.b x n c, .slice y m dd, .int .i64 t] w (GivesNo 2 w) := by
  have hb0 := bal (Below.refl w.heap.size w) (.cells #[.int .i64 W.a, .int .i64 W.b, .slice x n c] 33)
  have HZ := Lib.hid (show BoxW (w.alloc (.cells #[.int .i64 W.a, .int .i64 W.b, .slice x n c] 33)) w.heap.size W.a W.b x n c from new_at w _)
  have HA := Lib.hid (hA.mono hb0)
  have HP := Lib.hid (hp.mono hb0)
  have HB0 := Lib.hid hb0
  clear hA hp hb0
  cases hq : isPlanB W p with
  | false =>
    have HOK := Lib.hid hq
    clear hok hq
    go_enter Try.func38, Try.ntmps38
    go_wp2_with fail
    generalize w.alloc (.cells #[.int .i64 W.a, .int .i64 W.b, .slice x n c] 33) = V0 at *
    refine (isplan_go _ x y n c m dd W p HA.out HP.out).mono ?_
    rintro e w1 ⟨rfl, hb⟩
    rw [HOK.out]
    have HB1 := Lib.hid hb
    clear hb
    go_wp2
    go_ret2
    exact ⟨_, _, rfl, btr HB0.out HB1.out⟩
  | true =>
    have HOK := Lib.hid hq
    have ht : t < 0 ∨ 3 < t := by rw [hq] at hok; simpa using hok
    clear hok hq
    by_cases h1 : t < 0
    · have d1 : decide (t < 0) = true := by simpa using h1
      go_enter Try.func38, Try.ntmps38
      go_wp2_with fail
      generalize w.alloc (.cells #[.int .i64 W.a, .int .i64 W.b, .slice x n c] 33) = V0 at *
      refine (isplan_go _ x y n c m dd W p HA.out HP.out).mono ?_
      rintro e w1 ⟨rfl, hb⟩
      rw [HOK.out]
      have HB1 := Lib.hid hb
      clear hb
      go_wp2
      go_ret2
      exact ⟨_, _, rfl, btr HB0.out HB1.out⟩
    · have h2 : 3 < t := by omega
      have d1 : decide (t < 0) = false := by simpa using h1
      have d2 : decide (3 < t) = true := by simpa using h2
      go_enter Try.func38, Try.ntmps38
      go_wp2_with fail
      generalize w.alloc (.cells #[.int .i64 W.a, .int .i64 W.b, .slice x n c] 33) = V0 at *
      refine (isplan_go _ x y n c m dd W p HA.out HP.out).mono ?_
      rintro e w1 ⟨rfl, hb⟩
      rw [HOK.out]
      have HB1 := Lib.hid hb
      clear hb
      go_wp2
      go_ret2
      exact ⟨_, _, rfl, btr HB0.out HB1.out⟩
/-! ### the reference's -/
/-- A row of m fractions, of which the first k are told. -/
def RfSt (w : World) (g m k : Nat) (F : Nat → Fr) : Prop :=
  ∃ cur : Array Value, w.heap[g]? = some (.cells cur 53 (0, 0)) ∧ 2 * m ≤ cur.size ∧ ∀ i, i < k → cur[2 * i]? = some (.int .i64 (F i).n) ∧ cur[2 * i + 1]? = some (.int .i64 (F i).d)
theorem RfSt.mono {w w' : World} {g m k : Nat} {F : Nat → Fr} (h : RfSt w g m k F) (hb : Below w.heap.size w w') : RfSt w' g m k F := by
  obtain ⟨cur, hg, h2⟩ := h
  exact ⟨cur, persist hg hb, h2⟩
theorem rf_made {w : World} {base g m : Nat} {xs : List Value} (F : Nat → Fr) (h : w.ownsRow base 53 2 (.slice (some ⟨g, 0, none⟩) m m) m xs) (hm : 0 < m) : RfSt w g m 0 F := by
  obtain ⟨cur, hg, hl, _⟩ := rep_made ⟨0, 0⟩ h hm
  exact ⟨cur.toArray, hg, by simpa using hl, fun i hi => by omega⟩
theorem RfSt.lt {w : World} {g m k : Nat} {F : Nat → Fr} (h : RfSt w g m k F) : g < w.heap.size := by
  obtain ⟨cur, hg, _⟩ := h
  exact lt_of_block hg
theorem RfSt.slot {w : World} {g m k : Nat} {F : Nat → Fr} (h : RfSt w g m k F) {i : Nat} (hi : i < m) : ∃ v1 v2, w.cell? ⟨g, i * 2, none⟩ = some v1 ∧ w.cell? ⟨g, i * 2 + 1, none⟩ = some v2 ∧ w.frozen? ⟨g, i * 2, none⟩ = false ∧ w.frozen? ⟨g, i * 2 + 1, none⟩ = false := by
  obtain ⟨cur, hg, hl, _⟩ := h
  exact ⟨_, _, by rw [cells_at hg, Array.getElem?_eq_getElem (by omega)], by rw [cells_at hg, Array.getElem?_eq_getElem (by omega)], free_at hg _, free_at hg _⟩
theorem RfSt.store {w : World} {g m k : Nat} {F : Nat → Fr} (h : RfSt w g m k F) (hk : k < m) : RfSt ((w.setCell ⟨g, k * 2, none⟩ (.int .i64 (F k).n)).setCell ⟨g, k * 2 + 1, none⟩ (.int .i64 (F k).d)) g m (k + 1) F := by
  obtain ⟨cur, hg, hl, hv⟩ := h
  refine ⟨_, set_at (set_at hg _ _) _ _, by simpa using hl, fun i hi => ?_⟩
  simp only [Array.getElem?_setIfInBounds, Array.size_setIfInBounds]
  by_cases hik : i = k
  · subst hik
    refine ⟨?_, ?_⟩
    · rw [if_neg (by omega), if_pos (by omega), if_pos (by omega)]
    · rw [if_pos (by omega), if_pos (by omega)]
  · have := hv i (by omega)
    refine ⟨?_, ?_⟩
    · rw [if_neg (by omega), if_neg (by omega)]; exact this.1
    · rw [if_neg (by omega), if_neg (by omega)]; exact this.2
theorem RfSt.sl {w : World} {g m : Nat} {F : List Fr} (h : RfSt w g m m (fr F)) (hF : F.length = m) (hm : m ≤ maxLen) : FrSl w (some ⟨g, 0, none⟩) m m F := by
  refine ⟨hF, Nat.le_refl _, hm, .inr (.inr ⟨g, 0, rfl, h.lt, fun i hi => ?_⟩)⟩
  obtain ⟨cur, hg, hl, hv⟩ := h
  have := hv i hi
  rw [show 0 + i * 2 = 2 * i by omega]
  exact ⟨by rw [cells_at hg]; exact this.1, by rw [cells_at hg]; exact this.2⟩
set_option maxRecDepth 100000 in
set_option maxHeartbeats 4000000 in
theorem rafter_go (w : World) (x y : Option Addr) (n c m dd t : Nat) (W : Wd) (p : List Int) (hA : A2Sl w x n c W.acts) (hp : Sl w y m dd p) (hok : isPlanB W p = true) (ht : t ≤ 3) :
    Calls Try.prog 39 #[wv W.a W.b x n c, .slice y m dd, .int .i64 t] w (GivesF (aftF W p t) n w) := by
  have hb0 := bal (Below.refl w.heap.size w) (.cells #[.int .i64 W.a, .int .i64 W.b, .slice x n c] 25)
  have HZ := Lib.hid (boxR_new w W.a W.b x n c)
  have HA := Lib.hid (hA.mono hb0)
  have HP := Lib.hid (hp.mono hb0)
  have HB0 := Lib.hid hb0
  have HOK := Lib.hid hok
  have HNA := Lib.hid hA.1
  have HPAI := Lib.hid (fun s (hs : s < W.acts.length) => pa_of hok hs)
  obtain ⟨_, hpl, hpa, ⟨hn1, hn4, ha1, hab, hb4⟩, _⟩ := plan_parts hok
  have hnA := hA.1
  have hmp := hp.len
  have hcn := hA.2.cap
  have hcm := hp.cap
  unfold maxLen at hcn hcm
  obtain rfl : m = n := by omega
  have hn1 : 1 ≤ m := by omega
  have hn4 : m ≤ 4 := by omega
  have HPA := Lib.hid (show ∀ s, s < m → 0 ≤ nth p s ∧ nth p s < (acl W.acts s).length from fun s hs => hpa s (by omega))
  obtain ⟨i0, hi, hz0, hz1, hz2⟩ := info_parts infoFr
  clear hA hp hb0 hok hpl hnA hmp hpa
  go_enter Try.func39, Try.ntmps39
  go_wp2_with (refine wpList_make_full _ rfl _ _ 27 rfl (w.alloc (.cells #[.int .i64 W.a, .int .i64 W.b, .slice x m c] 25)).heap.size 53 i0 (.agg #[.int .i64 0, .int .i64 0]) 2 Try.underlying27 hi hz0 hz1 .i64 .i64 m m m rfl rfl rfl rfl (by rw [hz2]; omega) (by unfold maxLen; omega) (Nat.le_refl _) ?_; intro w2 hown2 hgrow2)
  have HB2 := Lib.hid ((Below.refl (w.alloc (.cells #[.int .i64 W.a, .int .i64 W.b, .slice x m c] 25)).heap.size (w.alloc (.cells #[.int .i64 W.a, .int .i64 W.b, .slice x m c] 25))).grown hgrow2 (Nat.le_refl _) (fun _ h => by cases h))
  have HR2 := Lib.hid (show RfSt w2 (w.heap.size + 1) m 0 (fun _ => ⟨0, 1⟩) by have h := rf_made (fun _ => ⟨0, 1⟩) hown2 (by omega); simpa using h)
  have HSZ := Lib.hid (show (w.alloc (.cells #[.int .i64 W.a, .int .i64 W.b, .slice x m c] 25)).heap.size = w.heap.size + 1 by simp)
  clear hown2 hgrow2
  generalize (w.alloc (.cells #[.int .i64 W.a, .int .i64 W.b, .slice x m c] 25)) = V0 at *
  go_loopw [17] (fun t wr => ∃ k : Nat, k ≤ m ∧ t = .int .i64 k ∧ Hid (RfSt wr (w.heap.size + 1) m k (fun _ => ⟨0, 1⟩)) ∧ Hid (Below V0.heap.size V0 wr)) (fun t _ => m - (intOf t).toNat)
  case atStart => exact ⟨0, by omega, rfl, HR2, HB2⟩
  case round =>
    clear HB2 HR2
    obtain ⟨k, hk, rfl, HR, HB⟩ := hrel
    by_cases hl : k < m
    · obtain ⟨v1, v2, q1, q2, q3, q4⟩ := HR.out.slot hl
      have q5 := HR.out.lt
      have HR2 := Lib.hid (HR.out.store hl)
      have HB2 := Lib.hid ((HB.out.setCell (p := ⟨w.heap.size + 1, k * 2, none⟩) (Nat.le_of_eq HSZ.out) (.int .i64 0)).setCell (p := ⟨w.heap.size + 1, k * 2 + 1, none⟩) (Nat.le_of_eq HSZ.out) (.int .i64 1))
      go_wp2
      go_roundw
      case rel => go_light; exact ⟨k + 1, by omega, by go_num, HR2, HB2⟩
      case measure => simp [intOf]; omega
    · obtain rfl : k = m := by omega
      have HF0 := Lib.hid (show FrSl wr (some ⟨w.heap.size + 1, 0, none⟩) k k (aftF W p 0) by
        refine RfSt.sl ?_ (by rw [aftF_len]; exact HNA.out) (by unfold maxLen; omega)
        obtain ⟨cur, e1, e2, e3⟩ := HR.out
        refine ⟨cur, e1, e2, fun i hi => ?_⟩
        rw [show fr (aftF W p 0) i = ⟨0, 1⟩ by rw [aft_zero]; simp [fr, HNA.out, hi]]
        exact e3 i hi)
      clear HR
      go_wp2
      go_loopw [7, 26] (fun v t2 wr => ∃ (s : Nat) (la : Option Addr) (lc : Nat), s ≤ t ∧ t2 = .int .i64 s ∧ v = .slice la k lc ∧ Hid (FrSl wr la k lc (aftF W p s)) ∧ Hid (Below V0.heap.size V0 wr)) (fun _ u _ => t - (intOf u).toNat)
      case atStart => exact ⟨0, _, _, by omega, rfl, rfl, HF0, HB⟩
      case round =>
        clear HF0 HB
        obtain ⟨s, la, lc, hs, rfl, rfl, HF, HB⟩ := hrel
        by_cases hl : s < t
        · generalize wr = U at *
          go_wp2_with (refine wpList_make_full _ rfl _ _ 27 rfl U.heap.size 53 i0 (.agg #[.int .i64 0, .int .i64 0]) 2 Try.underlying27 hi hz0 hz1 .i64 .i64 k k k rfl rfl rfl rfl (by rw [hz2]; omega) (by unfold maxLen; omega) (Nat.le_refl _) ?_; intro w3 hown3 hgrow3)
          have HB3 := Lib.hid ((Below.refl U.heap.size U).grown hgrow3 (Nat.le_refl _) (fun _ h => by cases h))
          have HR3 := Lib.hid (rf_made (fr (aftF W p (s + 1))) hown3 (by omega))
          have HGV := Lib.hid HB.out.size
          clear hown3 hgrow3
          obtain ⟨D, Z, hD1, hD2, hZ1, hZ2, hOv⟩ := aft_in HOK.out (t := s) (by omega)
          have HOV := Lib.hid hOv
          clear hOv
          go_loopw [33] (fun t2 wr => ∃ j : Nat, j ≤ k ∧ t2 = .int .i64 j ∧ Hid (RfSt wr U.heap.size k j (fr (aftF W p (s + 1)))) ∧ Hid (Below U.heap.size U wr)) (fun t2 _ => k - (intOf t2).toNat)
          case atStart => exact ⟨0, by omega, rfl, HR3, HB3⟩
          case round =>
            clear HB3 HR3
            obtain ⟨j, hj, rfl, HR, HC⟩ := hrel
            by_cases hlj : j < k
            · have hjA : j < W.acts.length := by rw [HNA.out]; exact hlj
              obtain ⟨hp0, hp1⟩ := HPA.out j hlj
              have HBB := Lib.hid (btr HB.out HC.out)
              obtain ⟨hg, hol, hor, hS, hbS⟩ := HPAI.out j hjA
              obtain ⟨t0, ht0⟩ : ∃ t0 : Nat, nth p j = (t0 : Int) := ⟨(nth p j).toNat, by omega⟩
              have hX : pact W.acts p j = ac (acl W.acts j) t0 := by unfold pact; rw [ht0]; rfl
              have HNX := Lib.hid (show fr (aftF W p (s + 1)) j = toFr (actQ W.a W.b (ac (acl W.acts j) t0) (aftQ W p s)) by rw [aftF_at hjA, ← hX]; rfl)
              rw [hX] at hg hol hor hS hbS
              obtain ⟨b1, o1, rfl, hb1, hc1⟩ := HA.out.at (by omega)
              obtain ⟨a2, m2, q2, e2, h2⟩ := hc1 j hlj
              have hl2 := h2.1
              have htm : t0 < m2 := by omega
              obtain ⟨b2, o2, rfl, hb2, hc2⟩ := h2.at (by omega)
              obtain ⟨eg, z, kk, q, eo, hSl⟩ := hc2 t0 htm
              obtain ⟨b3, o3, rfl, hb3, hc3⟩ := HP.out.at (by omega)
              have e3 := hc3 j hlj
              rw [ht0] at e3
              have hcq := h2.2.cap
              have hcl := HF.out.2.cap
              unfold maxLen at hcq hcl
              have hkk : k = kk := by have := hSl.len; have := HNA.out; omega
              subst hkk
              rw [← (bcell HBB.out).1 _ _ hb1] at e2
              rw [← (bcell HBB.out).1 _ _ hb2] at eg eo
              rw [← (bcell HBB.out).1 _ _ hb3] at e3
              obtain ⟨X, hXX⟩ : ∃ X, ac (acl W.acts j) t0 = X := ⟨_, rfl⟩
              rw [hXX] at eg hSl hg hol hor hS hbS HNX
              obtain ⟨gg, o⟩ := X
              have eg : wr.cell? ⟨b2, o2 + t0 * 2, none⟩ = some (.int .i64 gg) := eg
              have EG := Lib.hid eg
              have EO := Lib.hid eo
              have E2 := Lib.hid e2
              have HSL := Lib.hid (show Sl V0 z k q o from hSl)
              have HCALL := Lib.hid (fun (w' : World) (hb : Below wr.heap.size wr w') => ract_go w' (some ⟨b1, o1, none⟩) k c W.a W.b gg z k q o la k lc (aftF W p s) (aftQ W p s) D Z _ ⟨ha1, by omega⟩ ⟨by omega, hb4⟩ hg (HSL.out.mono (btr HBB.out hb)) hn4 (Nat.le_refl _) hor hS (HF.out.mono (btr HC.out hb)) (fun i hi => aftF_at (by have := HNA.out; omega)) ⟨hD1, by omega⟩ ⟨hZ1, by omega⟩ (fun i hi => HOV.out i (by have := HNA.out; omega)) rfl)
              obtain ⟨rf, hrf⟩ : ∃ rf, toFr (actQ W.a W.b ⟨gg, o⟩ (aftQ W p s)) = rf := ⟨_, rfl⟩
              rw [hrf] at HCALL HNX
              have hzV := HBB.out.size
              have hb1w := Nat.lt_of_lt_of_le hb1 hzV
              have hb2w := Nat.lt_of_lt_of_le hb2 hzV
              have HGV2 := HGV.out
              have HSZ2 := HSZ.out
              have HSX := Lib.hid (fun (w' : World) (hb : Below wr.heap.size wr w') =>
                (show w'.cell? ⟨w.heap.size, 0, none⟩ = some (.int .i64 W.a) ∧ w'.cell? ⟨w.heap.size, 1, none⟩ = some (.int .i64 W.b) ∧ w'.cell? ⟨w.heap.size, 2, none⟩ = some (.slice (some ⟨b1, o1, none⟩) k c) ∧ w'.cell? ⟨b1, o1 + j, none⟩ = some (.slice (some ⟨b2, o2, none⟩) m2 q2) ∧ w'.cell? ⟨b2, o2 + t0 * 2, none⟩ = some (.int .i64 gg) ∧ w'.cell? ⟨b2, o2 + t0 * 2 + 1, none⟩ = some (.slice z k q) from
                  have qw := (HZ.out.mono (btr HBB.out hb)).cells
                  ⟨qw.2.1, qw.2.2.1, qw.2.2.2, ((bcell hb).1 _ _ hb1w).trans E2.out, ((bcell hb).1 _ _ hb2w).trans EG.out, ((bcell hb).1 _ _ hb2w).trans EO.out⟩))
              have HSY := Lib.hid (fun (w' : World) (hb : Below wr.heap.size wr w') (v1 v2 : Value) =>
                (show ((w'.setCell ⟨U.heap.size, j * 2, none⟩ v1).setCell ⟨U.heap.size, j * 2 + 1, none⟩ v2).cell? ⟨w.heap.size, 0, none⟩ = some (.int .i64 W.a) ∧ ((w'.setCell ⟨U.heap.size, j * 2, none⟩ v1).setCell ⟨U.heap.size, j * 2 + 1, none⟩ v2).cell? ⟨w.heap.size, 1, none⟩ = some (.int .i64 W.b) ∧ ((w'.setCell ⟨U.heap.size, j * 2, none⟩ v1).setCell ⟨U.heap.size, j * 2 + 1, none⟩ v2).cell? ⟨w.heap.size, 2, none⟩ = some (.slice (some ⟨b1, o1, none⟩) k c) ∧ ((w'.setCell ⟨U.heap.size, j * 2, none⟩ v1).setCell ⟨U.heap.size, j * 2 + 1, none⟩ v2).cell? ⟨b1, o1 + j, none⟩ = some (.slice (some ⟨b2, o2, none⟩) m2 q2) ∧ ((w'.setCell ⟨U.heap.size, j * 2, none⟩ v1).setCell ⟨U.heap.size, j * 2 + 1, none⟩ v2).cell? ⟨b2, o2 + t0 * 2, none⟩ = some (.int .i64 gg) ∧ ((w'.setCell ⟨U.heap.size, j * 2, none⟩ v1).setCell ⟨U.heap.size, j * 2 + 1, none⟩ v2).cell? ⟨b2, o2 + t0 * 2 + 1, none⟩ = some (.slice z k q) from
                  have hA : ∀ (u : World) (i : Nat) (v : Value) (blk off : Nat), blk ≠ U.heap.size → (u.setCell ⟨U.heap.size, i, none⟩ v).cell? ⟨blk, off, none⟩ = u.cell? ⟨blk, off, none⟩ := fun u i v blk off hne => World.cell?_setCell_other _ _ _ _ (by intro e; injection e with e; exact hne e.symm)
                  have n0 : w.heap.size ≠ U.heap.size := by omega
                  have n1 : b1 ≠ U.heap.size := by omega
                  have n2 : b2 ≠ U.heap.size := by omega
                  have h := HSX.out _ hb
                  ⟨by rw [hA _ _ _ _ _ n0, hA _ _ _ _ _ n0]; exact h.1, by rw [hA _ _ _ _ _ n0, hA _ _ _ _ _ n0]; exact h.2.1, by rw [hA _ _ _ _ _ n0, hA _ _ _ _ _ n0]; exact h.2.2.1, by rw [hA _ _ _ _ _ n1, hA _ _ _ _ _ n1]; exact h.2.2.2.1, by rw [hA _ _ _ _ _ n2, hA _ _ _ _ _ n2]; exact h.2.2.2.2.1, by rw [hA _ _ _ _ _ n2, hA _ _ _ _ _ n2]; exact h.2.2.2.2.2⟩))
              have hD : Below wr.heap.size wr wr.drew := (Below.refl _ _).drew
              obtain ⟨r1, r2, r3, r4, r5, r6⟩ := HSX.out _ hD
              have hz1 := HR.out.lt
              have hwz : w.heap.size < wr.heap.size := (HZ.out.mono HBB.out).cells.1
              clear hc1 hc2 hc3 h2 hg hol hor hS hbS hX hXX hSl hrf
              go_wp2
              go_region_held3 (fun w' => w'.cell? ⟨w.heap.size, 0, none⟩ = some (.int .i64 W.a) ∧ w'.cell? ⟨w.heap.size, 1, none⟩ = some (.int .i64 W.b) ∧ w'.cell? ⟨w.heap.size, 2, none⟩ = some (.slice (some ⟨b1, o1, none⟩) k c) ∧ w'.cell? ⟨b1, o1 + j, none⟩ = some (.slice (some ⟨b2, o2, none⟩) m2 q2) ∧ w'.cell? ⟨b2, o2 + t0 * 2, none⟩ = some (.int .i64 gg) ∧ w'.cell? ⟨b2, o2 + t0 * 2 + 1, none⟩ = some (.slice z k q))
                (first | exact HSX.out _ hD | exact HSY.out _ hD _ _ | go_keep)
                (first
                  | ((with_reducible refine (HCALL.out _ hD).mono ?_); rintro e w' ⟨rfl, hb⟩; replace hD := btr hD hb; clear hb; obtain ⟨v1, v2, q1, q2, q3, q4⟩ := (HR.out.mono hD).slot hlj; have q5 := (HR.out.mono hD).lt))
              have HR4 := Lib.hid ((HR.out.mono hD).store hlj)
              rw [HNX.out] at HR4
              have HC4 := Lib.hid (((btr HC.out hD).setCell (p := ⟨U.heap.size, j * 2, none⟩) (Nat.le_refl _) (.int .i64 rf.n)).setCell (p := ⟨U.heap.size, j * 2 + 1, none⟩) (Nat.le_refl _) (.int .i64 rf.d))
              clear hD r1 r2 r3 r4 r5 r6
              go_wp2
              go_roundw
              case rel => go_light; exact ⟨j + 1, by omega, by go_num, HR4, HC4⟩
              case measure => simp [intOf]; omega
            · obtain rfl : j = k := by omega
              have HF3 := Lib.hid (RfSt.sl HR.out (by rw [aftF_len]; exact HNA.out) (by unfold maxLen; omega))
              have HB3 := Lib.hid (btr HB.out HC.out)
              go_wp2
              go_roundw
              case rel => go_light; exact ⟨s + 1, _, _, by omega, by go_num, rfl, HF3, HB3⟩
              case measure => simp [intOf]; omega
        · obtain rfl : s = t := by omega
          go_wp2
          go_ret
          exact ⟨_, _, rfl, HF.out, btr HB0.out HB.out⟩
end Go.Proofs.Ytcmakddnjmeklaa
