/- Chapter 9, walk: Best. -/
import Derived.Test.YtcmakddnjmeklaaWk
namespace Go.Proofs.Ytcmakddnjmeklaa
open Go.RowKit

theorem cf_best1 (args : Array Value) (w : World) : (callFunc 52 args).run Try.prog w = .ok (.enter 52 args) w := by kernel_rfl
theorem cf_check1 (args : Array Value) (w : World) : (callFunc 62 args).run Try.prog w = .ok (.enter 62 args) w := by kernel_rfl
def hitB (W : Wd) (p : List Int) (s i : Nat) : Bool := tlW W p (ac (acl W.acts s) i) == W.b * isum (ac (acl W.acts s) i).o * wN W.a W.b (planActs W.acts p) s
/-- In each state the first act that is told as much as the worth. -/
def firstP (W : Wd) (p : List Int) : List Int := (List.range W.acts.length).map fun s => firstIx (hitB W p s) (acl W.acts s).length
def firstTo (W : Wd) (p : List Int) (s : Nat) : List Int := (List.range W.acts.length).map fun i => if i < s then firstIx (hitB W p i) (acl W.acts i).length else nth p i
theorem firstTo_len {W : Wd} {p : List Int} {s : Nat} : (firstTo W p s).length = W.acts.length := by simp [firstTo]
theorem firstTo_at {W : Wd} {p : List Int} {s i : Nat} (hi : i < W.acts.length) : nth (firstTo W p s) i = if i < s then firstIx (hitB W p i) (acl W.acts i).length else nth p i := by simp [nth, firstTo, hi]
theorem firstP_len {W : Wd} {p : List Int} : (firstP W p).length = W.acts.length := by simp [firstP]
theorem firstP_at {W : Wd} {p : List Int} {s : Nat} (hs : s < W.acts.length) : nth (firstP W p) s = firstIx (hitB W p s) (acl W.acts s).length := by simp [nth, firstP, hs]
theorem firstTo_zero {W : Wd} {p : List Int} (hp : p.length = W.acts.length) : firstTo W p 0 = p := nth_ext (by rw [firstTo_len, hp]) fun i hi => by rw [firstTo_len] at hi; rw [firstTo_at hi, if_neg (by omega)]
theorem firstTo_end {W : Wd} {p : List Int} : firstTo W p W.acts.length = firstP W p := nth_ext (by rw [firstTo_len, firstP_len]) fun i hi => by rw [firstTo_len] at hi; rw [firstTo_at hi, if_pos hi, firstP_at hi]
theorem firstTo_succ {W : Wd} {p : List Int} {s : Nat} (_hs : s < W.acts.length) : firstTo W p (s + 1) = (firstTo W p s).set s (firstIx (hitB W p s) (acl W.acts s).length) := by
  refine nth_ext (by simp [firstTo_len]) fun i hi => ?_
  rw [firstTo_len] at hi
  rw [firstTo_at hi, nth_set, firstTo_len]
  by_cases q : s = i
  · subst q; rw [if_pos (show s < s + 1 by omega), if_pos ⟨rfl, hi⟩]
  · rw [if_neg (show ¬ (s = i ∧ i < W.acts.length) from fun e => q e.1), firstTo_at hi]
    by_cases q2 : i < s
    · rw [if_pos (show i < s + 1 by omega), if_pos q2]
    · rw [if_neg (show ¬ i < s + 1 by omega), if_neg q2]
/-- Best's answer. -/
def GivesFirst (W : Wd) (w : World) (e : Ending) (w' : World) : Prop := ∃ p, isPlanB W p = true ∧ Opt W p ∧ GivesIE w (firstP W p) 0 e w'
set_option maxHeartbeats 400000 in
theorem bestU_no (w : World) (x : Option Addr) (n c : Nat) (W : Wd) (hA : A2Sl w x n c W.acts) (hok : vWd W = false) :
    Calls Try.prog 27 #[wv W.a W.b x n c] w (GivesIE w [] 2) := by
  have hb0 := bal (Below.refl w.heap.size w) (.cells #[.int .i64 W.a, .int .i64 W.b, .slice x n c] 33)
  have HA := Lib.hid (hA.mono hb0)
  have HB0 := Lib.hid hb0
  have HOK := Lib.hid hok
  clear hA hb0 hok
  go_enter Try.func27, Try.ntmps27
  go_wp2_with fail
  refine (wvalid_go _ x n c W HA.out).mono ?_
  rintro e w2 ⟨rfl, hb2⟩
  rw [HOK.out]
  go_wp2
  go_ret2
  exact ⟨none, 0, 0, rfl, World.ownsRow_nil _ _ _ _, btr HB0.out hb2⟩
set_option maxRecDepth 100000 in
set_option maxHeartbeats 1000000 in
theorem bestU_go (w : World) (x : Option Addr) (n c : Nat) (W : Wd) (hA : A2Sl w x n c W.acts) (hok : vWd W = true) :
    Calls Try.prog 27 #[wv W.a W.b x n c] w (GivesFirst W w) := by
  have hcf := cf_best1
  have hb0 := bal (Below.refl w.heap.size w) (.cells #[.int .i64 W.a, .int .i64 W.b, .slice x n c] 33)
  have HA := Lib.hid (hA.mono hb0)
  have HB0 := Lib.hid hb0
  have HOK := Lib.hid hok
  have HZ := Lib.hid (show BoxW (w.alloc (.cells #[.int .i64 W.a, .int .i64 W.b, .slice x n c] 33)) w.heap.size W.a W.b x n c from new_at w _)
  have HAN := Lib.hid hA.1
  have hcap := hA.2.cap
  unfold maxLen at hcap
  clear hA hb0 hok
  go_enter Try.func27, Try.ntmps27
  go_wp2_with fail
  refine (wvalid_go _ x n c W HA.out).mono ?_
  rintro e w2 ⟨rfl, hb2⟩
  rw [HOK.out]
  obtain ⟨z0, z1, z2, z3⟩ := BoxW.cells (persist HZ.out hb2)
  have HB2 := Lib.hid (btr HB0.out hb2)
  have HA2 := Lib.hid (HA.out.mono hb2)
  have HZ2 := Lib.hid (show BoxW w2 w.heap.size W.a W.b x n c from persist HZ.out hb2)
  clear hb2
  go_wp2_with fail
  refine (best_go _ x n c W HA2.out HOK.out).mono ?_
  rintro e w3 ⟨pa, pn, pc, p, rfl, hO3, hpl, hop, hb3⟩
  obtain ⟨_, hpl2, _, ⟨hn1, hn4, ha1, hab, hb4⟩, hvv⟩ := plan_parts hpl
  rw [HAN.out] at hn1 hn4 hpl2
  have hpn : pn = n := by rw [← (own_sl hO3).len]; exact hpl2
  subst hpn
  obtain ⟨gp, rfl, _⟩ := own_cells hO3 (by omega)
  have HPL := Lib.hid hpl
  have HOP := Lib.hid hop
  have HVV := Lib.hid hvv
  have HO3 := Lib.hid hO3
  have HB3 := Lib.hid hb3
  obtain ⟨y0, y1, y2, y3⟩ := BoxW.cells (persist HZ2.out hb3)
  have HPL2 := Lib.hid (show p.length = W.acts.length by rw [hpl2, HAN.out])
  have hg3 := (HO3.out.lt gp rfl)
  clear hO3 hb3 hpl hop hvv z0 z1 z2 z3 hpl2
  go_wp2_with fail
  refine (worth_goO _ x (some ⟨gp, 0, none⟩) pn c pn pc W p (HA2.out.mono HB3.out) (own_sl HO3.out) HPL.out).mono ?_
  rintro e w4 ⟨va, vn, vc, rfl, hV, hb4'⟩
  have hvn : vn = pn := by have := (own_sl hV).len; rw [wNs_len, planActs_len, HAN.out] at this; exact this.symm
  subst hvn
  have hba := bal (Below.refl w4.heap.size w4) (.cells #[.slice va vn vc, .int .i64 (wD W.a W.b (planActs W.acts p))] 80)
  have HBP := Lib.hid (show BoxP (w4.alloc (.cells #[.slice va vn vc, .int .i64 (wD W.a W.b (planActs W.acts p))] 80)) w4.heap.size va vn vc (wD W.a W.b (planActs W.acts p)) from new_at w4 _)
  have HV := Lib.hid (own_mono hV hba)
  have HB24 := Lib.hid (btr HB3.out (btr hb4' hba))
  have HO4 := Lib.hid (own_mono HO3.out (btr hb4' hba))
  have hz34 := hb4'.size
  obtain ⟨u0, u1, u2, u3⟩ := BoxW.cells (persist HZ2.out HB24.out)
  have hD := wD_pos (okX_plan HPL.out)
  have HNB := Lib.hid (wNs_bound (okX_plan HPL.out))
  have hdd : 0 ≤ wD W.a W.b (planActs W.acts p) ∧ wD W.a W.b (planActs W.acts p) ≤ 1000000000 := by omega
  have HD := Lib.hid hdd
  clear hV hb4' hba y0 y1 y2 y3 hD hdd
  go_wp2
  generalize hVe : w4.alloc (.cells #[.slice va vn vc, .int .i64 (wD W.a W.b (planActs W.acts p))] 80) = V at *
  clear hVe
  obtain ⟨hg1, hg2⟩ := hg3
  go_loopw [19] (fun t wr => ∃ s : Nat, s ≤ vn ∧ t = .int .i64 s ∧ Hid (wr.ownsRow w2.heap.size 3 1 (.slice (some ⟨gp, 0, none⟩) vn pc) vn ((firstTo W p s).map (Value.int .i64))) ∧ Hid (Below w2.heap.size w2 wr) ∧ Hid (BoxP wr w4.heap.size va vn vc (wD W.a W.b (planActs W.acts p))) ∧ Hid (wr.ownsRow w3.heap.size 3 1 (.slice va vn vc) vn ((wNs W.a W.b (planActs W.acts p)).map (Value.int .i64)))) (fun t _ => vn - (intOf t).toNat)
  case atStart => exact ⟨0, by omega, rfl, Lib.hid (by rw [firstTo_zero HPL2.out]; exact HO4.out), HB24, HBP, HV⟩
  case round =>
    clear u0 u1 u2 u3
    obtain ⟨s, hs, rfl, HO, HB, HP, HL⟩ := hrel
    by_cases hl : s < vn
    · have hsA : s < W.acts.length := by rw [HAN.out]; exact hl
      obtain ⟨hv1, hv3, hvi⟩ := HVV.out s hsA
      obtain ⟨z0, z1, z2, z3⟩ := BoxW.cells (persist HZ2.out HB.out)
      obtain ⟨b1, o1, rfl, hb1, hc1⟩ := (HA2.out.mono HB.out).at (by omega)
      obtain ⟨a2, n2, c2, e2, h2⟩ := hc1 s hl
      have hl2 := h2.1
      have hbx := bal (Below.refl wr.heap.size wr) (.cells #[.int .i64 (s : Int)] 3)
      have HBX := Lib.hid hbx
      have HI := Lib.hid (show BoxI (wr.alloc (.cells #[.int .i64 (s : Int)] 3)) wr.heap.size (s : Int) from new_at wr _)
      have HZ' := Lib.hid (show BoxW (wr.alloc (.cells #[.int .i64 (s : Int)] 3)).drew w.heap.size W.a W.b (some ⟨b1, o1, none⟩) vn c from persist (persist HZ2.out HB.out) hbx.drew)
      have HP' := Lib.hid (show BoxP (wr.alloc (.cells #[.int .i64 (s : Int)] 3)).drew w4.heap.size va vn vc (wD W.a W.b (planActs W.acts p)) from persist HP.out hbx.drew)
      have HL' := Lib.hid ((own_sl HL.out).mono hbx.drew)
      have H2' := Lib.hid (h2.mono hbx.drew)
      have HL2 := Lib.hid hl2
      have HVI := Lib.hid (show ∀ i, i < n2 → vAc vn (ac (acl W.acts s) i) = true from fun i hi => by have := hvi i (by omega); rwa [HAN.out] at this)
      have hvl : nth (wNs W.a W.b (planActs W.acts p)) s = wN W.a W.b (planActs W.acts p) s := wNs_at (by rw [planActs_len]; exact hsA)
      have HHB := Lib.hid (show ∀ i, (tel W.a W.b (ac (acl W.acts s) i) (nth (wNs W.a W.b (planActs W.acts p))) (wD W.a W.b (planActs W.acts p)) == W.b * isum (ac (acl W.acts s) i).o * nth (wNs W.a W.b (planActs W.acts p)) s) = hitB W p s i from fun i => by rw [hvl]; rfl)
      have hOb := HO.out.alloc (.cells #[.int .i64 (s : Int)] 3)
      obtain ⟨_, g2, g3, g4, g5, g6, cur, g7⟩ := own_at hOb (by omega)
      have HG7 := Lib.hid g7
      have HOB := Lib.hid hOb
      have hi0 := (BoxI.cell HI.out).2
      have hi1 := (BoxI.cell HI.out).1
      have g3s := g3 s hl
      have g4s := g4 s
      have HHC := Lib.hid (fun (w' : World) (hb : Below (wr.alloc (.cells #[.int .i64 (s : Int)] 3)).drew.heap.size (wr.alloc (.cells #[.int .i64 (s : Int)] 3)).drew w') =>
        (show w'.cell? ⟨wr.heap.size, 0, none⟩ = some (.int .i64 (s : Int)) ∧ w'.cell? ⟨gp, s, none⟩ = some (.int .i64 (nth (firstTo W p s) s)) ∧ w'.frozen? ⟨gp, s, none⟩ = false ∧ gp < w'.heap.size from
          ⟨(BoxI.cell (persist (w := (wr.alloc (.cells #[.int .i64 (s : Int)] 3)).drew) HI.out hb)).2, ((bcell hb).1 _ _ g2).trans g3s, ((bcell hb).2 _ _ g2).trans g4s, Nat.lt_of_lt_of_le g2 hb.size⟩))
      have HNX := Lib.hid (firstTo_succ (W := W) (p := p) hsA)
      have HNE := Lib.hid (show gp ≠ wr.heap.size from by have := (HO.out.lt gp rfl).2; omega)
      have hs0 : (0 : Int) ≤ (s : Int) := by omega
      have hsl : (s : Int) < (vn : Int) := by omega
      unfold maxLen at g6
      clear hc1 h2 hvi hl2 hv1 hv3 hvl hbx hOb g3 g4 g7
      go_wp2
      go_region_held3 (fun w' => w'.cell? ⟨wr.heap.size, 0, none⟩ = some (.int .i64 (s : Int)))
        (first | exact (HHC.out _ hb9).1 | (rw [World.cell?_setCell_far _ _ _ _ HNE.out]; exact (HHC.out _ hb9).1) | go_keep)
        ((go_at_call 51; refine (idxA_go _ a2 n2 c2 (acl W.acts s) H2'.out 52 #[.pointer (some ⟨w.heap.size, 0, none⟩), .pointer (some ⟨w4.heap.size, 0, none⟩), .pointer (some ⟨wr.heap.size, 0, none⟩)] (hitB W p s) cf_best1 (fun w' i z k q hb hi hS => by
          have h1 := best1_go w' W.a W.b w.heap.size w4.heap.size wr.heap.size vn c k q vn vc s (some ⟨b1, o1, none⟩) va z (ac (acl W.acts s) i) (wNs W.a W.b (planActs W.acts p)) (wD W.a W.b (planActs W.acts p)) (persist HZ'.out hb) (persist HP'.out hb) (persist (w := (wr.alloc (.cells #[.int .i64 (s : Int)] 3)).drew) HI.out hb) hS (HL'.out.mono hb) hl
            (by have hv := HVI.out i hi; have hk : k = vn := by rw [← hS.len]; exact (vAc_at hv).2.2.1
                rw [hk]; exact hv) (by have hv := HVI.out i hi; have hk : k = vn := by rw [← hS.len]; exact (vAc_at hv).2.2.1
                                       omega) (by have hv := HVI.out i hi; have hk : k = vn := by rw [← hS.len]; exact (vAc_at hv).2.2.1
                                                  omega) (by omega) (by omega) (by omega) (fun e he => by have := HNB.out e he; omega) HD.out
          rw [HHB.out i] at h1
          exact h1)).mono ?_; rintro e w9 ⟨rfl, hb9⟩; obtain ⟨x1, x2, x3, x4⟩ := HHC.out _ hb9))
      have hne : (Value.slice va vn vc).ownBlock ≠ some gp := fun e => by have := (HL.out.lt gp e).1; omega
      have hO9 := ((own_mono HOB.out (btr (Below.refl _ _).drew hb9)).stored s (.int .i64 (firstIx (hitB W p s) n2))).1
      rw [← List.map_set, ← HL2.out, ← HNX.out] at hO9
      have HO9 := Lib.hid hO9
      have hb99 : Below wr.heap.size wr w9 := btr HBX.out (btr (Below.refl _ _).drew hb9)
      have HP9 := Lib.hid (show BoxP (w9.setCell ⟨gp, s, none⟩ (.int .i64 (firstIx (hitB W p s) (acl W.acts s).length))) w4.heap.size va vn vc (wD W.a W.b (planActs W.acts p)) from by
        have := persist HP.out hb99
        exact (Below.heap_setCell _ _ _ _ (by show w4.heap.size ≠ gp; omega)).trans this)
      have HL9 := Lib.hid ((own_mono HL.out hb99).kept (w' := w9.setCell ⟨gp, s, none⟩ (.int .i64 (firstIx (hitB W p s) (acl W.acts s).length))) (row := some gp) (grown_store (World.grownBy.refl _ _) _) (.inr hne))
      have HB9 := Lib.hid ((btr HB.out hb99).setCell (p := ⟨gp, s, none⟩) hg1 (.int .i64 (firstIx (hitB W p s) (acl W.acts s).length)))
      have HL2' := HL2.out
      clear hO9 hb99 hb9 x1 x2 x3 x4 hne
      rw [HL2.out] at HO9 HP9 HL9 HB9
      clear HL2'
      go_wp2
      go_roundw
      case rel => go_light; exact ⟨s + 1, by omega, by go_num, HO9, HB9, HP9, HL9⟩
      case measure => simp [intOf]; omega
    · obtain rfl : s = vn := by omega
      have hO := HO.out
      rw [show firstTo W p s = firstP W p by rw [← firstTo_end, HAN.out]] at hO
      have HO' := Lib.hid (own_base hO HB2.out.size)
      clear hO
      go_wp2
      go_ret2
      exact ⟨p, HPL.out, HOP.out, _, _, _, rfl, HO'.out, btr HB2.out HB.out⟩

end Go.Proofs.Ytcmakddnjmeklaa
