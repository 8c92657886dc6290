/- Walks: arcs: through, on, Join, On. -/
import Derived.Test.YtiapngmallfelaaFnf
namespace Go.Proofs.Ytiapngmallfelaa
open Go.RowKit
open Go.Maps
set_option linter.unusedSimpArgs false

theorem pt2_in2 : ∀ i, i < 7 → In3 2 (ptP 2 i) := by unfold In3; decide
theorem pt_in {p i : Nat} (hp : p = 2 ∨ p = 3) (h : i < (ptsP p).length) : In3 p (ptP p i) := by
  rcases hp with rfl | rfl
  · rw [pts2_len] at h; exact pt2_in2 i h
  · rw [pts3_len] at h; exact pt3_in i h
theorem look_pt {w : World} {mb n p i : Nat} (hown : w.ownsMap Try.prog 90 (plainElem Try.prog 3) mb n (dM p (p * p * p))) (hp : p = 2 ∨ p = 3) (hi : i < (ptsP p).length) :
    (Instr.lookup 85 (.map (some mb)) (T3N (ptP p i)) false).run Try.prog w = .ok (.int .i64 (i : Int)) w := by
  have hz : (zeroValue 3).run Try.prog w = .ok (.int .i64 0) w := by kernel_rfl
  have hin := pt_in hp hi
  obtain ⟨v, ps, hrun, hv⟩ := hown.lookup keyT Try.underlying85 hz (plainElem_int Try.underlying3 (by decide)) (klT_is (x := ptP p i) (by obtain ⟨h1, h2, h3⟩ := hin; exact ⟨by omega, by omega, by omega⟩))
  obtain ⟨x, rfl, hx, _⟩ := plainElem_int_inv Try.underlying3 hv
  have hat : (dM p (p * p * p)).atKey (klT (ptP p i)) (.lit (.int .i64 0)) = .lit (.int .i64 (i : Int)) := by
    rcases hp with rfl | rfl
    · exact dM2_at (by rw [pts2_len] at hi; exact hi)
    · exact dM3_at (by rw [pts3_len] at hi; exact hi)
  rw [hat] at hx
  simp only [Prod.mk.injEq, DataW.lit.injEq, Lit.int.injEq] at hx
  rw [← hx.1.2] at hrun
  exact hrun
set_option maxRecDepth 100000 in
set_option maxHeartbeats 4000000 in
theorem aon_go (w : World) (pk p i j : Nat) (hP : PlaneAt w pk p) (hp : p = 2 ∨ p = 3) (hi : i < (ptsP p).length) (hj : j < (ptsP p).length) :
    Calls Try.prog 49 #[.pointer (some ⟨pk, 0, none⟩), .int .i64 (i : Int), .int .i64 (j : Int)] w fun e w' => e = .returned (.bool (dotN p (ptP p i) (ptP p j) == 0)) ∧ Below w.heap.size w w' := by
  obtain ⟨pa, po, cap, mb, n, h1, h2, h3, h4, h5⟩ := hP
  have hK : (ptsP p).length ≤ 13 := by rcases hp with rfl | rfl; (rw [pts2_len]; omega); (rw [pts3_len]; omega)
  have HIX := Lib.hid (pt_in hp hi)
  have HIY := Lib.hid (pt_in hp hj)
  obtain ⟨cx0, cx1, cx2⟩ := h4 i hi
  obtain ⟨cy0, cy1, cy2⟩ := h4 j hj
  unfold maxLen at h2
  obtain ⟨K, hKE⟩ : ∃ K, (ptsP p).length = K := ⟨_, rfl⟩
  rw [hKE] at h1 h2 hi hj hK
  obtain ⟨⟨x0, x1, x2⟩, hX⟩ : ∃ x, ptP p i = x := ⟨_, rfl⟩
  obtain ⟨⟨y0, y1, y2⟩, hY⟩ : ∃ x, ptP p j = x := ⟨_, rfl⟩
  rw [hX] at cx0 cx1 cx2 HIX
  rw [hY] at cy0 cy1 cy2 HIY
  dsimp only at cx0 cx1 cx2 cy0 cy1 cy2
  have HPB := Lib.hid h1
  have hpkl := lt_of_block h1
  have HC := Lib.hid (And.intro cx0 (And.intro cx1 (And.intro cx2 (And.intro cy0 (And.intro cy1 cy2)))))
  have HPK := Lib.hid (fun (w' : World) (hb : Below w.heap.size w w') => (show pk < w'.heap.size ∧ w'.cell? ⟨pk, 0, none⟩ = some (.int .i64 p) from ⟨lt_of_block (persist HPB.out hb), cell_of (persist HPB.out hb) 0 rfl⟩))
  have HXY := Lib.hid (And.intro hX hY)
  obtain ⟨dv, hdv⟩ : ∃ z, dotN p (x0, x1, x2) (y0, y1, y2) = z := ⟨_, rfl⟩
  have HD := Lib.hid (fun (w' : World) (hb : Below w.heap.size w w') => adot_go w' pk p (x0, x1, x2) (y0, y1, y2) (HPK.out w' hb).1 (HPK.out w' hb).2 hp HIX.out HIY.out)
  rw [hdv] at HD
  have HDV := Lib.hid hdv
  unfold T3N at HD
  dsimp only at HD
  have HSX := Lib.hid (fun (w' : World) (hb : Below w.heap.size w w') => (show w'.cell? ⟨pk, 1, none⟩ = some (.slice (some ⟨pa, po, none⟩) K cap) ∧ w'.cell? ⟨pa, po + i * 3, none⟩ = some (.int .i64 (x0 : Int)) ∧ w'.cell? ⟨pa, po + i * 3 + 1, none⟩ = some (.int .i64 (x1 : Int)) ∧ w'.cell? ⟨pa, po + i * 3 + 2, none⟩ = some (.int .i64 (x2 : Int)) ∧ w'.cell? ⟨pa, po + j * 3, none⟩ = some (.int .i64 (y0 : Int)) ∧ w'.cell? ⟨pa, po + j * 3 + 1, none⟩ = some (.int .i64 (y1 : Int)) ∧ w'.cell? ⟨pa, po + j * 3 + 2, none⟩ = some (.int .i64 (y2 : Int)) from
    have k := fun o => hb.cell (p := ⟨pa, o, none⟩) h3
    ⟨cell_of (persist HPB.out hb) 1 rfl, (k _).trans HC.out.1, (k _).trans HC.out.2.1, (k _).trans HC.out.2.2.1, (k _).trans HC.out.2.2.2.1, (k _).trans HC.out.2.2.2.2.1, (k _).trans HC.out.2.2.2.2.2⟩))
  have hb3 := HPK.out
  have hC : Below w.heap.size w w.drew := (Below.refl _ _).drew
  obtain ⟨r0, r1, r2, r3, r4, r5, r6⟩ := HSX.out _ hC
  clear h1 h4 h5 cx0 cx1 cx2 cy0 cy1 cy2 hX hY hdv hb3
  have hzz : ((dv : Int) == 0) = (dv == 0) := by cases dv <;> rfl
  go_enter Try.func49, Try.ntmps49
  go_wp2
  go_region_held3 (fun w' => w'.cell? ⟨pk, 1, none⟩ = some (.slice (some ⟨pa, po, none⟩) K cap) ∧ w'.cell? ⟨pa, po + i * 3, none⟩ = some (.int .i64 (x0 : Int)) ∧ w'.cell? ⟨pa, po + i * 3 + 1, none⟩ = some (.int .i64 (x1 : Int)) ∧ w'.cell? ⟨pa, po + i * 3 + 2, none⟩ = some (.int .i64 (x2 : Int)) ∧ w'.cell? ⟨pa, po + j * 3, none⟩ = some (.int .i64 (y0 : Int)) ∧ w'.cell? ⟨pa, po + j * 3 + 1, none⟩ = some (.int .i64 (y1 : Int)) ∧ w'.cell? ⟨pa, po + j * 3 + 2, none⟩ = some (.int .i64 (y2 : Int))) (first | exact HSX.out _ hC | go_keep)
    (first
      | ((with_reducible refine (HD.out _ hC).mono ?_); rintro e w' ⟨rfl, hb⟩; replace hC := btr hC hb; clear hb))
  go_wp2
  go_ret
  exact ⟨by rw [HXY.out.1, HXY.out.2, HDV.out]; rfl, hC⟩
set_option maxRecDepth 100000 in
set_option maxHeartbeats 4000000 in
theorem athr_go (w : World) (pk p i j q : Nat) (hP : PlaneAt w pk p) (hp : p = 2 ∨ p = 3) (hi : i < (ptsP p).length) (hj : j < (ptsP p).length) (hq : q < (ptsP p).length) (h0 : firstN (crossN p (ptP p i) (ptP p j)) ≠ 0) (hqe : lowN p (crossN p (ptP p i) (ptP p j)) = ptP p q) (hcr : In3 p (crossN p (ptP p i) (ptP p j))) :
    Calls Try.prog 48 #[.pointer (some ⟨pk, 0, none⟩), .int .i64 (i : Int), .int .i64 (j : Int)] w fun e w' => e = .returned (.int .i64 (q : Int)) ∧ Below w.heap.size w w' := by
  have HLK0 := Lib.hid hP
  have HQ := Lib.hid hq
  clear hq
  obtain ⟨pa, po, cap, mb, n, h1, h2, h3, h4, h5⟩ := hP
  have hK : (ptsP p).length ≤ 13 := by rcases hp with rfl | rfl; (rw [pts2_len]; omega); (rw [pts3_len]; omega)
  have HIX := Lib.hid (pt_in hp hi)
  have HIY := Lib.hid (pt_in hp hj)
  obtain ⟨cx0, cx1, cx2⟩ := h4 i hi
  obtain ⟨cy0, cy1, cy2⟩ := h4 j hj
  unfold maxLen at h2
  obtain ⟨K, hKE⟩ : ∃ K, (ptsP p).length = K := ⟨_, rfl⟩
  rw [hKE] at h1 h2 hi hj hK
  obtain ⟨⟨x0, x1, x2⟩, hX⟩ : ∃ x, ptP p i = x := ⟨_, rfl⟩
  obtain ⟨⟨y0, y1, y2⟩, hY⟩ : ∃ x, ptP p j = x := ⟨_, rfl⟩
  rw [hX] at cx0 cx1 cx2 HIX
  rw [hY] at cy0 cy1 cy2 HIY
  dsimp only at cx0 cx1 cx2 cy0 cy1 cy2
  have HPB := Lib.hid h1
  have hpkl := lt_of_block h1
  have HC := Lib.hid (And.intro cx0 (And.intro cx1 (And.intro cx2 (And.intro cy0 (And.intro cy1 cy2)))))
  have HPK := Lib.hid (fun (w' : World) (hb : Below w.heap.size w w') => (show pk < w'.heap.size ∧ w'.cell? ⟨pk, 0, none⟩ = some (.int .i64 p) from ⟨lt_of_block (persist HPB.out hb), cell_of (persist HPB.out hb) 0 rfl⟩))
  rw [hX, hY] at h0 hqe hcr
  have HMAP := Lib.hid (fun (w' : World) (hb : Below w.heap.size w w') => look_pt (own_map_mono h5 hb) hp HQ.out)
  rw [← hqe] at HMAP
  obtain ⟨⟨z0, z1, z2⟩, hz⟩ : ∃ z, crossN p (x0, x1, x2) (y0, y1, y2) = z := ⟨_, rfl⟩
  rw [hz] at h0 hqe hcr HMAP
  have HCR := Lib.hid (fun (w' : World) (hb : Below w.heap.size w w') => across_go w' pk p (x0, x1, x2) (y0, y1, y2) (HPK.out w' hb).1 (HPK.out w' hb).2 hp HIX.out HIY.out)
  rw [hz] at HCR
  have H0 := Lib.hid h0
  have HIN := Lib.hid hcr
  have HLW := Lib.hid (fun (w' : World) (hb : Below w.heap.size w w') => alowT_go w' pk p (z0, z1, z2) (HPK.out w' hb).1 (HPK.out w' hb).2 hp HIN.out H0.out)
  obtain ⟨⟨l0, l1, l2⟩, hl⟩ : ∃ z, lowN p (z0, z1, z2) = z := ⟨_, rfl⟩
  rw [hl] at HLW HMAP
  unfold T3N at HCR HLW HMAP
  dsimp only at HCR HLW HMAP
  have HSX := Lib.hid (fun (w' : World) (hb : Below w.heap.size w w') => (show w'.cell? ⟨pk, 2, none⟩ = some (.map (some mb)) ∧ w'.cell? ⟨pk, 1, none⟩ = some (.slice (some ⟨pa, po, none⟩) K cap) ∧ w'.cell? ⟨pa, po + i * 3, none⟩ = some (.int .i64 (x0 : Int)) ∧ w'.cell? ⟨pa, po + i * 3 + 1, none⟩ = some (.int .i64 (x1 : Int)) ∧ w'.cell? ⟨pa, po + i * 3 + 2, none⟩ = some (.int .i64 (x2 : Int)) ∧ w'.cell? ⟨pa, po + j * 3, none⟩ = some (.int .i64 (y0 : Int)) ∧ w'.cell? ⟨pa, po + j * 3 + 1, none⟩ = some (.int .i64 (y1 : Int)) ∧ w'.cell? ⟨pa, po + j * 3 + 2, none⟩ = some (.int .i64 (y2 : Int)) from
    have k := fun o => hb.cell (p := ⟨pa, o, none⟩) h3
    ⟨cell_of (persist HPB.out hb) 2 rfl, cell_of (persist HPB.out hb) 1 rfl, (k _).trans HC.out.1, (k _).trans HC.out.2.1, (k _).trans HC.out.2.2.1, (k _).trans HC.out.2.2.2.1, (k _).trans HC.out.2.2.2.2.1, (k _).trans HC.out.2.2.2.2.2⟩))
  have hC : Below w.heap.size w w.drew := (Below.refl _ _).drew
  obtain ⟨r, r0, r1, r2, r3, r4, r5, r6⟩ := HSX.out _ hC
  clear h1 h4 h5 cx0 cx1 cx2 cy0 cy1 cy2 hX hY hz hl h0 hqe hcr
  go_enter Try.func48, Try.ntmps48
  go_wp2
  go_region_held3 (fun w' => w'.cell? ⟨pk, 2, none⟩ = some (.map (some mb)) ∧ w'.cell? ⟨pk, 1, none⟩ = some (.slice (some ⟨pa, po, none⟩) K cap) ∧ w'.cell? ⟨pa, po + i * 3, none⟩ = some (.int .i64 (x0 : Int)) ∧ w'.cell? ⟨pa, po + i * 3 + 1, none⟩ = some (.int .i64 (x1 : Int)) ∧ w'.cell? ⟨pa, po + i * 3 + 2, none⟩ = some (.int .i64 (x2 : Int)) ∧ w'.cell? ⟨pa, po + j * 3, none⟩ = some (.int .i64 (y0 : Int)) ∧ w'.cell? ⟨pa, po + j * 3 + 1, none⟩ = some (.int .i64 (y1 : Int)) ∧ w'.cell? ⟨pa, po + j * 3 + 2, none⟩ = some (.int .i64 (y2 : Int))) (first | exact HSX.out _ hC | go_keep)
    (first
      | ((with_reducible refine (HCR.out _ hC).mono ?_); rintro e w' ⟨rfl, hb⟩; replace hC := btr hC hb; clear hb)
      | ((with_reducible refine (HLW.out _ hC).mono ?_); rintro e w' ⟨rfl, hb⟩; replace hC := btr hC hb; clear hb; have hlk := HMAP.out _ hC))
  go_wp2
  go_ret
  exact ⟨rfl, hC⟩
theorem sl_two (w : World) (a b : Int) : Sl (w.alloc (.cells #[.int .i64 a, .int .i64 b] 3)) (some ⟨w.heap.size, 0, none⟩) 2 2 [a, b] := by
  refine ⟨rfl, Nat.le_refl _, by unfold maxLen; omega, .inr (.inr ⟨_, 0, rfl, by simp, fun j hj => ?_⟩)⟩
  have h := new_at w (.cells #[.int .i64 a, .int .i64 b] 3)
  have : j = 0 ∨ j = 1 := by omega
  rcases this with rfl | rfl
  · exact cell_of h 0 rfl
  · exact cell_of h 1 rfl
theorem in_two {p i j : Nat} (hi : i < (ptsP p).length) (hj : j < (ptsP p).length) : [(i : Int), (j : Int)].all (inB (ptsP p).length) = true := by
  simp [inB]; omega
set_option maxHeartbeats 2000000 in
theorem ajoin_go (w : World) (p i j q : Nat) (hp : p = 2 ∨ p = 3) (hi : i < (ptsP p).length) (hj : j < (ptsP p).length) (hij : i ≠ j) (hq : q < (ptsP p).length) (h0 : firstN (crossN p (ptP p i) (ptP p j)) ≠ 0) (hqe : lowN p (crossN p (ptP p i) (ptP p j)) = ptP p q) (hcr : In3 p (crossN p (ptP p i) (ptP p j))) :
    Calls Try.prog 19 #[.int .i64 (p : Int), .int .i64 (i : Int), .int .i64 (j : Int)] w fun e w' => e = .returned (.tuple #[.int .i64 (q : Int), .int .i64 0]) ∧ Below w.heap.size w w' := by
  have HTH := Lib.hid (fun (w' : World) (pk : Nat) (hP : PlaneAt w' pk p) => athr_go w' pk p i j q hP hp hi hj hq h0 hqe hcr)
  have HRD := Lib.hid (aread_go (w.alloc (.cells #[.int .i64 (i : Int), .int .i64 (j : Int)] 3)) p _ 2 2 _ (sl_two w i j) hp)
  rw [in_two hi hj] at HRD
  have hd : ((i : Int) == (j : Int)) = false := by rw [beq_eq_false_iff_ne]; omega
  clear h0 hqe hcr hq
  go_enter Try.func19, Try.ntmps19
  go_wp2_with fail
  refine HRD.out.mono ?_
  rintro e w' ⟨pk, rfl, hP, hb⟩
  have HP := Lib.hid hP
  have HB := Lib.hid (btr (bal (Below.refl w.heap.size w) (.cells #[.int .i64 (i : Int), .int .i64 (j : Int)] 3)) hb)
  clear hP hb
  go_wp2_with fail
  refine (HTH.out _ pk HP.out).mono ?_
  rintro e w2 ⟨rfl, hb⟩
  go_wp2
  go_ret2
  exact ⟨rfl, btr HB.out hb⟩
set_option maxHeartbeats 2000000 in
theorem aOn_go (w : World) (p i j : Nat) (hp : p = 2 ∨ p = 3) (hi : i < (ptsP p).length) (hj : j < (ptsP p).length) :
    Calls Try.prog 20 #[.int .i64 (p : Int), .int .i64 (i : Int), .int .i64 (j : Int)] w fun e w' => e = .returned (.tuple #[.bool (dotN p (ptP p i) (ptP p j) == 0), .int .i64 0]) ∧ Below w.heap.size w w' := by
  have HTH := Lib.hid (fun (w' : World) (pk : Nat) (hP : PlaneAt w' pk p) => aon_go w' pk p i j hP hp hi hj)
  have HRD := Lib.hid (aread_go (w.alloc (.cells #[.int .i64 (i : Int), .int .i64 (j : Int)] 3)) p _ 2 2 _ (sl_two w i j) hp)
  rw [in_two hi hj] at HRD
  obtain ⟨dv, hdv⟩ : ∃ z, (dotN p (ptP p i) (ptP p j) == 0) = z := ⟨_, rfl⟩
  rw [hdv] at HTH
  have HDV := Lib.hid hdv
  clear hdv
  go_enter Try.func20, Try.ntmps20
  go_wp2_with fail
  refine HRD.out.mono ?_
  rintro e w' ⟨pk, rfl, hP, hb⟩
  have HP := Lib.hid hP
  have HB := Lib.hid (btr (bal (Below.refl w.heap.size w) (.cells #[.int .i64 (i : Int), .int .i64 (j : Int)] 3)) hb)
  clear hP hb
  go_wp2_with fail
  refine (HTH.out _ pk HP.out).mono ?_
  rintro e w2 ⟨rfl, hb⟩
  go_wp2
  go_ret2
  exact ⟨by rw [HDV.out]; rfl, btr HB.out hb⟩
end Go.Proofs.Ytiapngmallfelaa
