/- Chapter 9: After, its inner loops. -/
import Derived.Test.YtcmakddnjmeklaaAp
import Derived.Test.YtcmakddnjmeklaaAg
import Derived.Test.YtcmakddnjmeklaaAh
import Derived.Test.YtcmakddnjmeklaaHe
namespace Go.Proofs.Ytcmakddnjmeklaa
open Go.RowKit
set_option linter.unusedSimpArgs false
noncomputable def afBody (i : Nat) : Code := ((loopBodies (Try.f38.body.getD .skip))[i]?).getD .skip
def ActW (w : World) (p : Nat) (g : Int) (z : Option Addr) (k q : Nat) : Prop := w.heap[p]? = some (.cells #[.int .i64 g, .slice z k q] 50 (0, 0))
theorem ActW.mono {w w' : World} {p : Nat} {g : Int} {z : Option Addr} {k q : Nat} (h : ActW w p g z k q) (hb : Below w.heap.size w w') : ActW w' p g z k q := persist h hb
theorem ActW.cells {w : World} {p : Nat} {g : Int} {z : Option Addr} {k q : Nat} (h : ActW w p g z k q) : p < w.heap.size ∧ w.cell? ⟨p, 0, none⟩ = some (.int .i64 g) ∧ w.cell? ⟨p, 1, none⟩ = some (.slice z k q) :=
  ⟨lt_of_block h, by rw [cells_at h]; rfl, by rw [cells_at h]; rfl⟩
theorem BoxW.mono {w w' : World} {p : Nat} {a b : Int} {x : Option Addr} {n c : Nat} (h : BoxW w p a b x n c) (hb : Below w.heap.size w w') : BoxW w' p a b x n c := persist h hb
theorem pre_bd {a b : Int} {x : Ac} {v : Nat → Rat} {D Z : Int} (hD : 0 < D ∧ D ≤ 82944) (hZ : 0 ≤ Z ∧ Z ≤ 15676416) (ha : 1 ≤ a ∧ a ≤ 3) (hc : 1 ≤ b * isum x.o ∧ b * isum x.o ≤ 48) (hg : -9 ≤ x.g ∧ x.g ≤ 9) (ho : ∀ y ∈ x.o, 0 ≤ y ∧ y ≤ 3) (hl : x.o.length ≤ 4) {k : Nat} (hk : k ≤ x.o.length) (hv : ∀ i, i < x.o.length → Ov (v i) D Z) :
    ((preQ a b x v k).den : Int) ≤ 10000000 ∧ -1000000000 ≤ (preQ a b x v k).num ∧ (preQ a b x v k).num ≤ 1000000000 := by
  have h1 := ov_pre hD.1 hZ.1 ha (show 0 < b * isum x.o by omega) hg ho hk hv
  have h2 : D * (b * isum x.o) ≤ 82944 * 48 := Int.mul_le_mul hD.2 hc.2 (by omega) (by omega)
  have h3 : 0 < D * (b * isum x.o) := Int.mul_pos hD.1 (show 0 < b * isum x.o by omega)
  have h4 := ov_bd h1 h3
  have h5 : 3 * (k : Int) * Z ≤ 12 * 15676416 := Int.mul_le_mul (by omega) hZ.2 hZ.1 (by omega)
  have h6 : 0 ≤ 3 * (k : Int) * Z := Int.mul_nonneg (by omega) hZ.1
  have h7 : 3 * (3 * (k : Int) * Z) ≤ 3 * 188116992 := by omega
  generalize 3 * (k : Int) * Z = y at *
  generalize D * (b * isum x.o) = e at *
  omega

set_option maxRecDepth 100000 in
set_option maxHeartbeats 4000000 in
theorem af_k (V W : World) (pw px ps n c k q m d : Nat) (a b g : Int) (x z l : Option Addr) (o : List Int) (F : List Fr) (v : Nat → Rat) (D Z : Int) (hw : BoxW V pw a b x n c) (hx : ActW V px g z k q) (ho : Sl V z k q o) (hF : FrSl V l m d F) (hv : ∀ i, i < k → fr F i = toFr (v i)) (hB : Below V.heap.size V W) (hps : V.heap.size ≤ ps) (hs : FrAt W ps (toFr (preQ a b ⟨g, o⟩ v 0)))
    (ha : 1 ≤ a ∧ a ≤ 3) (hb : 1 ≤ b ∧ b ≤ 4) (hg : -9 ≤ g ∧ g ≤ 9) (hk : k ≤ 4) (hkm : k ≤ m) (hor : ∀ y ∈ o, 0 ≤ y ∧ y ≤ 3) (hS : 1 ≤ isum o ∧ isum o ≤ 12) (hD : 0 < D ∧ D ≤ 82944) (hZ : 0 ≤ Z ∧ Z ≤ 15676416) (hO : ∀ i, i < k → Ov (v i) D Z) (R : Act → World → Prop)
    (c0 c1 c2 c4 c5 c6 c7 c9 c10 c13 c14 c15 c16 c17 c18 c19 c20 c21 c22 c23 c24 c25 c26 c27 c28 c29 c30 c31 c32 c33 c34 c35 c36 c37 c38 c39 c40 c41 c42 c43 c44 c45 c46 c47 c51 c52 c53 c54 c55 c56 c57 c58 c59 c60 c61 c62 c63 c64 c65 c66 c67 c68 c69 c70 c71 c72 c73 c74 c75 c76 c77 c78 c79 c80 c81 c82 c83 c84 c85 c86 c87 c88 c89 : Value)
    (hexit : ∀ (u13 u14 u50 u51 u52 u53 u54 u55 u56 u57 u58 u59 u60 u61 u62 u63 u64 u65 u66 u67 u68 u69 u70 u71 u72 u73 u74 u75 u76 u77 u78 u79 u80 u81 : Value) (w' : World), FrAt w' ps (toFr (actQ a b ⟨g, o⟩ v)) → Below V.heap.size V w' → R ⟨List.toArray (c0 :: c1 :: c2 :: .pointer (some ⟨pw, 0, none⟩) :: c4 :: c5 :: c6 :: c7 :: .slice l m d :: c9 :: c10 :: .pointer (some ⟨px, 0, none⟩) :: .pointer (some ⟨ps, 0, none⟩) :: u13 :: u14 :: c15 :: c16 :: c17 :: c18 :: c19 :: c20 :: c21 :: c22 :: c23 :: c24 :: c25 :: c26 :: c27 :: c28 :: c29 :: c30 :: c31 :: c32 :: c33 :: c34 :: c35 :: c36 :: c37 :: c38 :: c39 :: c40 :: c41 :: c42 :: c43 :: c44 :: c45 :: c46 :: c47 :: .slice z k q :: .int .i64 k :: u50 :: u51 :: u52 :: u53 :: u54 :: u55 :: u56 :: u57 :: u58 :: u59 :: u60 :: u61 :: u62 :: u63 :: u64 :: u65 :: u66 :: u67 :: u68 :: u69 :: u70 :: u71 :: u72 :: u73 :: u74 :: u75 :: u76 :: u77 :: u78 :: u79 :: u80 :: u81 :: c82 :: c83 :: c84 :: c85 :: c86 :: c87 :: c88 :: c89 :: []), []⟩ w') :
    Code.wp Try.prog (Code.loop (afBody 2)) (OnExit 4 R) ⟨List.toArray (c0 :: c1 :: c2 :: .pointer (some ⟨pw, 0, none⟩) :: c4 :: c5 :: c6 :: c7 :: .slice l m d :: c9 :: c10 :: .pointer (some ⟨px, 0, none⟩) :: .pointer (some ⟨ps, 0, none⟩) :: c13 :: c14 :: c15 :: c16 :: c17 :: c18 :: c19 :: c20 :: c21 :: c22 :: c23 :: c24 :: c25 :: c26 :: c27 :: c28 :: c29 :: c30 :: c31 :: c32 :: c33 :: c34 :: c35 :: c36 :: c37 :: c38 :: c39 :: c40 :: c41 :: c42 :: c43 :: c44 :: c45 :: c46 :: c47 :: .slice z k q :: .int .i64 k :: .int .i64 0 :: c51 :: c52 :: c53 :: c54 :: c55 :: c56 :: c57 :: c58 :: c59 :: c60 :: c61 :: c62 :: c63 :: c64 :: c65 :: c66 :: c67 :: c68 :: c69 :: c70 :: c71 :: c72 :: c73 :: c74 :: c75 :: c76 :: c77 :: c78 :: c79 :: c80 :: c81 :: c82 :: c83 :: c84 :: c85 :: c86 :: c87 :: c88 :: c89 :: []), []⟩ W := by
  conv => arg 2; arg 1; whnf
  have HOL := Lib.hid ho.len
  have hq := ho.cap
  have hmd := hF.2.cap
  unfold maxLen at hq hmd
  have hbS := mul_le3 (A := 4) (B := 12) (show -4 ≤ b by omega) hb.2 (show -12 ≤ isum o by omega) hS.2 (by omega)
  have hbS0 : 0 < b * isum o := Int.mul_pos (by omega) (by omega)
  have HPB := Lib.hid (fun j (hj : j ≤ k) => pre_bd (a := a) (b := b) (x := ⟨g, o⟩) (v := v) hD hZ ha (show 1 ≤ b * isum o ∧ b * isum o ≤ 48 by omega) hg hor (show o.length ≤ 4 by rw [HOL.out]; exact hk) (show j ≤ o.length by rw [HOL.out]; exact hj) (fun i hi => hO i (by rw [← HOL.out]; exact hi)))
  have HW := Lib.hid hw
  have HX := Lib.hid hx
  have HOR := Lib.hid hor
  have HFV := Lib.hid hv
  have HOV := Lib.hid hO
  have HO := Lib.hid ho
  have HF := Lib.hid hF
  obtain ⟨cc, hcc⟩ : ∃ cc, b * isum o = cc := ⟨_, rfl⟩
  have HCC := Lib.hid hcc
  rw [hcc] at hbS hbS0
  have k1 : IntKind.i64.wrap (b * isum o) = cc := by rw [hcc]; exact wrap_i64j _ (by omega) (by omega)
  have k1' : wrap64 (b * isum o) = cc := (IntWalk.i64_left _).symm.trans k1
  have HSM0 := Lib.hid hs
  have HB0 := Lib.hid hB
  clear hw hx hor hv hO ho hF hcc hs hB
  go_loopw [50] (fun t wr => ∃ j : Nat, j ≤ k ∧ t = .int .i64 j ∧ Hid (FrAt wr ps (toFr (preQ a b ⟨g, o⟩ v j))) ∧ Hid (Below V.heap.size V wr)) (fun t _ => k - (intOf t).toNat)
  case atStart => exact ⟨0, by omega, rfl, HSM0, HB0⟩
  case round =>
    clear HSM0 HB0
    obtain ⟨j, hj, rfl, HSM, HB⟩ := hrel
    by_cases hlj : j < k
    · obtain ⟨b1, o1, rfl, hb1, hc1⟩ := (HO.out.mono HB.out).at (by omega)
      have e1 := hc1 j hlj
      obtain ⟨b2, o2, rfl, hb2v, hc2⟩ := HF.out.at (by omega)
      obtain ⟨p1, p2⟩ := hc2 j (by omega)
      have hb2 := Nat.lt_of_lt_of_le hb2v HB.out.size
      rw [← (bcell HB.out).1 _ _ hb2v] at p1 p2
      rw [HFV.out j hlj] at p1 p2
      have hy := HOR.out _ (nth_mem (l := o) (k := j) (by rw [HOL.out]; exact hlj))
      have hvb := ov_bd (HOV.out j hlj) hD.1
      have hvd := frd_pos (v j)
      have HE := Lib.hid (preQ_succ (a := a) (b := b) (x := ⟨g, o⟩) (v := v) (k := j) (show 0 < b * isum o by rw [HCC.out]; exact hbS0))
      have HE2 : preQ a b ⟨g, o⟩ v j + ((a * nth o j * (v j).num : Int) : Rat) / ((b * isum o * ((v j).den : Int) : Int) : Rat) = preQ a b ⟨g, o⟩ v (j + 1) := HE.out
      rw [HCC.out] at HE2
      have hp1 := mul_le3 (A := 3) (B := 3) (show -3 ≤ a by omega) ha.2 (show -3 ≤ nth o j by omega) hy.2 (by omega)
      obtain ⟨y, hyy⟩ : ∃ y, nth o j = y := ⟨_, rfl⟩
      rw [hyy] at e1 hp1 HE2
      obtain ⟨u1, hu1⟩ : ∃ u, a * y = u := ⟨_, rfl⟩
      rw [hu1] at hp1 HE2
      have hp2 := mul_le3 (A := 9) (B := 15676416) (show -9 ≤ u1 by omega) (by omega) (show -15676416 ≤ (v j).num by omega) (by omega) (by omega)
      have hc3 : 0 < cc * ((v j).den : Int) := Int.mul_pos hbS0 (by omega)
      have hc4 : cc * ((v j).den : Int) ≤ 48 * 82944 := Int.mul_le_mul (by omega) (by omega) (by omega) (by omega)
      obtain ⟨vn, hvn⟩ : ∃ vn, (v j).num = vn := ⟨_, rfl⟩
      obtain ⟨vd, hvdd⟩ : ∃ vd, ((v j).den : Int) = vd := ⟨_, rfl⟩
      have HFV2 := Lib.hid (show (toFr (v j)).n = vn ∧ (toFr (v j)).d = vd from ⟨hvn, hvdd⟩)
      rw [HFV2.out.1] at p1
      rw [HFV2.out.2] at p2
      rw [hvn] at hp2 HE2
      rw [hvdd] at hc3 hc4 HE2
      obtain ⟨u2, hu2⟩ : ∃ u, u1 * vn = u := ⟨_, rfl⟩
      obtain ⟨u3, hu3⟩ : ∃ u, cc * vd = u := ⟨_, rfl⟩
      rw [hu2] at hp2 HE2
      rw [hu3] at hc3 hc4 HE2
      have k2 : IntKind.i64.wrap (a * y) = u1 := by rw [hu1]; exact wrap_i64j _ (by omega) (by omega)
      have k2' : wrap64 (a * y) = u1 := (IntWalk.i64_left _).symm.trans k2
      have k3 : IntKind.i64.wrap (u1 * vn) = u2 := by rw [hu2]; exact wrap_i64j _ (by omega) (by omega)
      have k3' : wrap64 (u1 * vn) = u2 := (IntWalk.i64_left _).symm.trans k3
      have k4 : IntKind.i64.wrap (cc * vd) = u3 := by rw [hu3]; exact wrap_i64j _ (by omega) (by omega)
      have k4' : wrap64 (cc * vd) = u3 := (IntWalk.i64_left _).symm.trans k4
      have hts := frq_small (a := u2) hc3
      obtain ⟨tq, htq⟩ : ∃ tq : Rat, (u2 : Rat) / (u3 : Rat) = tq := ⟨_, rfl⟩
      have HFC := Lib.hid (fun w' => (show Calls Try.prog 67 #[.int .i64 u2, .int .i64 u3] w' fun e w'' => e = .returned (.agg #[.int .i64 (toFr tq).n, .int .i64 (toFr tq).d]) ∧ Below w'.heap.size w' w'' from by have h9 := frac_go w' u2 u3 (by omega) hc3 (by omega); rw [htq] at h9; exact h9))
      rw [htq] at HE2 hts
      have HPL := Lib.hid (fun w' => pplus_go w' (preQ a b ⟨g, o⟩ v j) tq (preQ a b ⟨g, o⟩ v (j + 1)) HE2 (HPB.out j hj) (by omega))
      generalize (toFr tq).n = tn at *
      generalize (toFr tq).d = td at *
      obtain ⟨nn, hnn⟩ : ∃ nn, (toFr (preQ a b ⟨g, o⟩ v (j + 1))).n = nn := ⟨_, rfl⟩
      obtain ⟨nd, hnd⟩ : ∃ nd, (toFr (preQ a b ⟨g, o⟩ v (j + 1))).d = nd := ⟨_, rfl⟩
      have HNX := Lib.hid (show toFr (preQ a b ⟨g, o⟩ v (j + 1)) = ⟨nn, nd⟩ by rw [← hnn, ← hnd])
      rw [HNX.out] at HPL
      obtain ⟨on, hon⟩ : ∃ on, (toFr (preQ a b ⟨g, o⟩ v j)).n = on := ⟨_, rfl⟩
      obtain ⟨od, hod⟩ : ∃ od, (toFr (preQ a b ⟨g, o⟩ v j)).d = od := ⟨_, rfl⟩
      have HSMO := Lib.hid (show FrAt wr ps ⟨on, od⟩ by rw [← hon, ← hod]; exact HSM.out)
      rw [hon, hod] at HPL
      have hjm : j < m := by omega
      have hjd : j < d := by omega
      have hjq : j < q := by omega
      have hwz := HB.out.size
      have P1 := Lib.hid p1
      have P2 := Lib.hid p2
      have HSX := Lib.hid (fun (w' : World) (hb : Below wr.heap.size wr w') =>
        (show w'.cell? ⟨pw, 0, none⟩ = some (.int .i64 a) ∧ w'.cell? ⟨pw, 1, none⟩ = some (.int .i64 b) ∧ w'.cell? ⟨px, 0, none⟩ = some (.int .i64 g) ∧ w'.cell? ⟨px, 1, none⟩ = some (.slice (some ⟨b1, o1, none⟩) k q) ∧ w'.cell? ⟨b2, o2 + j * 2, none⟩ = some (.int .i64 vn) ∧ w'.cell? ⟨b2, o2 + j * 2 + 1, none⟩ = some (.int .i64 vd) ∧ w'.cell? ⟨ps, 0, none⟩ = some (.int .i64 on) ∧ w'.cell? ⟨ps, 1, none⟩ = some (.int .i64 od) from
          ⟨(BoxW.cells (HW.out.mono (btr HB.out hb))).2.1, (BoxW.cells (HW.out.mono (btr HB.out hb))).2.2.1, (ActW.cells (HX.out.mono (btr HB.out hb))).2.1, (ActW.cells (HX.out.mono (btr HB.out hb))).2.2, ((bcell hb).1 _ _ hb2).trans P1.out, ((bcell hb).1 _ _ hb2).trans P2.out, (HSMO.out.mono hb).2.1, (HSMO.out.mono hb).2.2.1⟩))
      have hC : Below wr.heap.size wr wr.drew := (Below.refl _ _).drew
      obtain ⟨r7, r8, r9, r10, r11⟩ := HSMO.out.mono hC
      have hz1 : pw < wr.heap.size := (BoxW.cells (HW.out.mono HB.out)).1
      have hz2 : px < wr.heap.size := (ActW.cells (HX.out.mono HB.out)).1
      have hz3 := HSM.out.1
      clear hc1 hc2 p1 p2 hu1 hu2 hu3 hyy hvn hvdd htq HE2 hnn hnd hon hod
      go_wp2
      refine wp_region_F (S := (fun w' => w'.cell? ⟨pw, 0, none⟩ = some (.int .i64 a) ∧ w'.cell? ⟨pw, 1, none⟩ = some (.int .i64 b) ∧ w'.cell? ⟨px, 0, none⟩ = some (.int .i64 g) ∧ w'.cell? ⟨px, 1, none⟩ = some (.slice (some ⟨b1, o1, none⟩) k q) ∧ w'.cell? ⟨b2, o2 + j * 2, none⟩ = some (.int .i64 vn) ∧ w'.cell? ⟨b2, o2 + j * 2 + 1, none⟩ = some (.int .i64 vd) ∧ w'.cell? ⟨ps, 0, none⟩ = some (.int .i64 on) ∧ w'.cell? ⟨ps, 1, none⟩ = some (.int .i64 od))) 26 (by kernel_rfl) (HSX.out _ hC) (fun hHeld => ?_)
      refine wpAnyF_take (i := 0) (oi := _) (v := ?_) rfl (by kernel_rfl) (by kernel_rfl) (by kernel_rfl) (by kernel_rfl) (fun _ _ _ h => h) (Or.inl ⟨by rfl, ?_⟩) (by assumption) ?_
      rotate_left
      · intro w hSw
        (try dsimp only at hSw)
        go_simp
        all_goals with_reducible rfl
      (try simp only [Act.put, List.setIfInBounds_toArray, List.set_cons_zero, List.set_cons_succ])
      refine wpAnyF_take (i := 1) (oi := _) (v := ?_) rfl (by kernel_rfl) (by kernel_rfl) (by kernel_rfl) (by kernel_rfl) (fun _ _ _ h => h) (Or.inl ⟨by rfl, ?_⟩) (by assumption) ?_
      rotate_left
      · intro w hSw
        (try dsimp only at hSw)
        go_simp
        all_goals with_reducible rfl
      (try simp only [Act.put, List.setIfInBounds_toArray, List.set_cons_zero, List.set_cons_succ])
      refine wpAnyF_take (i := 2) (oi := _) (v := ?_) rfl (by kernel_rfl) (by kernel_rfl) (by kernel_rfl) (by kernel_rfl) (fun _ _ _ h => h) (Or.inl ⟨by rfl, ?_⟩) (by assumption) ?_
      rotate_left
      · intro w hSw
        (try dsimp only at hSw)
        go_simp
        all_goals with_reducible rfl
      (try simp only [Act.put, List.setIfInBounds_toArray, List.set_cons_zero, List.set_cons_succ])
      refine wpAnyF_take (i := 3) (oi := _) (v := ?_) rfl (by kernel_rfl) (by kernel_rfl) (by kernel_rfl) (by kernel_rfl) (fun _ _ _ h => h) (Or.inl ⟨by rfl, ?_⟩) (by assumption) ?_
      rotate_left
      · intro w hSw
        (try dsimp only at hSw)
        go_simp
        all_goals with_reducible rfl
      (try simp only [Act.put, List.setIfInBounds_toArray, List.set_cons_zero, List.set_cons_succ])
      refine wpAnyF_take (i := 4) (oi := _) (v := ?_) rfl (by kernel_rfl) (by kernel_rfl) (by kernel_rfl) (by kernel_rfl) (fun _ _ _ h => h) (Or.inl ⟨by rfl, ?_⟩) (by assumption) ?_
      rotate_left
      · intro w hSw
        (try dsimp only at hSw)
        go_simp
        all_goals with_reducible rfl
      (try simp only [Act.put, List.setIfInBounds_toArray, List.set_cons_zero, List.set_cons_succ])
      refine wpAnyF_take (i := 5) (oi := _) (v := ?_) rfl (by kernel_rfl) (by kernel_rfl) (by kernel_rfl) (by kernel_rfl) (fun _ _ _ h => h) (Or.inl ⟨by rfl, ?_⟩) (by assumption) ?_
      rotate_left
      · intro w hSw
        (try dsimp only at hSw)
        go_simp
        all_goals with_reducible rfl
      (try simp only [Act.put, List.setIfInBounds_toArray, List.set_cons_zero, List.set_cons_succ])
      refine wpAnyF_take (i := 6) (oi := _) (v := ?_) rfl (by kernel_rfl) (by kernel_rfl) (by kernel_rfl) (by kernel_rfl) (fun _ _ _ h => h) (Or.inl ⟨by rfl, ?_⟩) (by assumption) ?_
      rotate_left
      · intro w hSw
        (try dsimp only at hSw)
        go_simp
        all_goals with_reducible rfl
      (try simp only [Act.put, List.setIfInBounds_toArray, List.set_cons_zero, List.set_cons_succ])
      refine wpAnyF_take (i := 7) (oi := _) (v := ?_) rfl (by kernel_rfl) (by kernel_rfl) (by kernel_rfl) (by kernel_rfl) (fun _ _ _ h => h) (Or.inl ⟨by rfl, ?_⟩) (by assumption) ?_
      rotate_left
      · intro w hSw
        (try dsimp only at hSw)
        go_simp
        all_goals with_reducible rfl
      (try simp only [Act.put, List.setIfInBounds_toArray, List.set_cons_zero, List.set_cons_succ])
      refine wpAnyF_take (i := 8) (oi := _) (v := ?_) rfl (by kernel_rfl) (by kernel_rfl) (by kernel_rfl) (by kernel_rfl) (fun _ _ _ h => h) (Or.inl ⟨by rfl, ?_⟩) (by assumption) ?_
      rotate_left
      · intro w hSw
        (try dsimp only at hSw)
        go_simp
        all_goals with_reducible rfl
      (try simp only [Act.put, List.setIfInBounds_toArray, List.set_cons_zero, List.set_cons_succ])
      refine wpAnyF_take (i := 9) (oi := _) (v := ?_) rfl (by kernel_rfl) (by kernel_rfl) (by kernel_rfl) (by kernel_rfl) (fun _ _ _ h => h) (Or.inl ⟨by rfl, ?_⟩) (by assumption) ?_
      rotate_left
      · intro w hSw
        (try dsimp only at hSw)
        go_simp
        all_goals with_reducible rfl
      (try simp only [Act.put, List.setIfInBounds_toArray, List.set_cons_zero, List.set_cons_succ])
      refine wpAnyF_take (i := 10) (oi := _) (v := ?_) rfl (by kernel_rfl) (by kernel_rfl) (by kernel_rfl) (by kernel_rfl) (fun _ _ _ h => h) (Or.inl ⟨by rfl, ?_⟩) (by assumption) ?_
      rotate_left
      · intro w hSw
        (try dsimp only at hSw)
        go_simp
        all_goals with_reducible rfl
      (try simp only [Act.put, List.setIfInBounds_toArray, List.set_cons_zero, List.set_cons_succ])
      refine wpAnyF_take (i := 11) (oi := _) (v := ?_) rfl (by kernel_rfl) (by kernel_rfl) (by kernel_rfl) (by kernel_rfl) (fun _ _ _ h => h) (Or.inl ⟨by rfl, ?_⟩) (by assumption) ?_
      rotate_left
      · intro w hSw
        (try dsimp only at hSw)
        go_simp
        all_goals with_reducible rfl
      (try simp only [Act.put, List.setIfInBounds_toArray, List.set_cons_zero, List.set_cons_succ])
      refine wpAnyF_take (i := 12) (oi := _) (v := ?_) rfl (by kernel_rfl) (by kernel_rfl) (by kernel_rfl) (by kernel_rfl) (fun _ _ _ h => h) (Or.inl ⟨by rfl, ?_⟩) (by assumption) ?_
      rotate_left
      · intro w hSw
        (try dsimp only at hSw)
        go_simp
        all_goals with_reducible rfl
      (try simp only [Act.put, List.setIfInBounds_toArray, List.set_cons_zero, List.set_cons_succ])
      refine wpAnyF_take (i := 13) (oi := _) (v := ?_) rfl (by kernel_rfl) (by kernel_rfl) (by kernel_rfl) (by kernel_rfl) (fun _ _ _ h => h) (Or.inl ⟨by rfl, ?_⟩) (by assumption) ?_
      rotate_left
      · intro w hSw
        (try dsimp only at hSw)
        go_simp
        all_goals with_reducible rfl
      (try simp only [Act.put, List.setIfInBounds_toArray, List.set_cons_zero, List.set_cons_succ])
      refine wpAnyF_take (i := 14) (oi := _) (v := ?_) rfl (by kernel_rfl) (by kernel_rfl) (by kernel_rfl) (by kernel_rfl) (fun _ _ _ h => h) (Or.inl ⟨by rfl, ?_⟩) (by assumption) ?_
      rotate_left
      · intro w hSw
        (try dsimp only at hSw)
        go_simp
        all_goals with_reducible rfl
      (try simp only [Act.put, List.setIfInBounds_toArray, List.set_cons_zero, List.set_cons_succ])
      refine wpAnyF_take (i := 15) (oi := _) (v := ?_) rfl (by kernel_rfl) (by kernel_rfl) (by kernel_rfl) (by kernel_rfl) (fun _ _ _ h => h) (Or.inl ⟨by rfl, ?_⟩) (by assumption) ?_
      rotate_left
      · intro w hSw
        (try dsimp only at hSw)
        go_simp
        all_goals with_reducible rfl
      (try simp only [Act.put, List.setIfInBounds_toArray, List.set_cons_zero, List.set_cons_succ])
      refine wpAnyF_take (i := 18) (oi := _) (v := ?_) rfl (by kernel_rfl) (by kernel_rfl) (by kernel_rfl) (by kernel_rfl) (fun _ _ _ h => h) (Or.inl ⟨by rfl, ?_⟩) (by assumption) ?_
      rotate_left
      · intro w hSw
        (try dsimp only at hSw)
        go_simp
        all_goals with_reducible rfl
      (try simp only [Act.put, List.setIfInBounds_toArray, List.set_cons_zero, List.set_cons_succ])
      refine wpAnyF_take (i := 19) (oi := _) (v := ?_) rfl (by kernel_rfl) (by kernel_rfl) (by kernel_rfl) (by kernel_rfl) (fun _ _ _ h => h) (Or.inl ⟨by rfl, ?_⟩) (by assumption) ?_
      rotate_left
      · intro w hSw
        (try dsimp only at hSw)
        go_simp
        all_goals with_reducible rfl
      (try simp only [Act.put, List.setIfInBounds_toArray, List.set_cons_zero, List.set_cons_succ])
      refine wpAnyF_take (i := 20) (oi := _) (v := ?_) rfl (by kernel_rfl) (by kernel_rfl) (by kernel_rfl) (by kernel_rfl) (fun _ _ _ h => h) (Or.inl ⟨by rfl, ?_⟩) (by assumption) ?_
      rotate_left
      · intro w hSw
        (try dsimp only at hSw)
        go_simp
        all_goals with_reducible rfl
      (try simp only [Act.put, List.setIfInBounds_toArray, List.set_cons_zero, List.set_cons_succ])
      refine wpAnyF_take (i := 21) (oi := _) (v := ?_) rfl (by kernel_rfl) (by kernel_rfl) (by kernel_rfl) (by kernel_rfl) (fun _ _ _ h => h) (Or.inl ⟨by rfl, ?_⟩) (by assumption) ?_
      rotate_left
      · intro w hSw
        (try dsimp only at hSw)
        go_simp
        all_goals with_reducible rfl
      (try simp only [Act.put, List.setIfInBounds_toArray, List.set_cons_zero, List.set_cons_succ])
      refine wpAnyF_take (i := 22) (oi := _) (v := ?_) rfl (by kernel_rfl) (by kernel_rfl) (by kernel_rfl) (by kernel_rfl) (fun _ _ _ h => h) (Or.inl ⟨by rfl, ?_⟩) (by assumption) ?_
      rotate_left
      · intro w hSw
        (try dsimp only at hSw)
        go_simp
        all_goals with_reducible rfl
      (try simp only [Act.put, List.setIfInBounds_toArray, List.set_cons_zero, List.set_cons_succ])
      refine wpAnyF_one (i := 16) (o := _) (by kernel_rfl) rfl (fun K hK => ?_)
      go_simp
      refine (sum_go _ g (some ⟨b1, o1, none⟩) k q o (HO.out.mono (btr HB.out hC)) (by omega) HOR.out).mono ?_
      rintro e w' ⟨rfl, hb⟩
      replace hC := btr hC hb
      clear hb
      refine hK.out _ _ (HSX.out _ hC) (fun hHeld => ?_)
      clear hK K
      (try simp only [Act.put, List.setIfInBounds_toArray, List.set_cons_zero, List.set_cons_succ])
      refine wpAnyF_take (i := 17) (oi := _) (v := ?_) rfl (by kernel_rfl) (by kernel_rfl) (by kernel_rfl) (by kernel_rfl) (fun _ _ _ h => h) (Or.inl ⟨by rfl, ?_⟩) (by assumption) ?_
      rotate_left
      · intro w hSw
        (try dsimp only at hSw)
        go_simp
        all_goals with_reducible rfl
      (try simp only [Act.put, List.setIfInBounds_toArray, List.set_cons_zero, List.set_cons_succ])
      refine wpAnyF_take (i := 23) (oi := _) (v := ?_) rfl (by kernel_rfl) (by kernel_rfl) (by kernel_rfl) (by kernel_rfl) (fun _ _ _ h => h) (Or.inl ⟨by rfl, ?_⟩) (by assumption) ?_
      rotate_left
      · intro w hSw
        (try dsimp only at hSw)
        go_simp
        all_goals with_reducible rfl
      (try simp only [Act.put, List.setIfInBounds_toArray, List.set_cons_zero, List.set_cons_succ])
      refine wpAnyF_one (i := 24) (o := _) (by kernel_rfl) rfl (fun K hK => ?_)
      go_simp
      refine (HFC.out _).mono ?_
      rintro e w' ⟨rfl, hb⟩
      replace hC := btr hC hb
      clear hb
      refine hK.out _ _ (HSX.out _ hC) (fun hHeld => ?_)
      clear hK K
      (try simp only [Act.put, List.setIfInBounds_toArray, List.set_cons_zero, List.set_cons_succ])
      refine wpAnyF_one (i := 25) (o := _) (by kernel_rfl) rfl (fun K hK => ?_)
      go_simp
      refine (HPL.out _).mono ?_
      rintro e w' ⟨rfl, hb⟩
      replace hC := btr hC hb
      clear hb
      refine hK.out _ _ (HSX.out _ hC) (fun hHeld => ?_)
      clear hK K
      (try simp only [Act.put, List.setIfInBounds_toArray, List.set_cons_zero, List.set_cons_succ])
      refine wpAnyF_last (o := _) (by kernel_rfl) rfl (by kernel_rfl) (fun K hK => ?_)
      obtain ⟨u1z, u2z, u3z, u4z, u5z⟩ := HSMO.out.mono hC
      go_simp
      refine hK.out _ _ ?_
      clear hK K
      (try simp only [Act.put, List.setIfInBounds_toArray, List.set_cons_zero, List.set_cons_succ])
      have HSM2 := Lib.hid (show FrAt _ ps (toFr (preQ a b ⟨g, o⟩ v (j + 1))) by rw [HNX.out]; exact (HSMO.out.mono hC).store ⟨nn, nd⟩)
      have HB2 := Lib.hid (((btr HB.out hC).setCell (p := ⟨ps, 0, none⟩) hps (.int .i64 nn)).setCell (p := ⟨ps, 1, none⟩) hps (.int .i64 nd))
      clear hC
      go_wp2
      go_roundw
      case rel => go_light; exact ⟨j + 1, by omega, by go_num, HSM2, HB2⟩
      case measure => simp [intOf]; omega
    · obtain rfl : j = k := by omega
      have HSM2 := Lib.hid (show FrAt wr ps (toFr (actQ a b ⟨g, o⟩ v)) by
        have h := HSM.out
        rw [show preQ a b ⟨g, o⟩ v j = actQ a b ⟨g, o⟩ v by rw [← HOL.out]; rfl] at h
        exact h)
      go_wp2
      exact ⟨rfl, hexit _ _ _ _ _ _ _ _ _ _ _ _ _ _ _ _ _ _ _ _ _ _ _ _ _ _ _ _ _ _ _ _ _ _ _ HSM2.out HB.out⟩
end Go.Proofs.Ytcmakddnjmeklaa
