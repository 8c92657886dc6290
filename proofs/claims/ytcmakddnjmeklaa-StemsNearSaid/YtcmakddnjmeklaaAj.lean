/- Chapter 9: After. -/
import Derived.Test.YtcmakddnjmeklaaAi
namespace Go.Proofs.Ytcmakddnjmeklaa
open Go.RowKit
set_option linter.unusedSimpArgs false
theorem take_fr {F : List Fr} {s : Nat} (h : s < F.length) : F.take (s + 1) = F.take s ++ [fr F s] := by
  rw [List.take_succ_eq_append_getElem h]
  congr 2
  unfold fr
  rw [List.getD_eq_getElem?_getD, List.getElem?_eq_getElem h]; rfl
theorem aft_zero {W : Wd} {p : List Int} : aftF W p 0 = List.replicate W.acts.length ⟨0, 1⟩ := by
  unfold aftF
  rw [List.eq_replicate_iff]
  refine ⟨by simp, fun x hx => ?_⟩
  obtain ⟨s, _, rfl⟩ := List.mem_map.1 hx
  show toFr (0 : Rat) = _
  have := toFr_int 0
  simpa using this

set_option maxRecDepth 100000 in
set_option maxHeartbeats 4000000 in
theorem af_s (V : World) (pw n c m d dd t : Nat) (W : Wd) (x y l : Option Addr) (p : List Int) (hw : BoxW V pw W.a W.b x n c) (hA : A2Sl V x n c W.acts) (hp : Sl V y m dd p) (hF : FrSl V l m d (aftF W p t)) (hok : isPlanB W p = true) (ht : t ≤ 2) (R : Act → World → Prop)
    (c0 c2 c4 c5 c6 c7 c10 c11 c12 c13 c14 c15 c16 c17 c18 c19 c20 c21 c22 c23 c24 c25 c26 c27 c28 c29 c30 c31 c32 c33 c34 c35 c38 c39 c40 c41 c42 c43 c44 c45 c46 c47 c48 c49 c50 c51 c52 c53 c54 c55 c56 c57 c58 c59 c60 c61 c62 c63 c64 c65 c66 c67 c68 c69 c70 c71 c72 c73 c74 c75 c76 c77 c78 c79 c80 c81 c82 c83 c84 c85 c86 c87 c88 c89 : Value)
    (hexit : ∀ (va : Option Addr) (vc : Nat), ∀ (u10 u11 u12 u13 u14 u37 u38 u39 u40 u41 u42 u43 u44 u45 u46 u47 u48 u49 u50 u51 u52 u53 u54 u55 u56 u57 u58 u59 u60 u61 u62 u63 u64 u65 u66 u67 u68 u69 u70 u71 u72 u73 u74 u75 u76 u77 u78 u79 u80 u81 u82 u83 u84 u85 u86 : Value) (w' : World), w'.ownsRow V.heap.size 53 2 (.slice va m vc) m (cellsF (aftF W p (t + 1))) → Below V.heap.size V w' → R ⟨List.toArray (c0 :: .slice y m dd :: c2 :: .pointer (some ⟨pw, 0, none⟩) :: c4 :: c5 :: c6 :: c7 :: .slice l m d :: .slice va m vc :: u10 :: u11 :: u12 :: u13 :: u14 :: c15 :: c16 :: c17 :: c18 :: c19 :: c20 :: c21 :: c22 :: c23 :: c24 :: c25 :: c26 :: c27 :: c28 :: c29 :: c30 :: c31 :: c32 :: c33 :: c34 :: c35 :: .int .i64 m :: u37 :: u38 :: u39 :: u40 :: u41 :: u42 :: u43 :: u44 :: u45 :: u46 :: u47 :: u48 :: u49 :: u50 :: u51 :: u52 :: u53 :: u54 :: u55 :: u56 :: u57 :: u58 :: u59 :: u60 :: u61 :: u62 :: u63 :: u64 :: u65 :: u66 :: u67 :: u68 :: u69 :: u70 :: u71 :: u72 :: u73 :: u74 :: u75 :: u76 :: u77 :: u78 :: u79 :: u80 :: u81 :: u82 :: u83 :: u84 :: u85 :: u86 :: c87 :: c88 :: c89 :: []), []⟩ w') :
    Code.wp Try.prog (Code.loop (afBody 1)) (OnExit 2 R) ⟨List.toArray (c0 :: .slice y m dd :: c2 :: .pointer (some ⟨pw, 0, none⟩) :: c4 :: c5 :: c6 :: c7 :: .slice l m d :: .slice none 0 0 :: c10 :: c11 :: c12 :: c13 :: c14 :: c15 :: c16 :: c17 :: c18 :: c19 :: c20 :: c21 :: c22 :: c23 :: c24 :: c25 :: c26 :: c27 :: c28 :: c29 :: c30 :: c31 :: c32 :: c33 :: c34 :: c35 :: .int .i64 m :: .int .i64 0 :: c38 :: c39 :: c40 :: c41 :: c42 :: c43 :: c44 :: c45 :: c46 :: c47 :: c48 :: c49 :: c50 :: c51 :: c52 :: c53 :: c54 :: c55 :: c56 :: c57 :: c58 :: c59 :: c60 :: c61 :: c62 :: c63 :: c64 :: c65 :: c66 :: c67 :: c68 :: c69 :: c70 :: c71 :: c72 :: c73 :: c74 :: c75 :: c76 :: c77 :: c78 :: c79 :: c80 :: c81 :: c82 :: c83 :: c84 :: c85 :: c86 :: c87 :: c88 :: c89 :: []), []⟩ V := by
  conv => arg 2; arg 1; whnf
  obtain ⟨D, Z, hD1, hD2, hZ1, hZ2, hOv⟩ := aft_in hok ht
  have HPA := Lib.hid (fun s (hs : s < W.acts.length) => pa_of hok hs)
  obtain ⟨_, hpl, hpa, ⟨hn1, hn4, ha1, hab, hb4⟩, _⟩ := plan_parts hok
  have hnA := hA.1
  have hmp := hp.len
  obtain rfl : m = n := by omega
  have HNA := Lib.hid hnA
  have HPP := Lib.hid (show ∀ s, s < m → 0 ≤ nth p s ∧ nth p s < (acl W.acts s).length from fun s hs => hpa s (by omega))
  have hm4 : m ≤ 4 := by omega
  have HOV := Lib.hid hOv
  have HA := Lib.hid hA
  have HP := Lib.hid hp
  have HW := Lib.hid hw
  have HF := Lib.hid hF
  clear hA hp hw hF hok hpl hpa hnA hmp hOv hn1 hn4
  go_loopw [9, 37] (fun v t2 wr => ∃ s : Nat, s ≤ m ∧ t2 = .int .i64 s ∧ Hid (wr.ownsRow V.heap.size 53 2 v s (cellsF ((aftF W p (t + 1)).take s))) ∧ Hid (Below V.heap.size V wr)) (fun _ t _ => m - (intOf t).toNat)
  case atStart => exact ⟨0, by omega, rfl, Lib.hid (World.ownsRow_nil _ _ _ _), Lib.hid (Below.refl _ _)⟩
  case round =>
    obtain ⟨s, hs, rfl, HO, HB⟩ := hrel
    by_cases hl : s < m
    · have hpa := HPP.out s hl
      obtain ⟨zz, hh0, hh1, hh2⟩ := BoxW.cells (persist HW.out HB.out)
      obtain ⟨va, vc, rfl⟩ := own_form HO.out
      go_wp2_with fail
      refine (act_goW V _ HB.out W.a W.b x y m c m dd s W.acts p HA.out HP.out hl hl hpa.1 hpa.2).mono ?_
      rintro e w2 ⟨z, k, q, rfl, hZ, hb2⟩
      have hq := HPA.out s (by rw [HNA.out]; exact hl)
      obtain ⟨hg, hol, hor, hS, hbS⟩ := hq
      have HNX := Lib.hid (show aftQ W p (t + 1) s = actQ W.a W.b (pact W.acts p s) (aftQ W p t) from rfl)
      obtain ⟨X, hX⟩ : ∃ X, pact W.acts p s = X := ⟨_, rfl⟩
      rw [hX] at HNX
      rw [hX] at hZ hg hol hor hS hbS ⊢
      obtain ⟨gg, o⟩ := X
      have hk : k = m := by have := hZ.len; have := HNA.out; simp at *; omega
      subst hk
      have HOR := Lib.hid hor
      have HOL := Lib.hid hol
      have HZ := Lib.hid hZ
      have HBA := Lib.hid (btr HB.out (bal hb2 (.cells #[.int .i64 gg, .slice z k q] 50)))
      have HBX := Lib.hid (new_at w2 (.cells #[.int .i64 gg, .slice z k q] 50))
      have HB2 := Lib.hid hb2
      clear hor hol hZ hb2 hX zz hh0 hh1 hh2 hpa
      go_wp2
      refine wp_onExit (k := 4) (af_k (w2.alloc (.cells #[.int .i64 gg, .slice z k q] 50)) _ pw w2.heap.size (w2.heap.size + 1) k c k q k d W.a W.b gg x z l o (aftF W p t) (aftQ W p t) D Z (persist HW.out HBA.out) HBX.out (HZ.out.mono HBA.out) (HF.out.mono HBA.out) (fun i hi => aftF_at (by have := HNA.out; omega)) (bal (Below.refl _ _) (.cells #[.int .i64 gg, .int .i64 1] 53)) (by simp) (by rw [preQ_zero, toFr_int]; exact FrAt.new (by have := new_at (w2.alloc (.cells #[.int .i64 gg, .slice z k q] 50)) (.cells #[.int .i64 gg, .int .i64 1] 53); simpa using this)) ⟨ha1, by omega⟩ ⟨by omega, hb4⟩ hg hm4 (Nat.le_refl _) HOR.out hS ⟨hD1, hD2⟩ ⟨hZ1, hZ2⟩ (fun i hi => HOV.out i (by have := HNA.out; omega)) _ _ _ _ _ _ _ _ _ _ _ _ _ _ _ _ _ _ _ _ _ _ _ _ _ _ _ _ _ _ _ _ _ _ _ _ _ _ _ _ _ _ _ _ _ _ _ _ _ _ _ _ _ _ _ _ _ _ _ _ _ _ _ _ _ _ _ _ _ _ _ _ _ _ _ _ _ _ _ _ _ _ _ _ ?_)
      intro v13 v14 v50 v51 v52 v53 v54 v55 v56 v57 v58 v59 v60 v61 v62 v63 v64 v65 v66 v67 v68 v69 v70 v71 v72 v73 v74 v75 v76 v77 v78 v79 v80 v81 w3 hs3 hb3
      have HNX2 := Lib.hid (show toFr (actQ W.a W.b ⟨gg, o⟩ (aftQ W p t)) = fr (aftF W p (t + 1)) s by rw [aftF_at (by rw [HNA.out]; exact hl), HNX.out])
      rw [HNX2.out] at hs3
      obtain ⟨f, hf⟩ : ∃ f, fr (aftF W p (t + 1)) s = f := ⟨_, rfl⟩
      rw [hf] at hs3
      have HF1 := Lib.hid hf
      clear hf
      have HB3 := Lib.hid (btr (bal HB2.out (.cells #[.int .i64 gg, .slice z k q] 50)) hb3)
      have hown := own_mono HO.out HB3.out
      obtain ⟨u1, u2, u3, u4, u5⟩ := hs3
      have hz3 := HB3.out.size
      have hzV := HB.out.size
      clear hb3
      go_wp2_with (at_builtin; refine wpList_app1 rfl _ _ 27 rfl Try.underlying27 infoFr rfl (by decide) V.heap.size (.slice va s vc) s _ rfl (hown.alloc _) w3.heap.size #[.int .i64 f.n, .int .i64 f.d] rfl (new_at _ _) rfl (by simp [Value.oneCell']) (by omega) (by omega) (by simp; omega) ?_; intro v' wn hown' hgrow; obtain ⟨wa, wc, rfl⟩ := own_form hown')
      have HO2 := Lib.hid (show wn.ownsRow V.heap.size 53 2 (.slice wa (s + 1) wc) (s + 1) (cellsF ((aftF W p (t + 1)).take (s + 1))) by
        rw [take_fr (by rw [aftF_len, HNA.out]; exact hl), cellsF_snoc, HF1.out]; exact hown')
      have HBN := Lib.hid ((bal (btr HB.out HB3.out) (.cells #[.int .i64 f.n, .int .i64 f.d] 53)).grown hgrow (by simp; omega) (fun i hi => (hown.lt i hi).1))
      clear hown hown' hgrow u1 u2 u3 u4 u5
      go_wp2
      go_roundw
      case rel => go_light; exact ⟨s + 1, by omega, by go_num, HO2, HBN⟩
      case measure => simp [intOf]; omega
    · obtain rfl : s = m := by omega
      have hO := HO.out
      rw [List.take_of_length_le (by rw [aftF_len, HNA.out]; exact Nat.le_refl _)] at hO
      obtain ⟨va, vc, rfl⟩ := own_form hO
      have HO2 := Lib.hid hO
      clear hO
      go_wp2
      exact ⟨rfl, hexit _ _ _ _ _ _ _ _ _ _ _ _ _ _ _ _ _ _ _ _ _ _ _ _ _ _ _ _ _ _ _ _ _ _ _ _ _ _ _ _ _ _ _ _ _ _ _ _ _ _ _ _ _ _ _ _ _ _ HO2.out HB.out⟩

set_option maxRecDepth 100000 in
set_option maxHeartbeats 4000000 in
theorem after_go (w : World) (x y : Option Addr) (n c m dd t : Nat) (W : Wd) (p : List Int) (hA : A2Sl w x n c W.acts) (hp : Sl w y m dd p) (hok : isPlanB W p = true) (ht : t ≤ 3) :
    Calls Try.prog 38 #[wv W.a W.b x n c, .slice y m dd, .int .i64 t] w (GivesFS (aftF W p t) n w) := by
  have hb0 := bal (Below.refl w.heap.size w) (.cells #[.int .i64 W.a, .int .i64 W.b, .slice x n c] 33)
  have HZ := Lib.hid (show BoxW (w.alloc (.cells #[.int .i64 W.a, .int .i64 W.b, .slice x n c] 33)) w.heap.size W.a W.b x n c from new_at w _)
  have HA := Lib.hid (hA.mono hb0)
  have HP := Lib.hid (hp.mono hb0)
  have HB0 := Lib.hid hb0
  have HOK := Lib.hid hok
  have HNA := Lib.hid hA.1
  obtain ⟨_, hpl, _, ⟨hn1, hn4, _⟩, _⟩ := plan_parts hok
  have hnA := hA.1
  have hmp := hp.len
  obtain rfl : m = n := by omega
  have hn1 : 1 ≤ m := by omega
  have hn4 : m ≤ 4 := by omega
  clear hA hp hb0 hok hpl hnA hmp
  go_enter Try.func38, Try.ntmps38
  go_wp2_with fail
  generalize w.alloc (.cells #[.int .i64 W.a, .int .i64 W.b, .slice x m c] 33) = V0 at *
  refine (isplan_go _ x y m c m dd W p HA.out HP.out).mono ?_
  rintro e w1 ⟨rfl, hb⟩
  rw [HOK.out]
  have HB1 := Lib.hid hb
  have HT3 := ht
  clear hb
  go_wp2_with fail
  have HBX := Lib.hid (btr HB1.out (bal (Below.refl w1.heap.size w1) (.cells #[.int .i64 0, .int .i64 1] 53)))
  refine (repeat_go _ (some ⟨w1.heap.size, 0, none⟩) 1 m ⟨0, 1⟩ ⟨rfl, Nat.le_refl _, by unfold maxLen; omega, .inr (.inr ⟨_, 0, rfl, by simp, fun i hi => by
    obtain rfl : i = 0 := (by omega)
    have h := new_at w1 (.cells #[.int .i64 0, .int .i64 1] 53)
    exact ⟨by rw [cells_at h]; rfl, by rw [cells_at h]; rfl⟩⟩)⟩ hn1 hn4).mono ?_
  rintro e w2 ⟨la, lc, rfl, hF, hb⟩
  have HB2 := Lib.hid (btr HBX.out hb)
  have HF0 := Lib.hid (show FrSl w2 la m lc (aftF W p 0) by rw [aft_zero, HNA.out]; exact hF)
  clear hF hb
  go_wp2
  go_loopw [8, 33] (fun v t2 wr => ∃ (s : Nat) (la : Option Addr) (lc : Nat), s ≤ t ∧ t2 = .int .i64 s ∧ v = .slice la m lc ∧ Hid (FrSl wr la m lc (aftF W p s)) ∧ Hid (Below V0.heap.size V0 wr)) (fun _ u _ => t - (intOf u).toNat)
  case atStart => exact ⟨0, la, lc, by omega, rfl, rfl, HF0, HB2⟩
  case round =>
    clear HB2 HF0
    obtain ⟨s, la, lc, hs, rfl, rfl, HF, HB⟩ := hrel
    by_cases hl : s < t
    · go_wp2
      refine wp_onExit (k := 2) (af_s wr w.heap.size m c m lc dd s W x y la p (HZ.out.mono HB.out) (HA.out.mono HB.out) (HP.out.mono HB.out) HF.out HOK.out (by omega) _ _ _ _ _ _ _ _ _ _ _ _ _ _ _ _ _ _ _ _ _ _ _ _ _ _ _ _ _ _ _ _ _ _ _ _ _ _ _ _ _ _ _ _ _ _ _ _ _ _ _ _ _ _ _ _ _ _ _ _ _ _ _ _ _ _ _ _ _ _ _ _ _ _ _ _ _ _ _ _ _ _ _ _ _ ?_)
      intro va vc v10 v11 v12 v13 v14 v37 v38 v39 v40 v41 v42 v43 v44 v45 v46 v47 v48 v49 v50 v51 v52 v53 v54 v55 v56 v57 v58 v59 v60 v61 v62 v63 v64 v65 v66 v67 v68 v69 v70 v71 v72 v73 v74 v75 v76 v77 v78 v79 v80 v81 v82 v83 v84 v85 v86 w3 hown hb3
      have HF3 := Lib.hid (own_fr hown (by rw [aftF_len, HNA.out]))
      have HB3 := Lib.hid (btr HB.out hb3)
      clear hown hb3
      go_wp2
      go_roundw
      case rel => go_light; exact ⟨s + 1, va, vc, by omega, by go_num, rfl, HF3, HB3⟩
      case measure => simp [intOf]; omega
    · obtain rfl : s = t := by omega
      go_wp2
      go_ret2
      exact ⟨_, _, rfl, HF.out, btr HB0.out HB.out⟩
end Go.Proofs.Ytcmakddnjmeklaa
