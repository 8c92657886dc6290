/- Chapter 9: rest, isState. -/
import Derived.Test.YtcmakddnjmeklaaVe
namespace Go.Proofs.Ytcmakddnjmeklaa
open Go.RowKit
set_option linter.unusedSimpArgs false

theorem Sl.far {w : World} {b n cap : Nat} {l : List Int} (h : Sl w (some ⟨b, 0, none⟩) n cap l) {a : Addr} {v : Value} (hne : b ≠ a.block) : Sl (w.setCell a v) (some ⟨b, 0, none⟩) n cap l := by
  obtain ⟨h1, h2, h3, ⟨h4, _⟩ | h4 | ⟨b', off, e, hlt, hc⟩⟩ := h
  · cases h4
  · exact ⟨h1, h2, h3, .inr (.inl h4)⟩
  · injection e with e
    injection e with e1 e2 _
    subst e1 e2
    exact ⟨h1, h2, h3, .inr (.inr ⟨b, 0, rfl, by rw [World.size_setCell]; exact hlt, fun i hi => (World.cell?_setCell_other _ _ _ _ (by intro e; subst e; exact hne rfl)).trans (hc i hi)⟩)⟩
def GivesRs (W : Wd) (p : List Int) (f n : Nat) (w : World) (e : Ending) (w' : World) : Prop :=
  if agOk W p f = true then ∃ a c, e = .returned (.tuple #[.agg #[.slice a n c, .int .i64 (restD W p f)], .bool true]) ∧ Sl w' a n c (restN W p f) ∧ Below w.heap.size w w'
  else e = .returned (.tuple #[.agg #[.slice none 0 0, .int .i64 0], .bool false]) ∧ Below w.heap.size w w'
theorem zeros_nTo {W : Wd} {p : List Int} {L : List Nat} {n : Nat} (h : W.acts.length = n) : (nTo W p L 0).map (Value.int .i64) = List.replicate n (.int .i64 0) := by
  show (List.replicate W.acts.length 0).map _ = _
  rw [h, List.map_replicate]
set_option maxRecDepth 100000 in
set_option maxHeartbeats 8000000 in
theorem rest_go (w : World) (x y : Option Addr) (n c m d f : Nat) (W : Wd) (p : List Int) (hA : A2Sl w x n c W.acts) (hp : Sl w y m d p) (hok : isPlanB W p = true) (hf : f < n) :
    Calls Try.prog 69 #[wv W.a W.b x n c, .slice y m d, .int .i64 f] w (GivesRs W p f n w) := by
  obtain ⟨i0, hi, hz0, hz1, hz2⟩ := info_parts infoInt
  have hb0 := bal (bal (Below.refl w.heap.size w) (.cells #[.int .i64 W.a, .int .i64 W.b, .slice x n c] 33)) (.cells #[.slice none 0 0, .int .i64 0] 80)
  have HZ := Lib.hid (show BoxW ((w.alloc (.cells #[.int .i64 W.a, .int .i64 W.b, .slice x n c] 33)).alloc (.cells #[.slice none 0 0, .int .i64 0] 80)) w.heap.size W.a W.b x n c from persist (new_at w _) (bal (Below.refl _ _) _))
  have HRB := Lib.hid (show ((w.alloc (.cells #[.int .i64 W.a, .int .i64 W.b, .slice x n c] 33)).alloc (.cells #[.slice none 0 0, .int .i64 0] 80)).heap[w.heap.size + 1]? = some (.cells #[.slice none 0 0, .int .i64 0] 80 (0, 0)) by
    have h := new_at (w.alloc (.cells #[.int .i64 W.a, .int .i64 W.b, .slice x n c] 33)) (.cells #[.slice none 0 0, .int .i64 0] 80)
    simpa using h)
  have HA := Lib.hid (hA.mono hb0)
  have HP := Lib.hid (hp.mono hb0)
  have HB0 := Lib.hid hb0
  have HOK := Lib.hid hok
  have HNA := Lib.hid hA.1
  obtain ⟨_, hpl, _, ⟨hn1, hn4, _⟩, _⟩ := plan_parts hok
  have hnA := hA.1
  have hmp := hp.len
  obtain rfl : m = n := by omega
  have hn1 : 1 ≤ m := by omega
  have hn4 : m ≤ 4 := by omega
  have hX16 := (agS_lt (W := W) (p := p) (f := f) (n := m) W.acts.length (by omega))
  have hX16 : agSet W p f < 16 := by have := pow_16 hn4; unfold agSet; omega
  obtain ⟨X, hX⟩ : ∃ X, agSet W p f = X := ⟨_, rfl⟩
  have HX := Lib.hid hX
  rw [hX] at hX16
  clear hA hp hb0 hok hpl hnA hmp hX
  go_enter Try.func69, Try.ntmps69
  go_wp2_with fail
  generalize (w.alloc (.cells #[.int .i64 W.a, .int .i64 W.b, .slice x m c] 33)).alloc (.cells #[.slice none 0 0, .int .i64 0] 80) = V0 at *
  refine (again_go _ x y m c m d f W p HA.out HP.out HOK.out hf).mono ?_
  rintro e w1 ⟨he, hb⟩
  have HB1 := Lib.hid hb
  clear hb
  cases hk : agOk W p f with
  | false =>
    have HAK := Lib.hid hk
    rw [hk] at he
    obtain rfl : e = .returned (.tuple #[.int .i64 0, .bool false]) := he
    have hr := persist HRB.out HB1.out
    have r0 : w1.cell? ⟨w.heap.size + 1, 0, none⟩ = some (.slice none 0 0) := by rw [cells_at hr]; rfl
    have r1 : w1.cell? ⟨w.heap.size + 1, 1, none⟩ = some (.int .i64 0) := by rw [cells_at hr]; rfl
    have r2 := free_at hr 0
    have r3 := free_at hr 1
    have r4 := lt_of_block hr
    have HR2 := Lib.hid (set_at (set_at hr 0 (.slice none 0 0)) 1 (.int .i64 0))
    have hz := HB0.out.size
    have HBE := Lib.hid ((((btr HB0.out HB1.out).setCell (p := ⟨w.heap.size + 1, 0, none⟩) (by show w.heap.size ≤ w.heap.size + 1; omega) (.slice none 0 0))).setCell (p := ⟨w.heap.size + 1, 1, none⟩) (by show w.heap.size ≤ w.heap.size + 1; omega) (.int .i64 0))
    have s0 : ((w1.setCell ⟨w.heap.size + 1, 0, none⟩ (.slice none 0 0)).setCell ⟨w.heap.size + 1, 1, none⟩ (.int .i64 0)).cell? ⟨w.heap.size + 1, 0, none⟩ = some (.slice none 0 0) := by rw [cells_at HR2.out]; rfl
    have s1 : ((w1.setCell ⟨w.heap.size + 1, 0, none⟩ (.slice none 0 0)).setCell ⟨w.heap.size + 1, 1, none⟩ (.int .i64 0)).cell? ⟨w.heap.size + 1, 1, none⟩ = some (.int .i64 0) := by rw [cells_at HR2.out]; rfl
    clear hk hr
    go_wp2
    exact bodyPost_ret (v := .tuple #[.agg #[.slice none 0 0, .int .i64 0], .bool false]) (by simp [results, Try.results69, go_sem, *]) rfl (by unfold GivesRs; rw [if_neg (by rw [HAK.out]; simp)]; exact ⟨rfl, HBE.out⟩)
  | true =>
    have HAK := Lib.hid hk
    rw [hk, HX.out] at he
    obtain rfl : e = .returned (.tuple #[.int .i64 (X : Int), .bool true]) := he
    clear hk
    go_wp2
    go_loopw [10, 36] (fun v t2 wr => ∃ s : Nat, s ≤ m ∧ t2 = .int .i64 s ∧ Hid (wr.ownsRow w1.heap.size 3 1 v (stL X s).length ((natI (stL X s)).map (Value.int .i64))) ∧ Hid (Below w1.heap.size w1 wr)) (fun _ t2 _ => m - (intOf t2).toNat)
    case atStart => exact ⟨0, by omega, rfl, Lib.hid (World.ownsRow_nil _ _ _ _), Lib.hid (Below.refl _ _)⟩
    case round =>
      obtain ⟨s, hs, rfl, HO, HC⟩ := hrel
      by_cases hls : s < m
      · have hb9 := bits_bt X s (by omega)
        have hb9' := bt1 X s
        have hs64 : s < 64 := by omega
        have HSS := Lib.hid (stL_succ X s)
        have hsl := stL_len (X := X) (n := s)
        cases htb : X.testBit s with
        | false =>
          have HN := Lib.hid (show stL X (s + 1) = stL X s by rw [HSS.out, htb]; simp)
          rw [htb] at hb9'
          go_wp2
          go_roundw
          case rel => go_light; exact ⟨s + 1, by omega, by go_num, by rw [HN.out]; exact HO, HC⟩
          case measure => simp [intOf]; omega
        | true =>
          have HN := Lib.hid (show stL X (s + 1) = stL X s ++ [s] by rw [HSS.out, htb]; simp)
          rw [htb] at hb9'
          have hown := HO.out
          obtain ⟨ln, hln⟩ : ∃ z, (stL X s).length = z := ⟨_, rfl⟩
          have HLN := Lib.hid hln
          rw [hln] at hown hsl
          obtain ⟨va, vc, rfl⟩ := own_form hown
          have hwz := HC.out.size
          clear hln
          go_wp2_with (at_builtin; refine wpList_app1 rfl _ _ 26 rfl Try.underlying26 infoInt rfl (by decide) w1.heap.size (.slice va ln vc) ln _ rfl (hown.alloc _) wr.heap.size #[.int .i64 (s : Int)] rfl (new_at _ _) rfl (by simp [Value.oneCell']) (by omega) (by omega) (by simp; omega) ?_; intro v' wn hown' hgrow; obtain ⟨wa, wc, rfl⟩ := own_form hown')
          have HO2 := Lib.hid (show wn.ownsRow w1.heap.size 3 1 (.slice wa (ln + 1) wc) (stL X (s + 1)).length ((natI (stL X (s + 1))).map (Value.int .i64)) by
            rw [HN.out, natI_app, List.map_append, List.length_append, HLN.out]; exact hown')
          have HBN := Lib.hid ((bal HC.out (.cells #[.int .i64 (s : Int)] 3)).grown hgrow (by simp; omega) (fun i hi => (hown.lt i hi).1))
          clear hown hown' hgrow
          go_wp2
          go_roundw
          case rel => go_light; exact ⟨s + 1, by omega, by go_num, HO2, HBN⟩
          case measure => simp [intOf]; omega
      · obtain rfl : s = m := by omega
        have HLD := Lib.hid (show stL X s = stL (agSet W p f) W.acts.length by rw [HX.out, HNA.out])
        have hsl := stL_len (X := X) (n := s)
        have HLL := Lib.hid (fun t (ht : t ∈ stL X s) => stL_lt ht)
        obtain ⟨L, hL⟩ : ∃ L, stL X s = L := ⟨_, rfl⟩
        have hown := HO.out
        rw [hL] at HLD hsl HLL hown
        obtain ⟨K, hK⟩ : ∃ K, L.length = K := ⟨_, rfl⟩
        rw [hK] at hown hsl
        have HKK := Lib.hid hK
        obtain ⟨la, lc, rfl⟩ := own_form hown
        have hK4 : K ≤ 4 := by omega
        have HSL := Lib.hid (own_sl hown)
        generalize wr = V at *
        have HV := Lib.hid (btr HB1.out HC.out)
        clear hown hL hK
        go_wp2
        refine wp_onExit (k := 2) (rt_flow V w.heap.size s c s d K lc W x y la p L (persist HZ.out HV.out) (HA.out.mono HV.out) (HP.out.mono HV.out) HOK.out HSL.out HLL.out hK4 _ _ _ _ _ _ _ _ _ _ _ _ _ _ _ _ _ _ _ _ _ _ _ _ _ _ _ _ _ _ _ _ _ _ _ _ _ _ _ _ _ _ _ _ _ _ _ _ _ _ _ _ _ _ _ _ _ _ _ _ _ _ _ _ _ _ _ _ _ _ _ _ _ _ _ _ _ _ _ _ _ _ _ _ _ _ _ _ _ _ _ _ _ _ _ _ _ _ _ _ _ _ _ _ _ _ _ _ _ _ _ _ _ _ _ _ _ _ _ _ _ _ _ _ _ _ _ _ _ _ _ _ _ ?_)
        intro mv v14 v15 v16 v18 v51 v52 v53 v54 v55 v56 v57 v58 v59 v60 v61 v62 v63 v64 v65 v66 v67 v68 v69 v70 v71 v72 v73 v74 v75 v76 v77 v78 v79 w3 hM3 hB3
        have HM3 := Lib.hid hM3
        have HB3 := Lib.hid hB3
        obtain ⟨ma, mc, hmv, _⟩ := hM3.sl
        rw [fBare_len, HKK.out] at hmv
        subst hmv
        have hzV := hB3.size
        clear hM3 hB3
        go_wp2_with (refine wpList_make_full _ rfl _ _ 26 rfl w3.heap.size 3 i0 (.int .i64 0) 1 Try.underlying26 hi hz0 hz1 .i64 .i64 s s s rfl rfl rfl rfl (by rw [hz2]; omega) (by unfold maxLen; omega) (Nat.le_refl _) ?_; intro w4 hown4 hgrow4)
        rw [show (Value.int .i64 0).cells = #[Value.int .i64 0] from rfl, toList_madeCells_one, Nat.mul_one] at hown4
        have HO4 := Lib.hid (show w4.ownsRow w3.heap.size 3 1 (.slice (some ⟨w3.heap.size, 0, none⟩) s s) s ((nTo W p L 0).map (Value.int .i64)) by rw [zeros_nTo HNA.out]; exact hown4)
        have HB4 := Lib.hid ((Below.refl w3.heap.size w3).grown hgrow4 (Nat.le_refl _) (fun _ h => by cases h))
        have hz34 := HB4.out.size
        have HPO := Lib.hid (new_at w4 (.cells #[.slice (some ⟨w3.heap.size, 0, none⟩) s s, .int .i64 0] 80))
        have HBA := Lib.hid (bal HB4.out (.cells #[.slice (some ⟨w3.heap.size, 0, none⟩) s s, .int .i64 0] 80))
        have HO5 := Lib.hid (own_mono HO4.out (bal (Below.refl _ _) (.cells #[.slice (some ⟨w3.heap.size, 0, none⟩) s s, .int .i64 0] 80)))
        obtain ⟨V1, hV1⟩ : ∃ V1, w4.alloc (.cells #[.slice (some ⟨w3.heap.size, 0, none⟩) s s, .int .i64 0] 80) = V1 := ⟨_, rfl⟩
        have hV1s : V1.heap.size = w4.heap.size + 1 := by rw [← hV1]; simp
        rw [hV1] at HPO HBA HO5 ⊢
        clear hown4 hgrow4 hV1
        refine wp_onExit (k := 6) (rt_diag V V1 w.heap.size s c s d K lc mc w3.heap.size W x y la ma p L (persist HZ.out HV.out) (HA.out.mono HV.out) (HP.out.mono HV.out) HOK.out HSL.out HLL.out hK4 (HM3.out.mono HBA.out) (btr HB3.out HBA.out) (by omega) _ _ _ _ _ _ _ _ _ _ _ _ _ _ _ _ _ _ _ _ _ _ _ _ _ _ _ _ _ _ _ _ _ _ _ _ _ _ _ _ _ _ _ _ _ _ _ _ _ _ _ _ _ _ _ _ _ _ _ _ _ _ _ _ _ _ _ _ _ _ _ _ _ _ _ _ _ _ _ _ _ _ _ _ _ _ _ _ _ _ _ _ _ _ _ _ _ _ _ _ _ _ _ _ _ _ _ _ _ _ _ _ _ _ _ _ _ _ _ _ _ _ _ _ _ _ _ _ _ _ _ _ _ ?_)
        intro v20 v21 v86 v87 v88 v89 v90 v91 v92 v93 v94 v95 v96 v97 v98 v99 v100 v101 v102 v103 v104 v105 w5 hM5 hB5 hkeep hz5
        have HM5 := Lib.hid hM5
        have HB5 := Lib.hid hB5
        have HX5 := Lib.hid ((hkeep w4.heap.size (by omega) (by omega)).trans HPO.out)
        have HN5 := Lib.hid (own_keepB HO5.out (fun b hb => hkeep b (by have e : w3.heap.size = b := Option.some.inj hb; omega) (by have := (HO5.out.lt b hb).2; omega)))
        clear hM5 hB5 hkeep hz5
        go_wp2
        refine wp_onExit (k := 8) (rt_nums V w5 w.heap.size w4.heap.size w3.heap.size s s c s d K lc mc w3.heap.size W x y la ma p L (persist HZ.out HV.out) (HA.out.mono HV.out) (HP.out.mono HV.out) HOK.out HSL.out HLL.out hK4 HM5.out HB5.out hzV (by omega) HX5.out HN5.out _ _ _ _ _ _ _ _ _ _ _ _ _ _ _ _ _ _ _ _ _ _ _ _ _ _ _ _ _ _ _ _ _ _ _ _ _ _ _ _ _ _ _ _ _ _ _ _ _ _ _ _ _ _ _ _ _ _ _ _ _ _ _ _ _ _ _ _ _ _ _ _ _ _ _ _ _ _ _ _ _ _ _ _ _ _ _ _ _ _ _ _ _ _ _ _ _ _ _ _ _ _ _ _ _ _ _ _ _ _ _ _ _ _ _ _ _ _ _ _ _ _ _ _ _ _ _ _ _ _ _ _ ?_)
        intro v22 v23 v108 v109 v110 v111 v112 v113 v114 v115 v116 v117 v118 v119 v120 v121 v122 v123 v124 v125 v126 v127 v128 v129 v130 v131 v132 v133 v134 v135 v136 v137 w6 hbx hnum hB6
        have HBV := Lib.hid (btr HV.out hB6)
        have hr := persist HRB.out HBV.out
        have HNM := Lib.hid (own_sl hnum)
        have HRD := Lib.hid (show dTo W p L K = restD W p f by unfold restD; rw [← HLD.out, HKK.out])
        have HRN := Lib.hid (show nTo W p L K = restN W p f by unfold restN; rw [← HLD.out, HKK.out])
        rw [HRD.out] at hbx
        rw [HRN.out] at HNM
        obtain ⟨DV, hDV⟩ : ∃ z, restD W p f = z := ⟨_, rfl⟩
        have HDV := Lib.hid hDV
        rw [hDV] at hbx
        have p0 : w6.cell? ⟨w4.heap.size, 0, none⟩ = some (.slice (some ⟨w3.heap.size, 0, none⟩) s s) := by rw [cells_at hbx]; rfl
        have p1 : w6.cell? ⟨w4.heap.size, 1, none⟩ = some (.int .i64 DV) := by rw [cells_at hbx]; rfl
        have p2 := lt_of_block hbx
        have r0 : w6.cell? ⟨w.heap.size + 1, 0, none⟩ = some (.slice none 0 0) := by rw [cells_at hr]; rfl
        have r1 : w6.cell? ⟨w.heap.size + 1, 1, none⟩ = some (.int .i64 0) := by rw [cells_at hr]; rfl
        have r2 := free_at hr 0
        have r3 := free_at hr 1
        have r4 := lt_of_block hr
        have HR2 := Lib.hid (set_at (set_at hr 0 (.slice (some ⟨w3.heap.size, 0, none⟩) s s)) 1 (.int .i64 DV))
        have HBE := Lib.hid ((((btr HB0.out HBV.out).setCell (p := ⟨w.heap.size + 1, 0, none⟩) (by show w.heap.size ≤ w.heap.size + 1; omega) (.slice (some ⟨w3.heap.size, 0, none⟩) s s))).setCell (p := ⟨w.heap.size + 1, 1, none⟩) (by show w.heap.size ≤ w.heap.size + 1; omega) (.int .i64 DV))
        have s0 : ((w6.setCell ⟨w.heap.size + 1, 0, none⟩ (.slice (some ⟨w3.heap.size, 0, none⟩) s s)).setCell ⟨w.heap.size + 1, 1, none⟩ (.int .i64 DV)).cell? ⟨w.heap.size + 1, 0, none⟩ = some (.slice (some ⟨w3.heap.size, 0, none⟩) s s) := by rw [cells_at HR2.out]; rfl
        have s1 : ((w6.setCell ⟨w.heap.size + 1, 0, none⟩ (.slice (some ⟨w3.heap.size, 0, none⟩) s s)).setCell ⟨w.heap.size + 1, 1, none⟩ (.int .i64 DV)).cell? ⟨w.heap.size + 1, 1, none⟩ = some (.int .i64 DV) := by rw [cells_at HR2.out]; rfl
        have hrl : w.heap.size + 1 < V0.heap.size := lt_of_block HRB.out
        have hneq : w3.heap.size ≠ w.heap.size + 1 := by have := HV.out.size; omega
        have HSE := Lib.hid ((HNM.out.far (a := ⟨w.heap.size + 1, 0, none⟩) (v := .slice (some ⟨w3.heap.size, 0, none⟩) s s) hneq).far (a := ⟨w.heap.size + 1, 1, none⟩) (v := .int .i64 DV) hneq)
        clear hDV hr hbx hnum hB6
        go_wp2
        exact bodyPost_ret (v := .tuple #[.agg #[.slice (some ⟨w3.heap.size, 0, none⟩) s s, .int .i64 DV], .bool true]) (by simp [results, Try.results69, go_sem, *]) rfl (by unfold GivesRs; rw [if_pos HAK.out, HDV.out]; exact ⟨_, _, rfl, HSE.out, HBE.out⟩)
end Go.Proofs.Ytcmakddnjmeklaa
