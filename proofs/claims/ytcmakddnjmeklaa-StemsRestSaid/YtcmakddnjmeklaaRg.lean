/- Chapter 9, the reference: solve. -/
import Derived.Test.YtcmakddnjmeklaaRf
namespace Go.Proofs.Ytcmakddnjmeklaa
open Go.RowKit

theorem colSet_take {M : List (List Int)} {j i : Nat} {r : List Int} (hi : i < M.length) : (colSet M j r).take (i + 1) = (colSet M j r).take i ++ [(rw_ M i).set j (nth r i)] := by
  rw [take_row (by rw [colSet_len]; exact hi), colSet_at hi]
set_option maxRecDepth 100000 in
set_option maxHeartbeats 4000000 in
theorem rsolve_go (w : World) (x y : Option Addr) (n c d : Nat) (M : List (List Int)) (r : List Int) (hM : RwSl w x n c M) (hS : Sq n M) (hr : Sl w y n d r) (hrb : ∀ i, i < n → -500 ≤ nth r i ∧ nth r i ≤ 500) (h4 : n ≤ 4)
    (hfr : ∀ (w : World) (a : Int), -4000000000000000000 ≤ a ∧ a ≤ 4000000000000000000 → Calls Try.prog 80 #[.int .i64 a, .int .i64 (detL n M)] w fun e w' => e = .returned (fv (toFr ((a : Rat) / ((detL n M : Int) : Rat)))) ∧ Below w.heap.size w w') :
    Calls Try.prog 63 #[.slice x n c, .slice y n d] w (GivesFr w (fracsL (colDs n M r) (detL n M))) := by
  have HML := Lib.hid hS.1
  have HLEN := Lib.hid (fun k (hk : k < n) => (hS.2 k hk).1)
  have HSQ := Lib.hid hS
  have HSC := Lib.hid (fun j => colSet_sq (s := j) hS hrb)
  have HRB := Lib.hid hrb
  have HFR := Lib.hid hfr
  have HM := Lib.hid hM
  have HR := Lib.hid hr
  have HDB := Lib.hid (fun j => detL_bound n _ (colSet_sq (s := j) hS hrb))
  have HDN : 1 ≤ dB n ∧ dB n ≤ 2000000000000 := by
    have : n = 0 ∨ n = 1 ∨ n = 2 ∨ n = 3 ∨ n = 4 := by omega
    rcases this with rfl | rfl | rfl | rfl | rfl <;> decide
  have hcap := hM.2.cap
  have hcap2 := hr.cap
  unfold maxLen at hcap hcap2
  clear hM hS hr hrb hfr
  go_enter Try.func63, Try.ntmps63
  go_wp2
  go_loopw [5, 13] (fun v t wr => ∃ j : Nat, j ≤ n ∧ t = .int .i64 j ∧ Hid (wr.ownsRow w.heap.size 53 2 v j (cellsF (fracsL ((colDs n M r).take j) (detL n M)))) ∧ Hid (Below w.heap.size w wr)) (fun _ t _ => n - (intOf t).toNat)
  case atStart => exact ⟨0, by omega, rfl, Lib.hid (World.ownsRow_nil _ _ _ _), Lib.hid (Below.refl _ _)⟩
  case round =>
    obtain ⟨j, hj, rfl, HO, HB⟩ := hrel
    by_cases hl : j < n
    · have hzW := HB.out.size
      go_wp2
      generalize wr = W1 at *
      go_loopw [7, 18] (fun v t wr => ∃ i : Nat, i ≤ n ∧ t = .int .i64 i ∧ Hid (RwOwn wr W1.heap.size wr.heap.size v ((colSet M j r).take i)) ∧ Hid (Below W1.heap.size W1 wr)) (fun _ t _ => n - (intOf t).toNat)
      case atStart => exact ⟨0, by omega, rfl, Lib.hid (by rw [List.take_zero]; exact RwOwn.nil _ _), Lib.hid (Below.refl _ _)⟩
      case round =>
        obtain ⟨i, hi, rfl, HQ, HC⟩ := hrel
        by_cases hli : i < n
        · obtain ⟨b, off, rfl, hb, hc⟩ := (HM.out.mono (btr HB.out HC.out)).at (by omega)
          obtain ⟨z, m, q, eo, hSz⟩ := hc i hli
          have hm : m = n := by rw [← hSz.len]; exact HLEN.out i hli
          subst hm
          have HSZ := Lib.hid hSz
          obtain ⟨b2, off2, rfl, hb2, hc2⟩ := (HR.out.mono (btr HB.out HC.out)).at (by omega)
          have er := hc2 i hli
          obtain ⟨va, vc, rfl, _⟩ := HQ.out.sl
          obtain ⟨E, D, hT⟩ := HQ.out
          have HTT := Lib.hid hT
          have hown := hT.1.1
          have hdl : ((colSet M j r).take i).length = i := by rw [List.length_take, colSet_len, HML.out]; omega
          rw [hdl] at hown
          have HDL := Lib.hid hdl
          have HHIT := Lib.hid (colSet_take (M := M) (j := j) (i := i) (r := r) (by rw [HML.out]; exact hli))
          have hwz := HC.out.size
          have hb0 : Below wr.heap.size wr (wr.alloc (.cells #[] 3)) := bal (Below.refl _ _) _
          have HB0 := Lib.hid hb0
          obtain ⟨ri, hri⟩ : ∃ ri, nth r i = ri := ⟨_, rfl⟩
          rw [hri] at er HHIT
          clear hT hSz hc hc2 hdl hb0 hri
          rw [HDL.out]
          have hs0 : (0 : Int) ≤ (j : Int) := by omega
          have hsl : (j : Int) < (m : Int) := by omega
          have hid2 : (i : Int) < (m : Int) := by omega
          have HLR := Lib.hid (show ((rw_ M i).set j ri).length = m by rw [List.length_set]; exact HLEN.out i hli)
          go_wp2_with (at_builtin; first
            | (refine wpList_app rfl _ _ 26 rfl Try.underlying26 wr.heap.size (.slice (some ⟨wr.heap.size, 0, none⟩) 0 0) 0 [] rfl (own_empty wr (Nat.le_refl _)) _ m q _ rfl (HSZ.out.mono HB0.out) (by omega) HB0.out.size ?_; intro v1 w1' h1 g1; obtain ⟨a1, c1, rfl⟩ := own_form h1; rw [Nat.zero_add] at h1; have hB1 := HB0.out.grown g1 HB0.out.size (fun i hi => (Nat.le_of_eq (by simpa [Value.ownBlock] using hi))); obtain ⟨g, rfl, _⟩ := own_cells h1 (by omega); obtain ⟨q1, q2, q3, q4, q5, q6, cur, q7⟩ := own_at h1 (by omega); have e1 := q3 j hl; have e2 := q4 j; have e3 : w1'.cell? ⟨b2, off2 + i, none⟩ = some (.int .i64 ri) := ((bcell hB1).1 _ _ hb2).trans er; have HB5 := Lib.hid (hB1.setCell (p := ⟨g, j, none⟩) q1 (.int .i64 ri)); have hz5 := HB5.out.size)
            | (refine wpList_app1 rfl _ _ 90 rfl Try.underlying90 infoSl rfl (by decide) W1.heap.size (.slice va i vc) i _ rfl ((own_mono hown HB5.out).alloc _) w1'.heap.size #[.slice (some ⟨g, 0, none⟩) m c1] rfl (by rw [show w1'.heap.size = (w1'.setCell ⟨g, j, none⟩ (.int .i64 ri)).heap.size from by simp]; exact new_at _ _) rfl (by simp [Value.oneCell']) (by omega) (by omega) (by simp at hz5; simp; omega) ?_; intro v' wn hown' hgrow))
          have hOS := (h1.stored j (.int .i64 ri)).1
          rw [← List.map_set, List.nil_append] at hOS
          have HOS := Lib.hid hOS
          clear hOS hB1 q1 q2 q3 q4 q7 e1 e2 e3 h1 g1
          generalize w1'.setCell ⟨g, j, none⟩ (.int .i64 ri) = w5 at *
          have hN := RwTr.snoc (o := .cells #[.slice (some ⟨g, 0, none⟩) m c1] 26) HTT.out hwz HB5.out (by rw [HLR.out]; exact HOS.out) (by rw [HDL.out]; exact hown') (by rw [HDL.out]; exact hgrow)
          rw [← HHIT.out] at hN
          have HNN2 := Lib.hid hN
          have HBN := Lib.hid ((bal (btr HC.out HB5.out) (.cells #[.slice (some ⟨g, 0, none⟩) m c1] 26)).grown hgrow (by simp; omega) (fun j hj => (hown.lt j hj).1))
          clear hN hown' hgrow hown
          go_wp2
          go_roundw
          case rel => go_light; exact ⟨i + 1, by omega, by go_num, HNN2, HBN⟩
          case measure => simp [intOf]; omega
        · obtain rfl : i = n := by omega
          have hQ := HQ.out
          rw [List.take_of_length_le (by rw [colSet_len, HML.out]; omega)] at hQ
          obtain ⟨a3, c3, rfl, hsl⟩ := hQ.sl
          rw [colSet_len, HML.out] at hsl
          have HSL := Lib.hid hsl
          clear hQ hsl
          rw [colSet_len, HML.out]
          have hdb := HDB.out j
          go_wp2_with fail
          refine (rdet_go i _ _ _ _ HSL.out (HSC.out j) h4).mono ?_
          rintro e w2 ⟨rfl, hb⟩
          have HB2 := Lib.hid (btr HC.out hb)
          clear hb
          go_wp2_with fail
          refine (rdet_go i _ _ _ _ (HM.out.mono (btr HB.out HB2.out)) HSQ.out h4).mono ?_
          rintro e w3 ⟨rfl, hb⟩
          have HB3 := Lib.hid (btr HB2.out hb)
          clear hb
          go_wp2_with fail
          refine (HFR.out _ _ (by omega)).mono ?_
          rintro e w4 ⟨rfl, hb⟩
          have HB4 := Lib.hid (btr HB3.out hb)
          have hz4 := HB4.out.size
          clear hb
          have hd := colDs_at (M := M) (r := r) hl
          have HF := Lib.hid (show fracsL ((colDs i M r).take (j + 1)) (detL i M) = fracsL ((colDs i M r).take j) (detL i M) ++ [toFr (((detL i (colSet M j r) : Int) : Rat) / ((detL i M : Int) : Rat))] by
            rw [fracsL_snoc (by rw [colDs_len]; exact hl), hd])
          clear hd
          generalize toFr (((detL i (colSet M j r) : Int) : Rat) / ((detL i M : Int) : Rat)) = f at *
          have hown := HO.out
          obtain ⟨va, vc, rfl⟩ := own_form hown
          have hown2 := own_mono hown HB4.out
          clear hown
          go_wp2_with (at_builtin; refine wpList_app1 rfl _ _ 27 rfl Try.underlying27 infoFr rfl (by decide) w.heap.size (.slice va j vc) j _ rfl (hown2.alloc _) w4.heap.size #[.int .i64 f.n, .int .i64 f.d] rfl (new_at _ _) rfl (by simp [Value.oneCell']) (by omega) (by omega) (by simp; omega) ?_; intro v' wn hown' hgrow; obtain ⟨wa, wc, rfl⟩ := own_form hown')
          have HO9 := Lib.hid (show wn.ownsRow w.heap.size 53 2 (.slice wa (j + 1) wc) (j + 1) (cellsF (fracsL ((colDs i M r).take (j + 1)) (detL i M))) by
            rw [HF.out, cellsF_snoc]; exact hown')
          have HBN := Lib.hid ((bal (btr HB.out HB4.out) (.cells #[.int .i64 f.n, .int .i64 f.d] 53)).grown hgrow (by simp; omega) (fun j hj => (HO.out.lt j hj).1))
          clear hown' hgrow hown2
          go_wp2
          go_roundw
          case rel => go_light; first | exact ⟨j + 1, by omega, by go_num, HO9, HBN⟩ | ((repeat apply Exists.intro); exact ⟨⟨j + 1, by omega, by go_num, HO9, HBN⟩, rfl⟩)
          case measure => simp [intOf]; omega
    · obtain rfl : j = n := by omega
      have hO := HO.out
      rw [List.take_of_length_le (by rw [colDs_len]; omega)] at hO
      obtain ⟨va, vc, rfl⟩ := own_form hO
      have HO2 := Lib.hid hO
      clear hO
      go_wp2
      go_ret
      exact ⟨_, _, _, rfl, by rw [fracsL_len, colDs_len], HO2.out, HB.out⟩
end Go.Proofs.Ytcmakddnjmeklaa
