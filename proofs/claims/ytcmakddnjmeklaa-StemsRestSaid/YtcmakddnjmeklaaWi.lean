/- Chapter 9, walks: best, Bound, Better. -/
import Derived.Test.YtcmakddnjmeklaaWh
namespace Go.Proofs.Ytcmakddnjmeklaa
open Go.RowKit

def readInts (v : Value) (w : World) : List Int := match v with
  | .slice (some a) n _ => (List.range n).map fun i => match w.cell? ⟨a.block, a.off + i, none⟩ with
    | some (.int _ z) => z
    | _ => 0
  | _ => []
theorem readInts_sl {w : World} {a : Option Addr} {n c : Nat} {l : List Int} (h : Sl w a n c l) (hn : 0 < n) : readInts (.slice a n c) w = l := by
  obtain ⟨b, off, rfl, _, hc⟩ := h.at hn
  refine nth_ext (by simp [readInts, h.len]) fun i hi => ?_
  simp [readInts] at hi
  simp [readInts, nth, hi]
  rw [hc i hi]
  simp [nth]
theorem zeros_plan {W : Wd} (h : vWd W = true) : isPlanB W (List.replicate W.acts.length 0) = true := by
  unfold isPlanB
  rw [h, Bool.true_and]
  refine planOk_yes (by simp) fun s hs => ?_
  have := ((vWd_parts h).2 s hs).1
  have e : nth (List.replicate W.acts.length 0) s = 0 := by simp [nth, hs]
  rw [e]
  omega
/-- A best plan of the call's own. -/
def GivesBest (W : Wd) (w : World) (e : Ending) (w' : World) : Prop := ∃ a n c p, e = .returned (.slice a n c) ∧ w'.ownsRow w.heap.size 3 1 (.slice a n c) n (p.map (Value.int .i64)) ∧ isPlanB W p = true ∧ Opt W p ∧ Below w.heap.size w w'
set_option maxRecDepth 100000 in
set_option maxHeartbeats 1000000 in
theorem best_go (w : World) (x : Option Addr) (n c : Nat) (W : Wd) (hA : A2Sl w x n c W.acts) (hok : vWd W = true) :
    Calls Try.prog 50 #[wv W.a W.b x n c] w (GivesBest W w) := by
  obtain ⟨i0, hi, hz0, hz1, hz2⟩ := info_parts infoInt
  have hb0 := bal (Below.refl w.heap.size w) (.cells #[.int .i64 W.a, .int .i64 W.b, .slice x n c] 33)
  have HA := Lib.hid (hA.mono hb0)
  have HB0 := Lib.hid hb0
  have HZ := Lib.hid (show BoxW (w.alloc (.cells #[.int .i64 W.a, .int .i64 W.b, .slice x n c] 33)) w.heap.size W.a W.b x n c from new_at w _)
  obtain ⟨hn1, hn4, _⟩ := (vWd_parts hok).1
  have hAn := hA.1
  rw [hAn] at hn1 hn4
  have HZP := Lib.hid (zeros_plan hok)
  have HAN := Lib.hid hAn
  clear hA hb0 hok hAn
  go_enter Try.func50, Try.ntmps50
  go_wp2_with (refine wpList_make_full _ rfl _ _ 26 rfl w.heap.size 3 i0 (.int .i64 0) 1 Try.underlying26 hi hz0 hz1 .i64 .i64 n n n rfl rfl rfl rfl (by rw [hz2]; omega) (by unfold maxLen; omega) (by simp) ?_; intro w1 hown1 hgrow1)
  have hB1 := HB0.out.grown hgrow1 (by simp) (fun _ h => by cases h)
  rw [show (Value.int .i64 0).cells = #[Value.int .i64 0] from rfl, toList_madeCells_one, Nat.mul_one] at hown1
  have HB1 := Lib.hid hB1
  have HBW := Lib.hid ((Below.refl _ _).grown hgrow1 (Nat.le_refl _) (fun _ h => by cases h))
  have HO1 := Lib.hid (show w1.ownsRow w.heap.size 3 1 (.slice (some ⟨(w.alloc (.cells #[.int .i64 W.a, .int .i64 W.b, .slice x n c] 33)).heap.size, 0, none⟩) n n) n ((List.replicate n 0).map (Value.int .i64)) by simpa using hown1)
  have HA1 := Lib.hid (HA.out.mono HBW.out)
  have HZ1 := Lib.hid (show BoxW w1 w.heap.size W.a W.b x n c from persist HZ.out HBW.out)
  rw [HAN.out] at HZP
  clear hown1 hgrow1 hB1 hi hz0 hz1 hz2
  go_wp2
  go_loopw [3] (fun v wr => ∃ (a : Option Addr) (cc : Nat) (p : List Int), v = .slice a n cc ∧ Hid (wr.ownsRow w.heap.size 3 1 (.slice a n cc) n (p.map (Value.int .i64))) ∧ Hid (isPlanB W p = true) ∧ Hid (Below w1.heap.size w1 wr)) (fun v wr => mu W (readInts v wr))
  case atStart => exact ⟨_, _, _, by simp, HO1, HZP, Lib.hid (Below.refl _ _)⟩
  case round =>
    clear HO1 HZP
    obtain ⟨a, cc, p, rfl, HO, HOK, HB⟩ := hrel
    obtain ⟨z0, z1, z2, z3⟩ := BoxW.cells (persist HZ1.out HB.out)
    go_wp2_with fail
    refine (better_go _ x a n c n cc W p (HA1.out.mono HB.out) (own_sl HO.out) HOK.out).mono ?_
    rintro e w2 ⟨oa, on, oc, rfl, hO2, hb2⟩
    have hon : on = n := by have h1 := (own_sl hO2).len; rw [nextP_len, HAN.out] at h1; exact h1.symm
    subst hon
    have HB2 := Lib.hid (btr HB.out hb2)
    cases hf : foundP W p with
    | true =>
      have HO2 := Lib.hid (own_base hO2 ((btr HB1.out HB.out).size))
      have HM := Lib.hid (show mu W (readInts (.slice oa on oc) w2) < mu W (readInts (.slice a on cc) wr) by
        rw [readInts_sl (own_sl hO2) (by omega), readInts_sl (own_sl HO.out) (by omega)]
        exact mu_lt HOK.out (next_plan HOK.out) (next_gt HOK.out hf))
      clear hO2 hb2 hf
      go_wp2
      go_roundw
      case rel => go_light; exact ⟨_, _, _, rfl, HO2, Lib.hid (next_plan HOK.out), HB2⟩
      case measure => exact HM.out
    | false =>
      have HOP := Lib.hid (next_no HOK.out hf).2
      have HO2 := Lib.hid (own_mono HO.out hb2)
      clear hO2 hb2 hf
      go_wp2
      go_ret
      exact ⟨_, _, _, p, rfl, HO2.out, HOK.out, HOP.out, btr HB1.out HB2.out⟩

/-! ### Bound, Better -/
theorem okX_le {a b : Int} {X : List Ac} (h : OkX a b X) : X.length ≤ 4 := h.2.1
def GivesBound (W : Wd) (w : World) (e : Ending) (w' : World) : Prop := ∃ p, isPlanB W p = true ∧ Opt W p ∧ GivesFrE w (worthF W p) 0 e w'
set_option maxHeartbeats 400000 in
theorem bound_no (w : World) (x : Option Addr) (n c : Nat) (W : Wd) (hA : A2Sl w x n c W.acts) (hok : vWd W = false) :
    Calls Try.prog 24 #[wv W.a W.b x n c] w (GivesFrE w [] 2) := by
  have hb0 := bal (Below.refl w.heap.size w) (.cells #[.int .i64 W.a, .int .i64 W.b, .slice x n c] 33)
  have HA := Lib.hid (hA.mono hb0)
  have HB0 := Lib.hid hb0
  have HOK := Lib.hid hok
  clear hA hb0 hok
  go_enter Try.func24, Try.ntmps24
  go_wp2_with fail
  refine (wvalid_go _ x n c W HA.out).mono ?_
  rintro e w2 ⟨rfl, hb2⟩
  rw [HOK.out]
  go_wp2
  go_ret2
  exact ⟨none, 0, 0, rfl, rfl, World.ownsRow_nil _ _ _ _, btr HB0.out hb2⟩
set_option maxHeartbeats 400000 in
theorem bound_go (w : World) (x : Option Addr) (n c : Nat) (W : Wd) (hA : A2Sl w x n c W.acts) (hok : vWd W = true) :
    Calls Try.prog 24 #[wv W.a W.b x n c] w (GivesBound W w) := by
  have hb0 := bal (Below.refl w.heap.size w) (.cells #[.int .i64 W.a, .int .i64 W.b, .slice x n c] 33)
  have HA := Lib.hid (hA.mono hb0)
  have HB0 := Lib.hid hb0
  have HOK := Lib.hid hok
  have HZ := Lib.hid (show BoxW (w.alloc (.cells #[.int .i64 W.a, .int .i64 W.b, .slice x n c] 33)) w.heap.size W.a W.b x n c from new_at w _)
  clear hA hb0 hok
  go_enter Try.func24, Try.ntmps24
  go_wp2_with fail
  refine (wvalid_go _ x n c W HA.out).mono ?_
  rintro e w2 ⟨rfl, hb2⟩
  rw [HOK.out]
  have HA2 := Lib.hid (HA.out.mono hb2)
  have HB2 := Lib.hid (btr HB0.out hb2)
  have HZ2 := Lib.hid (show BoxW w2 w.heap.size W.a W.b x n c from persist HZ.out hb2)
  have hC : Below w2.heap.size w2 w2.drew := (Below.refl _ _).drew
  have zz := (BoxW.cells HZ2.out).1
  have HSX := Lib.hid (fun (w' : World) (hb : Below w2.heap.size w2 w') =>
    (show w'.cell? ⟨w.heap.size, 0, none⟩ = some (.int .i64 W.a) ∧ w'.cell? ⟨w.heap.size, 1, none⟩ = some (.int .i64 W.b) ∧ w'.cell? ⟨w.heap.size, 2, none⟩ = some (.slice x n c) from (BoxW.cells (persist HZ2.out hb)).2))
  clear hb2
  go_wp2
  go_region_held3 (fun w' => w'.cell? ⟨w.heap.size, 0, none⟩ = some (.int .i64 W.a) ∧ w'.cell? ⟨w.heap.size, 1, none⟩ = some (.int .i64 W.b) ∧ w'.cell? ⟨w.heap.size, 2, none⟩ = some (.slice x n c))
    ((exact HSX.out _ hC))
    (first
      | ((with_reducible refine (best_go _ x n c W (HA2.out.mono hC) HOK.out).mono ?_); rintro e w' ⟨pa, pn, pc, p, rfl, hO, hpl, hop, hb9⟩; have HSP := Lib.hid (own_sl hO); have HPL := Lib.hid hpl; have HOP := Lib.hid hop; replace hC := btr hC hb9; clear hb9 hO hpl hop)
      | ((with_reducible refine (worth_go _ x pa n c pn pc W p (HA2.out.mono hC) HSP.out HPL.out).mono ?_); rintro e w' ⟨va, vn, vc, rfl, hsl, hb9⟩; have HSV := Lib.hid hsl; replace hC := btr hC hb9; clear hb9 hsl)
      | ((with_reducible refine (fracs_go _ va vn vc _ _ HSV.out (by have h1 := HSV.out.len; have h2 := okX_le (okX_plan HPL.out); rw [wNs_len] at h1; omega) (fun y hy => by have := wNs_bound (okX_plan HPL.out) y hy; omega) (wD_pos (okX_plan HPL.out)).1 (by have := (wD_pos (okX_plan HPL.out)).2; omega)).mono ?_); rintro e w' ⟨fa, fn, fc, rfl, hfn, hown, hb9⟩; have HFN := Lib.hid hfn; have HOW := Lib.hid hown; have HZC := Lib.hid hC.size; replace hC := btr hC hb9; clear hb9 hfn hown))
  all_goals go_wp2
  all_goals go_ret2
  all_goals exact ⟨p, HPL.out, HOP.out, fa, fn, fc, rfl, HFN.out, own_base HOW.out (Nat.le_trans HB2.out.size HZC.out), btr HB2.out hC⟩
theorem opt_same {W : Wd} {p q : List Int} (hp : isPlanB W p = true) (hq : isPlanB W q = true) (h1 : wLe W p q) (h2 : wLe W q p) : worthF W p = worthF W q := by
  refine fr_ext (by rw [worthF_len, worthF_len]) fun s hs => ?_
  rw [worthF_len] at hs
  unfold worthF
  have l1 := planActs_len W.acts p
  have l2 := planActs_len W.acts q
  rw [fracsL_at (by rw [wNs_len, l1]; exact hs), wNs_at (by rw [l1]; exact hs), fracsL_at (by rw [wNs_len, l2]; exact hs), wNs_at (by rw [l2]; exact hs)]
  have d1 := (wD_pos (okX_plan hp)).1
  have d2 := (wD_pos (okX_plan hq)).1
  have e := Int.le_antisymm (h1 s hs) (h2 s hs)
  congr 1
  rw [← Rat.divInt_eq_div, ← Rat.divInt_eq_div, Rat.divInt_eq_divInt_iff (by omega) (by omega)]
  exact e
theorem opt_opt {W : Wd} {p q : List Int} (hp : isPlanB W p = true) (hq : isPlanB W q = true) (h1 : Opt W p) (h2 : Opt W q) : worthF W p = worthF W q :=
  opt_same hp hq (opt_ge hq hp h2) (opt_ge hp hq h1)
def GivesIE (w : World) (l : List Int) (err : Int) (e : Ending) (w' : World) : Prop := ∃ a n c, e = .returned (.tuple #[.slice a n c, .int .i64 err]) ∧ w'.ownsRow w.heap.size 3 1 (.slice a n c) n (l.map (Value.int .i64)) ∧ Below w.heap.size w w'
set_option maxHeartbeats 400000 in
theorem betterU_no (w : World) (x y : Option Addr) (n c m d : Nat) (W : Wd) (p : List Int) (hA : A2Sl w x n c W.acts) (hp : Sl w y m d p) (hok : isPlanB W p = false) :
    Calls Try.prog 28 #[wv W.a W.b x n c, .slice y m d] w (GivesIE w [] 2) := by
  have hb0 := bal (Below.refl w.heap.size w) (.cells #[.int .i64 W.a, .int .i64 W.b, .slice x n c] 33)
  have HA := Lib.hid (hA.mono hb0)
  have HS := Lib.hid (hp.mono hb0)
  have HB0 := Lib.hid hb0
  have HOK := Lib.hid hok
  clear hA hp hb0 hok
  go_enter Try.func28, Try.ntmps28
  go_wp2_with fail
  refine (isplan_go _ x y n c m d W p HA.out HS.out).mono ?_
  rintro e w2 ⟨rfl, hb2⟩
  rw [HOK.out]
  go_wp2
  go_ret2
  exact ⟨none, 0, 0, rfl, World.ownsRow_nil _ _ _ _, btr HB0.out hb2⟩
def GivesNext (W : Wd) (p : List Int) (w : World) (e : Ending) (w' : World) : Prop := GivesIE w (if foundP W p then nextP W p else []) (if foundP W p then 0 else 4) e w'
set_option maxHeartbeats 400000 in
theorem betterU_go (w : World) (x y : Option Addr) (n c m d : Nat) (W : Wd) (p : List Int) (hA : A2Sl w x n c W.acts) (hp : Sl w y m d p) (hok : isPlanB W p = true) :
    Calls Try.prog 28 #[wv W.a W.b x n c, .slice y m d] w (GivesNext W p w) := by
  have hb0 := bal (Below.refl w.heap.size w) (.cells #[.int .i64 W.a, .int .i64 W.b, .slice x n c] 33)
  have HZ := Lib.hid (show BoxW (w.alloc (.cells #[.int .i64 W.a, .int .i64 W.b, .slice x n c] 33)) w.heap.size W.a W.b x n c from new_at w _)
  have HA := Lib.hid (hA.mono hb0)
  have HS := Lib.hid (hp.mono hb0)
  have HB0 := Lib.hid hb0
  have HOK := Lib.hid hok
  clear hA hp hb0 hok
  go_enter Try.func28, Try.ntmps28
  go_wp2_with fail
  refine (isplan_go _ x y n c m d W p HA.out HS.out).mono ?_
  rintro e w2 ⟨rfl, hb2⟩
  rw [HOK.out]
  obtain ⟨z0, z1, z2, z3⟩ := BoxW.cells (persist HZ.out hb2)
  go_wp2_with fail
  refine (better_go _ x y n c m d W p (HA.out.mono hb2) (HS.out.mono hb2) HOK.out).mono ?_
  rintro e w3 ⟨a, k, cc, rfl, hO, hb3⟩
  have HO := Lib.hid (own_base hO (btr HB0.out hb2).size)
  have HB3 := Lib.hid (btr (btr HB0.out hb2) hb3)
  clear hO hb2 hb3 z0 z1 z2 z3
  cases hf : foundP W p with
  | true =>
    have HF := Lib.hid hf
    clear hf
    go_wp2
    go_ret2
    unfold GivesNext
    rw [HF.out]
    exact ⟨_, _, _, rfl, HO.out, HB3.out⟩
  | false =>
    have HF := Lib.hid hf
    clear hf
    go_wp2
    go_ret2
    unfold GivesNext
    rw [HF.out]
    exact ⟨none, 0, 0, rfl, World.ownsRow_nil _ _ _ _, HB3.out⟩
end Go.Proofs.Ytcmakddnjmeklaa
