/- Chapter 9: isState, Rest, Reach. -/
import Derived.Test.YtcmakddnjmeklaaVf
import Derived.Test.YtcmakddnjmeklaaPn
namespace Go.Proofs.Ytcmakddnjmeklaa
open Go.RowKit
set_option linter.unusedSimpArgs false

def stB (W : Wd) (p : List Int) (f : Int) : Bool := isPlanB W p && (decide (0 ≤ f) && decide (f < W.acts.length))
theorem stB_no {W : Wd} {p : List Int} {f : Int} (h : isPlanB W p = false) : stB W p f = false := by unfold stB; rw [h]; rfl
theorem stB_parts {W : Wd} {p : List Int} {f : Int} (h : stB W p f = true) : isPlanB W p = true ∧ ∃ g : Nat, f = (g : Int) ∧ g < W.acts.length := by
  unfold stB at h
  rw [Bool.and_eq_true, Bool.and_eq_true, decide_eq_true_eq, decide_eq_true_eq] at h
  exact ⟨h.1, f.toNat, by omega, by omega⟩
theorem stB_of {W : Wd} {p : List Int} {g : Nat} (h : isPlanB W p = true) (hg : g < W.acts.length) : stB W p (g : Int) = true := by
  unfold stB
  rw [h, decide_eq_true (by omega : (0 : Int) ≤ (g : Int)), decide_eq_true (by omega : (g : Int) < W.acts.length)]; rfl
theorem stB_tr {W : Wd} {p : List Int} {f : Int} : stB (trW W) (p.take 7) f = stB W p f := by
  cases hp : isPlanB W p with
  | false => rw [stB_no hp, stB_no (by rw [isPlan_tr]; exact hp)]
  | true => rw [trW_same (plan_parts hp).1, take_plan hp]
set_option maxHeartbeats 1000000 in
theorem isstate_go (w : World) (x y : Option Addr) (n c m d : Nat) (f : Int) (W : Wd) (p : List Int) (hA : A2Sl w x n c W.acts) (hp : Sl w y m d p) :
    Calls Try.prog 68 #[wv W.a W.b x n c, .slice y m d, .int .i64 f] w fun e w' => e = .returned (.bool (stB W p f)) ∧ Below w.heap.size w w' := by
  have hb0 := bal (Below.refl w.heap.size w) (.cells #[.int .i64 W.a, .int .i64 W.b, .slice x n c] 33)
  have HA := Lib.hid (hA.mono hb0)
  have HP := Lib.hid (hp.mono hb0)
  have HB0 := Lib.hid hb0
  have HNA := Lib.hid hA.1
  have HMP := Lib.hid hp.len
  clear hA hp hb0
  cases hq : isPlanB W p with
  | false =>
    have HS := Lib.hid (stB_no (f := f) hq)
    have HQ := Lib.hid hq
    clear hq
    go_enter Try.func68, Try.ntmps68
    go_wp2_with fail
    refine (isplan_go _ x y n c m d W p HA.out HP.out).mono ?_
    rintro e w1 ⟨rfl, hb⟩
    rw [HQ.out]
    have HB1 := Lib.hid hb
    clear hb
    go_wp2
    go_ret
    rw [HS.out]
    exact ⟨rfl, btr HB0.out HB1.out⟩
  | true =>
    obtain ⟨_, hpl, _, _, _⟩ := plan_parts hq
    have hm : m = W.acts.length := by have := HMP.out; omega
    have HS := Lib.hid (show stB W p f = (decide (0 ≤ f) && decide (f < (m : Int))) by unfold stB; rw [hq, hm]; rfl)
    have HQ := Lib.hid hq
    clear hq hpl hm
    by_cases h1 : 0 ≤ f
    · have d1 : decide (f < 0) = false := by rw [decide_eq_false]; omega
      have d2 : decide (0 ≤ f) = true := decide_eq_true h1
      have HS2 := Lib.hid (show stB W p f = decide (f < (m : Int)) by rw [HS.out, d2]; rfl)
      go_enter Try.func68, Try.ntmps68
      go_wp2_with fail
      refine (isplan_go _ x y n c m d W p HA.out HP.out).mono ?_
      rintro e w1 ⟨rfl, hb⟩
      rw [HQ.out]
      have HB1 := Lib.hid hb
      clear hb
      go_wp2
      go_ret
      rw [HS2.out]
      exact ⟨rfl, btr HB0.out HB1.out⟩
    · have d1 : decide (f < 0) = true := by rw [decide_eq_true_eq]; omega
      have d2 : decide (0 ≤ f) = false := by rw [decide_eq_false]; omega
      have HS2 := Lib.hid (show stB W p f = false by rw [HS.out, d2]; rfl)
      go_enter Try.func68, Try.ntmps68
      go_wp2_with fail
      refine (isplan_go _ x y n c m d W p HA.out HP.out).mono ?_
      rintro e w1 ⟨rfl, hb⟩
      rw [HQ.out]
      have HB1 := Lib.hid hb
      clear hb
      go_wp2
      go_ret
      rw [HS2.out]
      exact ⟨rfl, btr HB0.out HB1.out⟩
/-! ### Reach -/
def GivesNum (v err : Int) (w : World) (e : Ending) (w' : World) : Prop := e = .returned (.tuple #[.int .i64 v, .int .i64 err]) ∧ Below w.heap.size w w'
set_option maxHeartbeats 1000000 in
theorem reachU_go (w : World) (x y : Option Addr) (n c m d : Nat) (f : Int) (W : Wd) (p : List Int) (hA : A2Sl w x n c W.acts) (hp : Sl w y m d p) :
    Calls Try.prog 42 #[wv W.a W.b x n c, .slice y m d, .int .i64 f] w (GivesNum (if stB W p f = true then (rch W p f.toNat : Int) else 0) (if stB W p f = true then 0 else 2) w) := by
  have hb0 := bal (Below.refl w.heap.size w) (.cells #[.int .i64 W.a, .int .i64 W.b, .slice x n c] 33)
  have HZ := Lib.hid (show BoxW (w.alloc (.cells #[.int .i64 W.a, .int .i64 W.b, .slice x n c] 33)) w.heap.size W.a W.b x n c from new_at w _)
  have HA := Lib.hid (hA.mono hb0)
  have HP := Lib.hid (hp.mono hb0)
  have HB0 := Lib.hid hb0
  have HNA := Lib.hid hA.1
  clear hA hp hb0
  cases hs : stB W p f with
  | false =>
    have HS := Lib.hid hs
    rw [if_neg (by simp), if_neg (by simp)]
    clear hs
    go_enter Try.func42, Try.ntmps42
    go_wp2_with fail
    refine (isstate_go _ x y n c m d f W p HA.out HP.out).mono ?_
    rintro e w1 ⟨rfl, hb⟩
    rw [HS.out]
    have HB1 := Lib.hid hb
    clear hb
    go_wp2
    go_ret2
    exact ⟨rfl, btr HB0.out HB1.out⟩
  | true =>
    have HS := Lib.hid hs
    obtain ⟨hok, g, rfl, hg⟩ := stB_parts hs
    have HOK := Lib.hid hok
    rw [if_pos rfl, if_pos rfl, Int.toNat_natCast]
    rw [HNA.out] at hg
    clear hs hok
    go_enter Try.func42, Try.ntmps42
    go_wp2_with fail
    generalize w.alloc (.cells #[.int .i64 W.a, .int .i64 W.b, .slice x n c] 33) = V0 at *
    refine (isstate_go _ x y n c m d (g : Int) W p HA.out HP.out).mono ?_
    rintro e w1 ⟨rfl, hb⟩
    rw [HS.out]
    have HB1 := Lib.hid hb
    clear hb
    obtain ⟨z0, z1, z2, z3⟩ := BoxW.cells (persist HZ.out HB1.out)
    go_wp2_with fail
    refine (reach_go _ x y n c m d g W p (HA.out.mono HB1.out) (HP.out.mono HB1.out) HOK.out hg).mono ?_
    rintro e w2 ⟨rfl, hb⟩
    go_wp2
    go_ret2
    exact ⟨rfl, btr HB0.out (btr HB1.out hb)⟩
/-! ### Rest -/
theorem gives_fr3 {w w' : World} {F : List Fr} {e : Ending} {n : Nat} (h : GivesFr w F e w') (hl : F.length = n) : ∃ a c, e = .returned (.slice a n c) ∧ FrSl w' a n c F ∧ Below w.heap.size w w' := by
  obtain ⟨a, n2, c, rfl, hn, ho, hb⟩ := h
  obtain rfl : n2 = n := by omega
  exact ⟨_, _, rfl, own_fr ho hn, hb⟩
def restF (W : Wd) (p : List Int) (f : Nat) : List Fr := fracsL (restN W p f) (restD W p f)
theorem restF_len {W : Wd} {p : List Int} {f : Nat} : (restF W p f).length = W.acts.length := by unfold restF restN; rw [fracsL_len, nTo_len]
set_option maxHeartbeats 2000000 in
theorem restU_ok (w : World) (x y : Option Addr) (n c m d g : Nat) (W : Wd) (p : List Int) (hA : A2Sl w x n c W.acts) (hp : Sl w y m d p) (hok : isPlanB W p = true) (hg : g < n) (hag : agOk W p g = true) :
    Calls Try.prog 40 #[wv W.a W.b x n c, .slice y m d, .int .i64 g] w (GivesFS (restF W p g) n w) := by
  have hb0 := bal (Below.refl w.heap.size w) (.cells #[.int .i64 W.a, .int .i64 W.b, .slice x n c] 33)
  have HZ := Lib.hid (show BoxW (w.alloc (.cells #[.int .i64 W.a, .int .i64 W.b, .slice x n c] 33)) w.heap.size W.a W.b x n c from new_at w _)
  have HA := Lib.hid (hA.mono hb0)
  have HP := Lib.hid (hp.mono hb0)
  have HB0 := Lib.hid hb0
  have HNA := Lib.hid hA.1
  have hgA : g < W.acts.length := by rw [HNA.out]; exact hg
  have HS := Lib.hid (stB_of hok hgA)
  have HOK := Lib.hid hok
  have HAG := Lib.hid hag
  have HRB := Lib.hid (fun s (hs : s < W.acts.length) => rest_bd hok hag hgA hs)
  have hdb := restD_bd hok hag hgA
  have hn4 : n ≤ 4 := by have := (plan_parts hok).2.2.2.1; have := HNA.out; omega
  clear hA hp hb0 hok hag
  go_enter Try.func40, Try.ntmps40
  go_wp2_with fail
  generalize w.alloc (.cells #[.int .i64 W.a, .int .i64 W.b, .slice x n c] 33) = V0 at *
  refine (isstate_go _ x y n c m d (g : Int) W p HA.out HP.out).mono ?_
  rintro e w1 ⟨rfl, hb⟩
  rw [HS.out]
  have HB1 := Lib.hid hb
  clear hb
  obtain ⟨z0, z1, z2, z3⟩ := BoxW.cells (persist HZ.out HB1.out)
  go_wp2_with fail
  refine (rest_go _ x y n c m d g W p (HA.out.mono HB1.out) (HP.out.mono HB1.out) HOK.out hg).mono ?_
  rintro e w2 hq
  unfold GivesRs at hq
  rw [if_pos HAG.out] at hq
  obtain ⟨ra, rc, rfl, hS, hb⟩ := hq
  have HB2 := Lib.hid (btr HB1.out hb)
  have HSL := Lib.hid hS
  clear hb hS z0 z1 z2 z3
  have HRF := Lib.hid (show restF W p g = fracsL (restN W p g) (restD W p g) from rfl)
  have HBD := Lib.hid (show ∀ y ∈ restN W p g, -4000000000000000000 ≤ y ∧ y ≤ 4000000000000000000 from fun y hy => by
    obtain ⟨i, hi, rfl⟩ := List.mem_iff_getElem.1 hy
    have hi2 : i < W.acts.length := by unfold restN at hi; rw [nTo_len] at hi; exact hi
    have := HRB.out i hi2
    rw [nth_of_lt hi] at this
    omega)
  obtain ⟨DV, hDV⟩ : ∃ z, restD W p g = z := ⟨_, rfl⟩
  rw [hDV] at HRF hdb ⊢
  clear hDV
  go_wp2_with fail
  refine (fracs_go _ ra n rc (restN W p g) DV (HSL.out.mono (bal (Below.refl _ _) _)) (by omega) HBD.out hdb.1 (by omega)).mono ?_
  rintro e w3 hq9
  obtain ⟨fa, fc, rfl, hF, hb⟩ := gives_fr3 hq9 (n := n) (by rw [← HRF.out, restF_len]; exact HNA.out)
  have HF := Lib.hid hF
  have HB3 := Lib.hid (btr HB2.out (btr (bal (Below.refl _ _) _) hb))
  clear hq9 hb hF
  go_wp2
  go_ret2
  exact ⟨_, _, rfl, by rw [HRF.out]; exact HF.out, btr HB0.out HB3.out⟩
set_option maxHeartbeats 2000000 in
theorem restU_not (w : World) (x y : Option Addr) (n c m d g : Nat) (W : Wd) (p : List Int) (hA : A2Sl w x n c W.acts) (hp : Sl w y m d p) (hok : isPlanB W p = true) (hg : g < n) (hag : agOk W p g = false) :
    Calls Try.prog 40 #[wv W.a W.b x n c, .slice y m d, .int .i64 g] w (GivesNo 5 w) := by
  have hb0 := bal (Below.refl w.heap.size w) (.cells #[.int .i64 W.a, .int .i64 W.b, .slice x n c] 33)
  have HZ := Lib.hid (show BoxW (w.alloc (.cells #[.int .i64 W.a, .int .i64 W.b, .slice x n c] 33)) w.heap.size W.a W.b x n c from new_at w _)
  have HA := Lib.hid (hA.mono hb0)
  have HP := Lib.hid (hp.mono hb0)
  have HB0 := Lib.hid hb0
  have hgA : g < W.acts.length := by rw [hA.1]; exact hg
  have HS := Lib.hid (stB_of hok hgA)
  have HOK := Lib.hid hok
  have HAG := Lib.hid hag
  clear hA hp hb0 hok hag
  go_enter Try.func40, Try.ntmps40
  go_wp2_with fail
  generalize w.alloc (.cells #[.int .i64 W.a, .int .i64 W.b, .slice x n c] 33) = V0 at *
  refine (isstate_go _ x y n c m d (g : Int) W p HA.out HP.out).mono ?_
  rintro e w1 ⟨rfl, hb⟩
  rw [HS.out]
  have HB1 := Lib.hid hb
  clear hb
  obtain ⟨z0, z1, z2, z3⟩ := BoxW.cells (persist HZ.out HB1.out)
  go_wp2_with fail
  refine (rest_go _ x y n c m d g W p (HA.out.mono HB1.out) (HP.out.mono HB1.out) HOK.out hg).mono ?_
  rintro e w2 hq
  unfold GivesRs at hq
  rw [if_neg (by rw [HAG.out]; simp)] at hq
  obtain ⟨rfl, hb⟩ := hq
  have HB2 := Lib.hid (btr HB1.out hb)
  clear hb z0 z1 z2 z3
  go_wp2
  go_ret2
  exact ⟨_, _, rfl, btr HB0.out (bal HB2.out _)⟩
set_option maxHeartbeats 2000000 in
theorem restU_no (w : World) (x y : Option Addr) (n c m d : Nat) (f : Int) (W : Wd) (p : List Int) (hA : A2Sl w x n c W.acts) (hp : Sl w y m d p) (hs : stB W p f = false) :
    Calls Try.prog 40 #[wv W.a W.b x n c, .slice y m d, .int .i64 f] w (GivesNo 2 w) := by
  have hb0 := bal (Below.refl w.heap.size w) (.cells #[.int .i64 W.a, .int .i64 W.b, .slice x n c] 33)
  have HA := Lib.hid (hA.mono hb0)
  have HP := Lib.hid (hp.mono hb0)
  have HB0 := Lib.hid hb0
  have HS := Lib.hid hs
  clear hA hp hb0 hs
  go_enter Try.func40, Try.ntmps40
  go_wp2_with fail
  refine (isstate_go _ x y n c m d f W p HA.out HP.out).mono ?_
  rintro e w1 ⟨rfl, hb⟩
  rw [HS.out]
  have HB1 := Lib.hid hb
  clear hb
  go_wp2
  go_ret2
  exact ⟨_, _, rfl, btr HB0.out HB1.out⟩
end Go.Proofs.Ytcmakddnjmeklaa
