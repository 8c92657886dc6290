/- Chapter 9: isState, Rest, Reach; the equations of the reference: Rest. -/
import Derived.Test.YtcmakddnjmeklaaVf
import Derived.Test.YtcmakddnjmeklaaPn
import Derived.Test.YtcmakddnjmeklaaVk
import Derived.Test.YtcmakddnjmeklaaVj
import Derived.Test.YtcmakddnjmeklaaRg
import Derived.StillTailTactics
/- Chapter 9: isState, Rest, Reach. -/
namespace Go.Proofs.Ytcmakddnjmeklaa
open Go.RowKit
set_option linter.unusedSimpArgs false

def stB (W : Wd) (p : List Int) (f : Int) : Bool := isPlanB W p && (decide (0 ≤ f) && decide (f < W.acts.length))
theorem stB_no {W : Wd} {p : List Int} {f : Int} (h : isPlanB W p = false) : stB W p f = false := by unfold stB; rw [h]; rfl
theorem stB_parts {W : Wd} {p : List Int} {f : Int} (h : stB W p f = true) : isPlanB W p = true ∧ ∃ g : Nat, f = (g : Int) ∧ g < W.acts.length := by
  unfold stB at h
  rw [Bool.and_eq_true, Bool.and_eq_true, decide_eq_true_eq, decide_eq_true_eq] at h
  exact ⟨h.1, f.toNat, by omega, by omega⟩
theorem stB_of {W : Wd} {p : List Int} {g : Nat} (h : isPlanB W p = true) (hg : g < W.acts.length) : stB W p (g : Int) = true := by
  unfold stB
  rw [h, decide_eq_true (by omega : (0 : Int) ≤ (g : Int)), decide_eq_true (by omega : (g : Int) < W.acts.length)]; rfl
theorem stB_tr {W : Wd} {p : List Int} {f : Int} : stB (trW W) (p.take 7) f = stB W p f := by
  cases hp : isPlanB W p with
  | false => rw [stB_no hp, stB_no (by rw [isPlan_tr]; exact hp)]
  | true => rw [trW_same (plan_parts hp).1, take_plan hp]
set_option maxHeartbeats 1000000 in
theorem isstate_go (w : World) (x y : Option Addr) (n c m d : Nat) (f : Int) (W : Wd) (p : List Int) (hA : A2Sl w x n c W.acts) (hp : Sl w y m d p) :
    Calls Try.prog 68 #[wv W.a W.b x n c, .slice y m d, .int .i64 f] w fun e w' => e = .returned (.bool (stB W p f)) ∧ Below w.heap.size w w' := by
  have hb0 := bal (Below.refl w.heap.size w) (.cells #[.int .i64 W.a, .int .i64 W.b, .slice x n c] 33)
  have HA := Lib.hid (hA.mono hb0)
  have HP := Lib.hid (hp.mono hb0)
  have HB0 := Lib.hid hb0
  have HNA := Lib.hid hA.1
  have HMP := Lib.hid hp.len
  clear hA hp hb0
  cases hq : isPlanB W p with
  | false =>
    have HS := Lib.hid (stB_no (f := f) hq)
    have HQ := Lib.hid hq
    clear hq
    go_enter Try.func68, Try.ntmps68
    go_wp2_with fail
    refine (isplan_go _ x y n c m d W p HA.out HP.out).mono ?_
    rintro e w1 ⟨rfl, hb⟩
    rw [HQ.out]
    have HB1 := Lib.hid hb
    clear hb
    go_wp2
    go_ret
    rw [HS.out]
    exact ⟨rfl, btr HB0.out HB1.out⟩
  | true =>
    obtain ⟨_, hpl, _, _, _⟩ := plan_parts hq
    have hm : m = W.acts.length := by have := HMP.out; omega
    have HS := Lib.hid (show stB W p f = (decide (0 ≤ f) && decide (f < (m : Int))) by unfold stB; rw [hq, hm]; rfl)
    have HQ := Lib.hid hq
    clear hq hpl hm
    by_cases h1 : 0 ≤ f
    · have d1 : decide (f < 0) = false := by rw [decide_eq_false]; omega
      have d2 : decide (0 ≤ f) = true := decide_eq_true h1
      have HS2 := Lib.hid (show stB W p f = decide (f < (m : Int)) by rw [HS.out, d2]; rfl)
      go_enter Try.func68, Try.ntmps68
      go_wp2_with fail
      refine (isplan_go _ x y n c m d W p HA.out HP.out).mono ?_
      rintro e w1 ⟨rfl, hb⟩
      rw [HQ.out]
      have HB1 := Lib.hid hb
      clear hb
      go_wp2
      go_ret
      rw [HS2.out]
      exact ⟨rfl, btr HB0.out HB1.out⟩
    · have d1 : decide (f < 0) = true := by rw [decide_eq_true_eq]; omega
      have d2 : decide (0 ≤ f) = false := by rw [decide_eq_false]; omega
      have HS2 := Lib.hid (show stB W p f = false by rw [HS.out, d2]; rfl)
      go_enter Try.func68, Try.ntmps68
      go_wp2_with fail
      refine (isplan_go _ x y n c m d W p HA.out HP.out).mono ?_
      rintro e w1 ⟨rfl, hb⟩
      rw [HQ.out]
      have HB1 := Lib.hid hb
      clear hb
      go_wp2
      go_ret
      rw [HS2.out]
      exact ⟨rfl, btr HB0.out HB1.out⟩
/-! ### Reach -/
def GivesNum (v err : Int) (w : World) (e : Ending) (w' : World) : Prop := e = .returned (.tuple #[.int .i64 v, .int .i64 err]) ∧ Below w.heap.size w w'
set_option maxHeartbeats 1000000 in
theorem reachU_go (w : World) (x y : Option Addr) (n c m d : Nat) (f : Int) (W : Wd) (p : List Int) (hA : A2Sl w x n c W.acts) (hp : Sl w y m d p) :
    Calls Try.prog 42 #[wv W.a W.b x n c, .slice y m d, .int .i64 f] w (GivesNum (if stB W p f = true then (rch W p f.toNat : Int) else 0) (if stB W p f = true then 0 else 2) w) := by
  have hb0 := bal (Below.refl w.heap.size w) (.cells #[.int .i64 W.a, .int .i64 W.b, .slice x n c] 33)
  have HZ := Lib.hid (show BoxW (w.alloc (.cells #[.int .i64 W.a, .int .i64 W.b, .slice x n c] 33)) w.heap.size W.a W.b x n c from new_at w _)
  have HA := Lib.hid (hA.mono hb0)
  have HP := Lib.hid (hp.mono hb0)
  have HB0 := Lib.hid hb0
  have HNA := Lib.hid hA.1
  clear hA hp hb0
  cases hs : stB W p f with
  | false =>
    have HS := Lib.hid hs
    rw [if_neg (by simp), if_neg (by simp)]
    clear hs
    go_enter Try.func42, Try.ntmps42
    go_wp2_with fail
    refine (isstate_go _ x y n c m d f W p HA.out HP.out).mono ?_
    rintro e w1 ⟨rfl, hb⟩
    rw [HS.out]
    have HB1 := Lib.hid hb
    clear hb
    go_wp2
    go_ret2
    exact ⟨rfl, btr HB0.out HB1.out⟩
  | true =>
    have HS := Lib.hid hs
    obtain ⟨hok, g, rfl, hg⟩ := stB_parts hs
    have HOK := Lib.hid hok
    rw [if_pos rfl, if_pos rfl, Int.toNat_natCast]
    rw [HNA.out] at hg
    clear hs hok
    go_enter Try.func42, Try.ntmps42
    go_wp2_with fail
    generalize w.alloc (.cells #[.int .i64 W.a, .int .i64 W.b, .slice x n c] 33) = V0 at *
    refine (isstate_go _ x y n c m d (g : Int) W p HA.out HP.out).mono ?_
    rintro e w1 ⟨rfl, hb⟩
    rw [HS.out]
    have HB1 := Lib.hid hb
    clear hb
    obtain ⟨z0, z1, z2, z3⟩ := BoxW.cells (persist HZ.out HB1.out)
    go_wp2_with fail
    refine (reach_go _ x y n c m d g W p (HA.out.mono HB1.out) (HP.out.mono HB1.out) HOK.out hg).mono ?_
    rintro e w2 ⟨rfl, hb⟩
    go_wp2
    go_ret2
    exact ⟨rfl, btr HB0.out (btr HB1.out hb)⟩
/-! ### Rest -/
theorem gives_fr3 {w w' : World} {F : List Fr} {e : Ending} {n : Nat} (h : GivesFr w F e w') (hl : F.length = n) : ∃ a c, e = .returned (.slice a n c) ∧ FrSl w' a n c F ∧ Below w.heap.size w w' := by
  obtain ⟨a, n2, c, rfl, hn, ho, hb⟩ := h
  obtain rfl : n2 = n := by omega
  exact ⟨_, _, rfl, own_fr ho hn, hb⟩
def restF (W : Wd) (p : List Int) (f : Nat) : List Fr := fracsL (restN W p f) (restD W p f)
theorem restF_len {W : Wd} {p : List Int} {f : Nat} : (restF W p f).length = W.acts.length := by unfold restF restN; rw [fracsL_len, nTo_len]
set_option maxHeartbeats 2000000 in
theorem restU_ok (w : World) (x y : Option Addr) (n c m d g : Nat) (W : Wd) (p : List Int) (hA : A2Sl w x n c W.acts) (hp : Sl w y m d p) (hok : isPlanB W p = true) (hg : g < n) (hag : agOk W p g = true) :
    Calls Try.prog 40 #[wv W.a W.b x n c, .slice y m d, .int .i64 g] w (GivesFS (restF W p g) n w) := by
  have hb0 := bal (Below.refl w.heap.size w) (.cells #[.int .i64 W.a, .int .i64 W.b, .slice x n c] 33)
  have HZ := Lib.hid (show BoxW (w.alloc (.cells #[.int .i64 W.a, .int .i64 W.b, .slice x n c] 33)) w.heap.size W.a W.b x n c from new_at w _)
  have HA := Lib.hid (hA.mono hb0)
  have HP := Lib.hid (hp.mono hb0)
  have HB0 := Lib.hid hb0
  have HNA := Lib.hid hA.1
  have hgA : g < W.acts.length := by rw [HNA.out]; exact hg
  have HS := Lib.hid (stB_of hok hgA)
  have HOK := Lib.hid hok
  have HAG := Lib.hid hag
  have HRB := Lib.hid (fun s (hs : s < W.acts.length) => rest_bd hok hag hgA hs)
  have hdb := restD_bd hok hag hgA
  have hn4 : n ≤ 4 := by have := (plan_parts hok).2.2.2.1; have := HNA.out; omega
  clear hA hp hb0 hok hag
  go_enter Try.func40, Try.ntmps40
  go_wp2_with fail
  generalize w.alloc (.cells #[.int .i64 W.a, .int .i64 W.b, .slice x n c] 33) = V0 at *
  refine (isstate_go _ x y n c m d (g : Int) W p HA.out HP.out).mono ?_
  rintro e w1 ⟨rfl, hb⟩
  rw [HS.out]
  have HB1 := Lib.hid hb
  clear hb
  obtain ⟨z0, z1, z2, z3⟩ := BoxW.cells (persist HZ.out HB1.out)
  go_wp2_with fail
  refine (rest_go _ x y n c m d g W p (HA.out.mono HB1.out) (HP.out.mono HB1.out) HOK.out hg).mono ?_
  rintro e w2 hq
  unfold GivesRs at hq
  rw [if_pos HAG.out] at hq
  obtain ⟨ra, rc, rfl, hS, hb⟩ := hq
  have HB2 := Lib.hid (btr HB1.out hb)
  have HSL := Lib.hid hS
  clear hb hS z0 z1 z2 z3
  have HRF := Lib.hid (show restF W p g = fracsL (restN W p g) (restD W p g) from rfl)
  have HBD := Lib.hid (show ∀ y ∈ restN W p g, -4000000000000000000 ≤ y ∧ y ≤ 4000000000000000000 from fun y hy => by
    obtain ⟨i, hi, rfl⟩ := List.mem_iff_getElem.1 hy
    have hi2 : i < W.acts.length := by unfold restN at hi; rw [nTo_len] at hi; exact hi
    have := HRB.out i hi2
    rw [nth_of_lt hi] at this
    omega)
  obtain ⟨DV, hDV⟩ : ∃ z, restD W p g = z := ⟨_, rfl⟩
  rw [hDV] at HRF hdb ⊢
  clear hDV
  go_wp2_with fail
  refine (fracs_go _ ra n rc (restN W p g) DV (HSL.out.mono (bal (Below.refl _ _) _)) (by omega) HBD.out hdb.1 (by omega)).mono ?_
  rintro e w3 hq9
  obtain ⟨fa, fc, rfl, hF, hb⟩ := gives_fr3 hq9 (n := n) (by rw [← HRF.out, restF_len]; exact HNA.out)
  have HF := Lib.hid hF
  have HB3 := Lib.hid (btr HB2.out (btr (bal (Below.refl _ _) _) hb))
  clear hq9 hb hF
  go_wp2
  go_ret2
  exact ⟨_, _, rfl, by rw [HRF.out]; exact HF.out, btr HB0.out HB3.out⟩
set_option maxHeartbeats 2000000 in
theorem restU_not (w : World) (x y : Option Addr) (n c m d g : Nat) (W : Wd) (p : List Int) (hA : A2Sl w x n c W.acts) (hp : Sl w y m d p) (hok : isPlanB W p = true) (hg : g < n) (hag : agOk W p g = false) :
    Calls Try.prog 40 #[wv W.a W.b x n c, .slice y m d, .int .i64 g] w (GivesNo 5 w) := by
  have hb0 := bal (Below.refl w.heap.size w) (.cells #[.int .i64 W.a, .int .i64 W.b, .slice x n c] 33)
  have HZ := Lib.hid (show BoxW (w.alloc (.cells #[.int .i64 W.a, .int .i64 W.b, .slice x n c] 33)) w.heap.size W.a W.b x n c from new_at w _)
  have HA := Lib.hid (hA.mono hb0)
  have HP := Lib.hid (hp.mono hb0)
  have HB0 := Lib.hid hb0
  have hgA : g < W.acts.length := by rw [hA.1]; exact hg
  have HS := Lib.hid (stB_of hok hgA)
  have HOK := Lib.hid hok
  have HAG := Lib.hid hag
  clear hA hp hb0 hok hag
  go_enter Try.func40, Try.ntmps40
  go_wp2_with fail
  generalize w.alloc (.cells #[.int .i64 W.a, .int .i64 W.b, .slice x n c] 33) = V0 at *
  refine (isstate_go _ x y n c m d (g : Int) W p HA.out HP.out).mono ?_
  rintro e w1 ⟨rfl, hb⟩
  rw [HS.out]
  have HB1 := Lib.hid hb
  clear hb
  obtain ⟨z0, z1, z2, z3⟩ := BoxW.cells (persist HZ.out HB1.out)
  go_wp2_with fail
  refine (rest_go _ x y n c m d g W p (HA.out.mono HB1.out) (HP.out.mono HB1.out) HOK.out hg).mono ?_
  rintro e w2 hq
  unfold GivesRs at hq
  rw [if_neg (by rw [HAG.out]; simp)] at hq
  obtain ⟨rfl, hb⟩ := hq
  have HB2 := Lib.hid (btr HB1.out hb)
  clear hb z0 z1 z2 z3
  go_wp2
  go_ret2
  exact ⟨_, _, rfl, btr HB0.out (bal HB2.out _)⟩
set_option maxHeartbeats 2000000 in
theorem restU_no (w : World) (x y : Option Addr) (n c m d : Nat) (f : Int) (W : Wd) (p : List Int) (hA : A2Sl w x n c W.acts) (hp : Sl w y m d p) (hs : stB W p f = false) :
    Calls Try.prog 40 #[wv W.a W.b x n c, .slice y m d, .int .i64 f] w (GivesNo 2 w) := by
  have hb0 := bal (Below.refl w.heap.size w) (.cells #[.int .i64 W.a, .int .i64 W.b, .slice x n c] 33)
  have HA := Lib.hid (hA.mono hb0)
  have HP := Lib.hid (hp.mono hb0)
  have HB0 := Lib.hid hb0
  have HS := Lib.hid hs
  clear hA hp hb0 hs
  go_enter Try.func40, Try.ntmps40
  go_wp2_with fail
  refine (isstate_go _ x y n c m d f W p HA.out HP.out).mono ?_
  rintro e w1 ⟨rfl, hb⟩
  rw [HS.out]
  have HB1 := Lib.hid hb
  clear hb
  go_wp2
  go_ret2
  exact ⟨_, _, rfl, btr HB0.out HB1.out⟩
end Go.Proofs.Ytcmakddnjmeklaa

/- Chapter 9, the reference: Rest, plain: its equations, its right sides, its answer. -/
namespace Go.Proofs.Ytcmakddnjmeklaa
open Go.RowKit
set_option linter.unusedSimpArgs false

/-! ### the equations -/
def colF (W : Wd) (p : List Int) (L : List Nat) (j : Nat) : List Int := L.map fun i => nth (podds W p i) j
def sumF (W : Wd) (p : List Int) (L : List Nat) : List Int := L.map fun i => isum (podds W p i)
def rrRow (W : Wd) (p : List Int) (L : List Nat) (n : Nat) : List Int := if n + 1 = L.length then sumF W p L else (colF W p L (gN L n)).set n (nth (colF W p L (gN L n)) n - fS W p L n)
def rrMat (W : Wd) (p : List Int) (L : List Nat) : List (List Int) := (List.range L.length).map (rrRow W p L)
def rrRt (K : Nat) : List Int := (List.replicate K 0).set (K - 1) 1
section
variable {W : Wd} {p : List Int} {L : List Nat}
theorem colF_len {j : Nat} : (colF W p L j).length = L.length := by simp [colF]
theorem sumF_len : (sumF W p L).length = L.length := by simp [sumF]
theorem colF_at {j k : Nat} (h : k < L.length) : nth (colF W p L j) k = nth (podds W p (gN L k)) j := by
  unfold colF
  rw [nth_of_lt (by simpa using h), List.getElem_map]
  unfold gN
  rw [List.getD_eq_getElem?_getD, List.getElem?_eq_getElem h]; rfl
theorem sumF_at {k : Nat} (h : k < L.length) : nth (sumF W p L) k = fS W p L k := by
  unfold sumF fS
  rw [nth_of_lt (by simpa using h), List.getElem_map]
  unfold gN
  rw [List.getD_eq_getElem?_getD, List.getElem?_eq_getElem h]; rfl
theorem rrRow_len {n : Nat} : (rrRow W p L n).length = L.length := by
  unfold rrRow
  split
  · exact sumF_len
  · rw [List.length_set]; exact colF_len
theorem rrMat_len : (rrMat W p L).length = L.length := by simp [rrMat]
theorem rrMat_at {i : Nat} (h : i < L.length) : rw_ (rrMat W p L) i = rrRow W p L i := by simp [rw_, rrMat, h]
theorem rrRt_len {K : Nat} : (rrRt K).length = K := by simp [rrRt]
theorem rrRt_at {K i : Nat} (h : i < K) : nth (rrRt K) i = if i + 1 = K then 1 else 0 := by
  unfold rrRt
  rw [nth_setI (by simpa using h)]
  by_cases e : i + 1 = K
  · rw [if_pos (by omega), if_pos e]
  · rw [if_neg (by omega), if_neg e, nth_of_lt (by simpa using h)]; simp
/-- A row of which the first k elements are those of another one. -/
def mixR (A B : List Int) (k : Nat) : List Int := A.take k ++ B.drop k
theorem mixR_len {A B : List Int} (h : A.length = B.length) {k : Nat} : (mixR A B k).length = B.length := by
  unfold mixR
  rw [List.length_append, List.length_take, List.length_drop]; omega
theorem mixR_at {A B : List Int} (h : A.length = B.length) {k i : Nat} (hi : i < B.length) : nth (mixR A B k) i = if i < k then nth A i else nth B i := by
  rw [nth_of_lt (by rw [mixR_len h]; exact hi)]
  unfold mixR
  rw [List.getElem_append]
  by_cases e : i < k
  · rw [dif_pos (by rw [List.length_take]; omega), if_pos e, List.getElem_take, nth_of_lt (by omega)]
  · rw [dif_neg (by rw [List.length_take]; omega), if_neg e, List.getElem_drop, nth_of_lt hi]
    congr 1
    rw [List.length_take]; omega
theorem mixR_zero {A B : List Int} : mixR A B 0 = B := by simp [mixR]
theorem mixR_end {A B : List Int} (h : A.length = B.length) : mixR A B B.length = A := by
  unfold mixR
  rw [List.take_of_length_le (by omega), List.drop_of_length_le (Nat.le_refl _), List.append_nil]
theorem mixR_succ {A B : List Int} (h : A.length = B.length) {k : Nat} (_hk : k < B.length) : (mixR A B k).set k (nth A k) = mixR A B (k + 1) := by
  refine nth_ext (by rw [List.length_set, mixR_len h, mixR_len h]) fun i hi => ?_
  rw [List.length_set, mixR_len h] at hi
  rw [nth_setI (by rw [mixR_len h]; exact hi), mixR_at h hi, mixR_at h hi]
  by_cases e : k = i
  · subst e; rw [if_pos rfl, if_pos (by omega)]
  · rw [if_neg e]
    by_cases q : i < k
    · rw [if_pos q, if_pos (by omega)]
    · rw [if_neg q, if_neg (by omega)]
end
section
variable {W : Wd} {p : List Int} {f : Nat}
theorem stL_ltA {X i : Nat} (hi : i < (stL X W.acts.length).length) : gN (stL X W.acts.length) i < W.acts.length := stL_lt (gN_mem hi)
theorem podds_le (h : isPlanB W p = true) {s k : Nat} (hs : s < W.acts.length) (hk : k < W.acts.length) : 0 ≤ nth (podds W p s) k ∧ nth (podds W p s) k ≤ 3 :=
  (vAc_at (vAc_pact h hs)).2.2.2.1 _ (nth_mem (l := podds W p s) (k := k) (by rw [podds_len h hs]; exact hk))
theorem rr_refm (_h : isPlanB W p = true) : RefM (stL (agSet W p f) W.acts.length).length (rrMat W p (stL (agSet W p f) W.acts.length)) (qF W p (stL (agSet W p f) W.acts.length)) (fS W p (stL (agSet W p f) W.acts.length)) := by
  refine ⟨⟨rrMat_len, fun k hk => by rw [rrMat_at hk, rrRow_len]⟩, fun n k hn hk => ?_, fun k hk => ?_⟩
  · show nth (rw_ _ n) k = _
    rw [rrMat_at (by omega)]
    unfold rrRow
    rw [if_neg (by omega), nth_setI (by rw [colF_len]; exact hk), colF_at (by omega), colF_at hk]
    unfold qF
    by_cases e : n = k
    · subst e; rw [if_pos rfl, if_pos rfl]
    · rw [if_neg e, if_neg e, Int.sub_zero]
  · show nth (rw_ _ _) k = _
    rw [rrMat_at (by omega)]
    unfold rrRow
    rw [if_pos (by omega), sumF_at hk]
theorem rr_sq (h : isPlanB W p = true) : Sq (stL (agSet W p f) W.acts.length).length (rrMat W p (stL (agSet W p f) W.acts.length)) := by
  refine ⟨rrMat_len, fun n hn => ⟨by rw [rrMat_at hn, rrRow_len], fun k hk => ?_⟩⟩
  have hp := podds_le h (stL_ltA hk) (stL_ltA hn)
  have hs := pa_of0 h (stL_ltA hn)
  have hs2 := pa_of0 h (stL_ltA hk)
  rw [rrMat_at hn]
  unfold rrRow
  split
  · rw [sumF_at hk]; unfold fS; omega
  · rw [nth_setI (by rw [colF_len]; exact hk), colF_at hn, colF_at hk]
    split
    · rename_i e; subst e
      unfold fS; omega
    · omega
theorem sgn_cases (k : Nat) : sgn k = 1 ∨ sgn k = -1 := by
  unfold sgn; split
  · exact .inl rfl
  · exact .inr rfl
theorem restD_mnr : restD W p f = sumN (fun i => mnr (stL (agSet W p f) W.acts.length).length (flow W p (stL (agSet W p f) W.acts.length)) i * fS W p (stL (agSet W p f) W.acts.length) i) (stL (agSet W p f) W.acts.length).length := by
  unfold restD
  rw [dTo_sum]
  rfl
theorem rr_det (h : isPlanB W p = true) (ho : agOk W p f = true) (hf : f < W.acts.length) : detL (stL (agSet W p f) W.acts.length).length (rrMat W p (stL (agSet W p f) W.acts.length)) = sgn ((stL (agSet W p f) W.acts.length).length - 1) * restD W p f := by
  have hl := ag_len (W := W) (p := p) h hf
  rw [ref_det (flow_m h ho) (rr_refm h) hl.1 hl.2, restD_mnr]
theorem rr_col (h : isPlanB W p = true) (ho : agOk W p f = true) (hf : f < W.acts.length) {j : Nat} (hj : j < (stL (agSet W p f) W.acts.length).length) : detL (stL (agSet W p f) W.acts.length).length (colSet (rrMat W p (stL (agSet W p f) W.acts.length)) j (rrRt (stL (agSet W p f) W.acts.length).length)) = sgn ((stL (agSet W p f) W.acts.length).length - 1) * muR W p f (gN (stL (agSet W p f) W.acts.length) j) := by
  have hl := ag_len (W := W) (p := p) h hf
  rw [ref_col (flow_m h ho) (rr_refm h) hl.1 hl.2 (fun i hi => rrRt_at hi) hj]
  have hg := ix_gN hj
  unfold muR
  rw [if_pos hg.2.1, hg.2.2]
/-- What solve answers at j: how often the state comes, over the whole. -/
theorem rr_sol (h : isPlanB W p = true) (ho : agOk W p f = true) (hf : f < W.acts.length) {j : Nat} (hj : j < (stL (agSet W p f) W.acts.length).length) : fr (fracsL (colDs (stL (agSet W p f) W.acts.length).length (rrMat W p (stL (agSet W p f) W.acts.length)) (rrRt (stL (agSet W p f) W.acts.length).length)) (detL (stL (agSet W p f) W.acts.length).length (rrMat W p (stL (agSet W p f) W.acts.length)))) j = toFr ((muR W p f (gN (stL (agSet W p f) W.acts.length) j) : Rat) / (restD W p f : Rat)) := by
  rw [fracsL_at (by rw [colDs_len]; exact hj), colDs_at hj, rr_col h ho hf hj, rr_det h ho hf]
  congr 1
  have hD := (restD_bd h ho hf).1
  rcases sgn_cases ((stL (agSet W p f) W.acts.length).length - 1) with e | e
  · rw [e, Int.one_mul, Int.one_mul]
  · rw [e, Int.neg_mul, Int.neg_mul, Int.one_mul, Int.one_mul, Rat.intCast_neg, Rat.intCast_neg]
    have h0 : (restD W p f : Rat) ≠ 0 := by
      intro h2
      have : restD W p f = 0 := by exact_mod_cast h2
      omega
    generalize (restD W p f : Rat) = d at *
    generalize (muR W p f _ : Rat) = m
    grind
theorem rr_time (m S D : Int) : ((m : Rat) / (D : Rat)) * (S : Rat) = ((m * S : Int) : Rat) / (D : Rat) := by
  rw [Rat.intCast_mul]
  grind
/-- The answer, after i states. -/
def rrF (W : Wd) (p : List Int) (f i s : Nat) : Fr := if (agSet W p f).testBit s = true ∧ ix (agSet W p f) s < i then toFr ((nth (restN W p f) s : Rat) / (restD W p f : Rat)) else ⟨0, 1⟩
theorem rrF_zero {s : Nat} : rrF W p f 0 s = ⟨0, 1⟩ := by unfold rrF; rw [if_neg (by omega)]
theorem rrF_succ {i s : Nat} (hi : i < (stL (agSet W p f) W.acts.length).length) (hs : s < W.acts.length) : rrF W p f (i + 1) s = if s = gN (stL (agSet W p f) W.acts.length) i then toFr ((nth (restN W p f) s : Rat) / (restD W p f : Rat)) else rrF W p f i s := by
  have hg := ix_gN hi
  unfold rrF
  by_cases e : s = gN (stL (agSet W p f) W.acts.length) i
  · subst e
    rw [if_pos rfl, if_pos ⟨hg.2.1, by omega⟩]
  · rw [if_neg e]
    by_cases q : (agSet W p f).testBit s = true ∧ ix (agSet W p f) s < i
    · rw [if_pos q, if_pos ⟨q.1, by omega⟩]
    · rw [if_neg q, if_neg]
      rintro ⟨h1, h2⟩
      have h3 : ix (agSet W p f) s = i := by
        have : ¬ ix (agSet W p f) s < i := fun c => q ⟨h1, c⟩
        omega
      exact e (by rw [← h3]; exact (gN_ix _ hs h1).symm)
theorem rrF_end (h : isPlanB W p = true) (ho : agOk W p f = true) (hf : f < W.acts.length) {s : Nat} (hs : s < W.acts.length) : rrF W p f (stL (agSet W p f) W.acts.length).length s = fr (restF W p f) s := by
  unfold restF
  rw [fracsL_at (by unfold restN; rw [nTo_len]; exact hs)]
  unfold rrF
  by_cases hb : (agSet W p f).testBit s = true
  · rw [if_pos ⟨hb, ix_lt hs hb⟩]
  · rw [if_neg (fun c => hb c.1), (rest_bd h ho hf hs).2.2.2 (by simpa using hb)]
    simp [toFr, Rat.div_def]
end
/-! ### memory -/
/-- A right side's element is stored. -/
theorem WoSt.put {w : World} {lo : Nat} {mv : Value} {g k c : Nat} {M : List (List Int)} {r : List Int} (h : WoSt w lo mv (.slice (some ⟨g, 0, none⟩) k c) M r) (i : Nat) (z : Int) : WoSt (w.setCell ⟨g, i, none⟩ (.int .i64 z)) lo mv (.slice (some ⟨g, 0, none⟩) k c) M (r.set i z) := by
  obtain ⟨E, D, hT, hlo, hR, hsep⟩ := h
  have hne : ∀ b, mv.ownBlock = some b → b ≠ g := fun b hb e => by
    subst e
    exact ne_of_type hT.1.1 hR (by decide) hb rfl
  have hT2 := hT.keepB (w' := w.setCell ⟨g, i, none⟩ (.int .i64 z)) (fun b hb => Below.heap_setCell w ⟨g, i, none⟩ (.int .i64 z) b (hne b hb)) (fun j hj b hb => Below.heap_setCell w ⟨g, i, none⟩ (.int .i64 z) b (fun e => by subst e; exact hsep j hj _ rfl hb))
  refine ⟨E, D, by simpa using hT2, by simpa using hlo, ?_, hsep⟩
  obtain ⟨_, _, e⟩ := own_form hR
  injection e with _ e2 _
  subst e2
  have q := (hR.stored i (.int .i64 z)).1
  rw [← List.map_set] at q
  rw [List.length_set]
  exact q
/-- A row of m fractions, of which the first k are told. -/
def RgSt (w : World) (g m k : Nat) (F : Nat → Fr) : Prop :=
  ∃ cur : Array Value, w.heap[g]? = some (.cells cur 53 (0, 0)) ∧ 2 * m ≤ cur.size ∧ ∀ i, i < k → cur[2 * i]? = some (.int .i64 (F i).n) ∧ cur[2 * i + 1]? = some (.int .i64 (F i).d)
theorem RgSt.mono {w w' : World} {g m k : Nat} {F : Nat → Fr} (h : RgSt w g m k F) (hb : Below w.heap.size w w') : RgSt w' g m k F := by
  obtain ⟨cur, hg, h2⟩ := h
  exact ⟨cur, persist hg hb, h2⟩
theorem rg_made {w : World} {base g m : Nat} {xs : List Value} (F : Nat → Fr) (h : w.ownsRow base 53 2 (.slice (some ⟨g, 0, none⟩) m m) m xs) (hm : 0 < m) : RgSt w g m 0 F := by
  obtain ⟨g', e, h1, h2, h3, h4, h5, h6, cur, h7⟩ := own_cells h hm
  injection e with e
  injection e with e
  subst e
  have hl : xs.length = m * 2 := h.1
  refine ⟨cur, h7, ?_, fun i hi => by omega⟩
  have h8 := h5 (2 * m - 1) _ (List.getElem?_eq_getElem (by omega))
  rw [cells_at h7] at h8
  have := (Array.getElem?_eq_some_iff.1 h8).1
  omega
theorem RgSt.lt {w : World} {g m k : Nat} {F : Nat → Fr} (h : RgSt w g m k F) : g < w.heap.size := by
  obtain ⟨cur, hg, _⟩ := h
  exact lt_of_block hg
theorem RgSt.slot {w : World} {g m k : Nat} {F : Nat → Fr} (h : RgSt w g m k F) {i : Nat} (hi : i < m) : ∃ v1 v2, w.cell? ⟨g, i * 2, none⟩ = some v1 ∧ w.cell? ⟨g, i * 2 + 1, none⟩ = some v2 ∧ w.frozen? ⟨g, i * 2, none⟩ = false ∧ w.frozen? ⟨g, i * 2 + 1, none⟩ = false := by
  obtain ⟨cur, hg, hl, _⟩ := h
  exact ⟨_, _, by rw [cells_at hg, Array.getElem?_eq_getElem (by omega)], by rw [cells_at hg, Array.getElem?_eq_getElem (by omega)], free_at hg _, free_at hg _⟩
theorem RgSt.put {w : World} {g m k i : Nat} {F G : Nat → Fr} (h : RgSt w g m k F) (hi : i < m) (x : Fr) {k' : Nat} (hG : ∀ j, j < k' → G j = if j = i then x else F j) (hk : ∀ j, j < k' → j = i ∨ j < k) : RgSt ((w.setCell ⟨g, i * 2, none⟩ (.int .i64 x.n)).setCell ⟨g, i * 2 + 1, none⟩ (.int .i64 x.d)) g m k' G := by
  obtain ⟨cur, hg, hl, hv⟩ := h
  refine ⟨_, set_at (set_at hg _ _) _ _, by simpa using hl, fun j hj => ?_⟩
  rw [hG j hj]
  simp only [Array.getElem?_setIfInBounds, Array.size_setIfInBounds]
  by_cases hik : j = i
  · subst hik
    rw [if_pos rfl]
    refine ⟨?_, ?_⟩
    · rw [if_neg (by omega), if_pos (by omega), if_pos (by omega)]
    · rw [if_pos (by omega), if_pos (by omega)]
  · rw [if_neg hik]
    have := hv j ((hk j hj).resolve_left hik)
    refine ⟨?_, ?_⟩
    · rw [if_neg (by omega), if_neg (by omega)]; exact this.1
    · rw [if_neg (by omega), if_neg (by omega)]; exact this.2
theorem RgSt.sl {w : World} {g m : Nat} {F : List Fr} (h : RgSt w g m m (fr F)) (hF : F.length = m) (hm : m ≤ maxLen) : FrSl w (some ⟨g, 0, none⟩) m m F := by
  refine ⟨hF, Nat.le_refl _, hm, .inr (.inr ⟨g, 0, rfl, h.lt, fun i hi => ?_⟩)⟩
  obtain ⟨cur, hg, hl, hv⟩ := h
  have := hv i hi
  rw [show 0 + i * 2 = 2 * i by omega]
  exact ⟨by rw [cells_at hg]; exact this.1, by rw [cells_at hg]; exact this.2⟩
theorem RgSt.ext {w : World} {g m k : Nat} {F G : Nat → Fr} (h : RgSt w g m k F) (hG : ∀ j, j < k → G j = F j) : RgSt w g m k G := by
  obtain ⟨cur, hg, hl, hv⟩ := h
  exact ⟨cur, hg, hl, fun j hj => by rw [hG j hj]; exact hv j hj⟩
end Go.Proofs.Ytcmakddnjmeklaa

/- Chapter 9, the reference: Rest: its equations, made. -/
namespace Go.Proofs.Ytcmakddnjmeklaa
open Go.RowKit
set_option linter.unusedSimpArgs false

/-- Where the Odds of a plan's act lie. -/
theorem pod_cells {V : World} {x y : Option Addr} {n c m d s : Nat} {W : Wd} {p : List Int} (hA : A2Sl V x n c W.acts) (hp : Sl V y m d p) (hok : isPlanB W p = true) (hs : s < n) :
    ∃ b3 o3 b4 o4 b5 o5 m2 q2 t0 z q, x = some ⟨b3, o3, none⟩ ∧ y = some ⟨b5, o5, none⟩ ∧ b3 < V.heap.size ∧ b4 < V.heap.size ∧ b5 < V.heap.size ∧ V.cell? ⟨b3, o3 + s, none⟩ = some (.slice (some ⟨b4, o4, none⟩) m2 q2) ∧ t0 < m2 ∧ (m2 ≤ q2 ∧ q2 ≤ maxLen) ∧ V.cell? ⟨b5, o5 + s, none⟩ = some (.int .i64 (t0 : Int)) ∧ V.cell? ⟨b4, o4 + t0 * 2 + 1, none⟩ = some (.slice z n q) ∧ Sl V z n q (podds W p s) := by
  obtain ⟨_, hpl, hpa, ⟨hn1, hn4, _⟩, _⟩ := plan_parts hok
  have hnA := hA.1
  have hmp := hp.len
  obtain rfl : m = n := by omega
  have hsA : s < W.acts.length := by omega
  obtain ⟨hp0, hp1⟩ := hpa s hsA
  obtain ⟨_, _, hol, hor, _, _⟩ := vAc_at (vAc_pact hok hsA)
  obtain ⟨t0, ht0⟩ : ∃ t0 : Nat, nth p s = (t0 : Int) := ⟨(nth p s).toNat, by omega⟩
  have hX : pact W.acts p s = ac (acl W.acts s) t0 := by unfold pact; rw [ht0]; rfl
  have hPO : podds W p s = (ac (acl W.acts s) t0).o := by unfold podds; rw [hX]
  obtain ⟨b3, o3, rfl, hb3, hc3⟩ := hA.at (by omega)
  obtain ⟨a2, m2, q2, e2, h2⟩ := hc3 s hs
  have hl2 := h2.1
  have htm : t0 < m2 := by omega
  obtain ⟨b4, o4, rfl, hb4, hc4⟩ := h2.at (by omega)
  obtain ⟨eg, z, k, q, eo, hSl⟩ := hc4 t0 htm
  obtain ⟨b5, o5, rfl, hb5, hc5⟩ := hp.at (by omega)
  have e5 := hc5 s hs
  rw [ht0] at e5
  rw [← hPO] at hSl
  have hkm : m = k := by have := hSl.len; rw [hX, ← hPO] at hol; omega
  subst hkm
  exact ⟨b3, o3, b4, o4, b5, o5, m2, q2, t0, z, q, rfl, rfl, hb3, hb4, hb5, e2, htm, h2.2.cap, e5, eo, hSl⟩

set_option maxRecDepth 100000 in
set_option maxHeartbeats 4000000 in
theorem rr_col6 (V : World) (pw n c m d K lc u : Nat) (W : Wd) (x y la : Option Addr) (p : List Int) (L : List Nat) (hw : BoxR V pw W.a W.b x n c) (hA : A2Sl V x n c W.acts) (hp : Sl V y m d p) (hok : isPlanB W p = true) (hl : Sl V la K lc (natI L)) (hlK : L.length = K) (hL : ∀ i, i < K → gN L i < n) (hK : K ≤ 4) (hu : u < n) (R : Act → World → Prop)
    (c0 c2 c4 c5 c6 c7 c8 c9 c10 c11 c12 c13 c14 c15 c16 c17 c18 c19 c22 c23 c24 c25 c26 c27 c28 c29 c30 c31 c32 c33 c34 c35 c36 c37 c38 c39 c40 c41 c42 c43 c44 c45 c46 c47 c48 c49 c50 c51 c52 c53 c54 c55 c56 c57 c58 c59 c60 c61 c62 c63 c64 c65 c66 c67 c68 c69 c70 c71 c72 c73 c74 c75 c76 c77 c78 c79 c80 c81 c82 c83 c84 c85 c86 c87 c88 c89 c90 c91 c92 c93 c94 c95 c96 c97 c98 c99 c100 c101 c102 c103 c104 c105 c106 c110 c111 c112 c113 c114 c115 c116 c117 c118 c119 c120 c121 c122 c123 c124 c125 c126 c127 c128 c129 c130 c131 c132 c133 c134 c135 c136 c137 c138 c139 c140 c141 c142 c143 c144 c145 c146 c147 c148 c149 c150 c151 c152 c153 c154 c155 c156 c157 c158 c159 c160 c161 c162 c163 c164 c165 c166 c167 c168 c169 c170 c171 c172 c173 c174 c175 c176 c177 c178 c179 c180 c181 c182 c183 c184 c185 c186 c187 c188 c189 c190 c191 c192 c193 c194 c195 c196 c197 c198 c199 c200 c201 c202 c203 c204 c205 c206 c207 c208 c209 c210 c211 c212 c213 c214 c215 c216 c217 c218 c219 c220 c221 c222 c223 c224 c225 c226 c227 c228 c229 c230 c231 c232 c233 c234 c235 c236 c237 c238 c239 : Value)
    (hexit : ∀ (va : Option Addr) (vc : Nat), ∀ (u23 u109 u110 u111 u112 u113 u114 u115 u116 u117 u118 u119 u120 u121 u122 u123 u124 u125 u126 u127 u128 u129 u130 u131 : Value) (w' : World), w'.ownsRow V.heap.size 3 1 (.slice va K vc) K ((colF W p L u).map (Value.int .i64)) → Below V.heap.size V w' → R ⟨List.toArray (c0 :: .slice y m d :: c2 :: .pointer (some ⟨pw, 0, none⟩) :: c4 :: c5 :: c6 :: c7 :: c8 :: c9 :: c10 :: c11 :: c12 :: c13 :: c14 :: c15 :: c16 :: c17 :: c18 :: c19 :: .int .i64 u :: .slice va K vc :: c22 :: u23 :: c24 :: c25 :: c26 :: c27 :: c28 :: c29 :: c30 :: c31 :: c32 :: c33 :: c34 :: c35 :: c36 :: c37 :: c38 :: c39 :: c40 :: c41 :: c42 :: c43 :: c44 :: c45 :: c46 :: c47 :: c48 :: c49 :: c50 :: c51 :: c52 :: c53 :: c54 :: c55 :: c56 :: c57 :: c58 :: c59 :: c60 :: c61 :: c62 :: c63 :: c64 :: c65 :: c66 :: c67 :: c68 :: c69 :: c70 :: c71 :: c72 :: c73 :: c74 :: c75 :: c76 :: c77 :: c78 :: c79 :: c80 :: c81 :: c82 :: c83 :: c84 :: c85 :: c86 :: c87 :: c88 :: c89 :: c90 :: c91 :: c92 :: c93 :: c94 :: c95 :: c96 :: c97 :: c98 :: c99 :: c100 :: c101 :: c102 :: c103 :: c104 :: c105 :: c106 :: .slice la K lc :: .int .i64 K :: u109 :: u110 :: u111 :: u112 :: u113 :: u114 :: u115 :: u116 :: u117 :: u118 :: u119 :: u120 :: u121 :: u122 :: u123 :: u124 :: u125 :: u126 :: u127 :: u128 :: u129 :: u130 :: u131 :: c132 :: c133 :: c134 :: c135 :: c136 :: c137 :: c138 :: c139 :: c140 :: c141 :: c142 :: c143 :: c144 :: c145 :: c146 :: c147 :: c148 :: c149 :: c150 :: c151 :: c152 :: c153 :: c154 :: c155 :: c156 :: c157 :: c158 :: c159 :: c160 :: c161 :: c162 :: c163 :: c164 :: c165 :: c166 :: c167 :: c168 :: c169 :: c170 :: c171 :: c172 :: c173 :: c174 :: c175 :: c176 :: c177 :: c178 :: c179 :: c180 :: c181 :: c182 :: c183 :: c184 :: c185 :: c186 :: c187 :: c188 :: c189 :: c190 :: c191 :: c192 :: c193 :: c194 :: c195 :: c196 :: c197 :: c198 :: c199 :: c200 :: c201 :: c202 :: c203 :: c204 :: c205 :: c206 :: c207 :: c208 :: c209 :: c210 :: c211 :: c212 :: c213 :: c214 :: c215 :: c216 :: c217 :: c218 :: c219 :: c220 :: c221 :: c222 :: c223 :: c224 :: c225 :: c226 :: c227 :: c228 :: c229 :: c230 :: c231 :: c232 :: c233 :: c234 :: c235 :: c236 :: c237 :: c238 :: c239 :: []), []⟩ w') :
    Code.wp Try.prog (Code.loop (rrBody 5)) (OnExit 10 R) ⟨List.toArray (c0 :: .slice y m d :: c2 :: .pointer (some ⟨pw, 0, none⟩) :: c4 :: c5 :: c6 :: c7 :: c8 :: c9 :: c10 :: c11 :: c12 :: c13 :: c14 :: c15 :: c16 :: c17 :: c18 :: c19 :: .int .i64 u :: .slice none 0 0 :: c22 :: c23 :: c24 :: c25 :: c26 :: c27 :: c28 :: c29 :: c30 :: c31 :: c32 :: c33 :: c34 :: c35 :: c36 :: c37 :: c38 :: c39 :: c40 :: c41 :: c42 :: c43 :: c44 :: c45 :: c46 :: c47 :: c48 :: c49 :: c50 :: c51 :: c52 :: c53 :: c54 :: c55 :: c56 :: c57 :: c58 :: c59 :: c60 :: c61 :: c62 :: c63 :: c64 :: c65 :: c66 :: c67 :: c68 :: c69 :: c70 :: c71 :: c72 :: c73 :: c74 :: c75 :: c76 :: c77 :: c78 :: c79 :: c80 :: c81 :: c82 :: c83 :: c84 :: c85 :: c86 :: c87 :: c88 :: c89 :: c90 :: c91 :: c92 :: c93 :: c94 :: c95 :: c96 :: c97 :: c98 :: c99 :: c100 :: c101 :: c102 :: c103 :: c104 :: c105 :: c106 :: .slice la K lc :: .int .i64 K :: .int .i64 0 :: c110 :: c111 :: c112 :: c113 :: c114 :: c115 :: c116 :: c117 :: c118 :: c119 :: c120 :: c121 :: c122 :: c123 :: c124 :: c125 :: c126 :: c127 :: c128 :: c129 :: c130 :: c131 :: c132 :: c133 :: c134 :: c135 :: c136 :: c137 :: c138 :: c139 :: c140 :: c141 :: c142 :: c143 :: c144 :: c145 :: c146 :: c147 :: c148 :: c149 :: c150 :: c151 :: c152 :: c153 :: c154 :: c155 :: c156 :: c157 :: c158 :: c159 :: c160 :: c161 :: c162 :: c163 :: c164 :: c165 :: c166 :: c167 :: c168 :: c169 :: c170 :: c171 :: c172 :: c173 :: c174 :: c175 :: c176 :: c177 :: c178 :: c179 :: c180 :: c181 :: c182 :: c183 :: c184 :: c185 :: c186 :: c187 :: c188 :: c189 :: c190 :: c191 :: c192 :: c193 :: c194 :: c195 :: c196 :: c197 :: c198 :: c199 :: c200 :: c201 :: c202 :: c203 :: c204 :: c205 :: c206 :: c207 :: c208 :: c209 :: c210 :: c211 :: c212 :: c213 :: c214 :: c215 :: c216 :: c217 :: c218 :: c219 :: c220 :: c221 :: c222 :: c223 :: c224 :: c225 :: c226 :: c227 :: c228 :: c229 :: c230 :: c231 :: c232 :: c233 :: c234 :: c235 :: c236 :: c237 :: c238 :: c239 :: []), []⟩ V := by
  conv => arg 2; arg 1; whnf
  obtain ⟨_, hpl, _, ⟨hn1, hn4, _⟩, _⟩ := plan_parts hok
  have hnA := hA.1
  have hmp := hp.len
  have hlcap := hl.cap
  unfold maxLen at hlcap
  obtain rfl : m = n := by omega
  have HNA := Lib.hid hnA
  have HLK := Lib.hid hlK
  have HLN := Lib.hid hL
  have hm4 : m ≤ 4 := by omega
  have HOK := Lib.hid hok
  have HA := Lib.hid hA
  have HP := Lib.hid hp
  have HW := Lib.hid hw
  have HL := Lib.hid hl
  clear hA hp hw hl hok hpl hnA hmp hn1 hn4 hL hlK
  go_loopw [21, 109] (fun v t2 wr => ∃ j : Nat, j ≤ K ∧ t2 = .int .i64 j ∧ Hid (wr.ownsRow V.heap.size 3 1 v j (((colF W p L u).take j).map (Value.int .i64))) ∧ Hid (Below V.heap.size V wr)) (fun _ t2 _ => K - (intOf t2).toNat)
  case atStart => exact ⟨0, by omega, rfl, Lib.hid (World.ownsRow_nil _ _ _ _), Lib.hid (Below.refl _ _)⟩
  case round =>
    obtain ⟨j, hj, rfl, HO, HB⟩ := hrel
    obtain ⟨va, vc, rfl⟩ := own_form HO.out
    by_cases hlj : j < K
    · obtain ⟨t, ht⟩ : ∃ t, gN L j = t := ⟨_, rfl⟩
      have htm := HLN.out j hlj
      rw [ht] at htm
      obtain ⟨b0, o0, rfl, hb0, hc0⟩ := HL.out.at (by omega)
      have e0 := hc0 j hlj
      rw [natI_at, ht, ← (bcell HB.out).1 _ _ hb0] at e0
      have HF := Lib.hid (show (colF W p L u).take (j + 1) = (colF W p L u).take j ++ [nth (podds W p t) u] by
        rw [take_nth (by rw [colF_len, HLK.out]; exact hlj), colF_at (by rw [HLK.out]; exact hlj), ht])
      obtain ⟨b3, o3, b4, o4, b5, o5, m2, q2, t0, z, q, rfl, rfl, hb3, hb4, hb5, e2, htm2, hcq, e5, eo, hSl⟩ := pod_cells HA.out HP.out HOK.out htm
      unfold maxLen at hcq
      rw [← (bcell HB.out).1 _ _ hb3] at e2
      rw [← (bcell HB.out).1 _ _ hb4] at eo
      rw [← (bcell HB.out).1 _ _ hb5] at e5
      have hzc := hSl.cap
      unfold maxLen at hzc
      obtain ⟨b1, o1, rfl, hb1V, hc1⟩ := hSl.at (by omega)
      have e1 := hc1 u hu
      rw [← (bcell HB.out).1 _ _ hb1V] at e1
      obtain ⟨z0, z1, z2, z3⟩ := BoxR.cells (persist HW.out HB.out)
      have hy := podds_le HOK.out (s := t) (k := u) (by rw [HNA.out]; exact htm) (by rw [HNA.out]; exact hu)
      generalize nth (podds W p t) u = yy at *
      have hown := ((HO.out.alloc (.cells #[.int .i64 yy] 3)).drew)
      have hwz := HB.out.size
      have E2 := Lib.hid e2
      have E5 := Lib.hid e5
      have EO := Lib.hid eo
      have E1 := Lib.hid e1
      have Z3 := Lib.hid z3
      have HNW := Lib.hid (show (wr.alloc (.cells #[.int .i64 yy] 3)).drew.heap[wr.heap.size]? = some (.cells #[.int .i64 yy] 3 (0, 0)) from new_at wr _)
      have HHO := Lib.hid HO.out
      have HSX := Lib.hid (fun (w' : World) (hg : (wr.alloc (.cells #[.int .i64 yy] 3)).drew.grownBy w' (Value.slice va j vc).ownBlock) =>
        (show w'.cell? ⟨pw, 2, none⟩ = some (.slice (some ⟨b3, o3, none⟩) m c) ∧ w'.cell? ⟨b3, o3 + t, none⟩ = some (.slice (some ⟨b4, o4, none⟩) m2 q2) ∧ w'.cell? ⟨b5, o5 + t, none⟩ = some (.int .i64 (t0 : Int)) ∧ w'.cell? ⟨b4, o4 + t0 * 2 + 1, none⟩ = some (.slice (some ⟨b1, o1, none⟩) m q) ∧ w'.cell? ⟨b1, o1 + u, none⟩ = some (.int .i64 yy) from
          have hk : ∀ b i, b < V.heap.size → w'.cell? ⟨b, i, none⟩ = V.cell? ⟨b, i, none⟩ := fun b i hb => (bcell ((bal HB.out (.cells #[.int .i64 yy] 3)).drew.grown hg (by simp; omega) (fun j hj => (HHO.out.lt j hj).1))).1 b i hb
          have hw0 : ∀ b i, b < V.heap.size → wr.cell? ⟨b, i, none⟩ = V.cell? ⟨b, i, none⟩ := fun b i hb => (bcell HB.out).1 b i hb
          have hpw := (BoxR.cells HW.out).1
          ⟨(hk _ _ hpw).trans ((hw0 _ _ hpw).symm.trans Z3.out), (hk _ _ hb3).trans ((hw0 _ _ hb3).symm.trans E2.out), (hk _ _ hb5).trans ((hw0 _ _ hb5).symm.trans E5.out), (hk _ _ hb4).trans ((hw0 _ _ hb4).symm.trans EO.out), (hk _ _ hb1V).trans ((hw0 _ _ hb1V).symm.trans E1.out)⟩))
      clear hc0 hc1 hSl ht
      go_wp2
      go_region_held3 (fun w' => w'.cell? ⟨pw, 2, none⟩ = some (.slice (some ⟨b3, o3, none⟩) m c) ∧ w'.cell? ⟨b3, o3 + t, none⟩ = some (.slice (some ⟨b4, o4, none⟩) m2 q2) ∧ w'.cell? ⟨b5, o5 + t, none⟩ = some (.int .i64 (t0 : Int)) ∧ w'.cell? ⟨b4, o4 + t0 * 2 + 1, none⟩ = some (.slice (some ⟨b1, o1, none⟩) m q) ∧ w'.cell? ⟨b1, o1 + u, none⟩ = some (.int .i64 yy)) (first | exact HSX.out _ hgrow | go_keep) ((refine step_app1 rfl _ _ 26 rfl Try.underlying26 infoInt rfl (by decide) V.heap.size (.slice va j vc) j _ rfl hown wr.heap.size #[.int .i64 yy] rfl HNW.out rfl (by simp [Value.oneCell']) (by omega) (by omega) (by simp; omega) ?_; intro v' wn hown' hgrow; obtain ⟨wa, wc, rfl⟩ := own_form hown'))
      have HO2 := Lib.hid (show wn.ownsRow V.heap.size 3 1 (.slice wa (j + 1) wc) (j + 1) (((colF W p L u).take (j + 1)).map (Value.int .i64)) by rw [HF.out, List.map_append]; exact hown')
      have HBN := Lib.hid ((bal HB.out (.cells #[.int .i64 yy] 3)).drew.grown hgrow (by simp; omega) (fun i hi => (HHO.out.lt i hi).1))
      clear hown hown' hgrow e0 e1 e2 e5 eo z0 z1 z2 z3
      go_wp2
      go_roundw
      case rel => go_light; exact ⟨j + 1, by omega, by go_num, HO2, HBN⟩
      case measure => simp [intOf]; omega
    · obtain rfl : j = K := by omega
      have hO := HO.out
      rw [List.take_of_length_le (by rw [colF_len, HLK.out]; exact Nat.le_refl _)] at hO
      have HO2 := Lib.hid hO
      clear hO
      go_wp2
      exact ⟨rfl, hexit va vc _ _ _ _ _ _ _ _ _ _ _ _ _ _ _ _ _ _ _ _ _ _ _ _ _ HO2.out HB.out⟩

set_option maxRecDepth 100000 in
set_option maxHeartbeats 4000000 in
theorem rr_sums7 (V V1 : World) (pw n c m d K lc g vc : Nat) (B : List Int) (W : Wd) (x y la : Option Addr) (p : List Int) (L : List Nat) (hw : BoxR V pw W.a W.b x n c) (hA : A2Sl V x n c W.acts) (hp : Sl V y m d p) (hok : isPlanB W p = true) (hl : Sl V la K lc (natI L)) (hlK : L.length = K) (hL : ∀ i, i < K → gN L i < n) (hK : K ≤ 4) (hB : Below V.heap.size V V1) (hBl : B.length = K) (hrow : V1.ownsRow V.heap.size 3 1 (.slice (some ⟨g, 0, none⟩) K vc) K (B.map (Value.int .i64))) (R : Act → World → Prop)
    (c0 c2 c4 c5 c6 c7 c8 c9 c10 c11 c12 c13 c14 c15 c16 c17 c18 c19 c20 c22 c23 c24 c25 c26 c27 c28 c29 c30 c31 c32 c33 c34 c35 c36 c37 c38 c39 c40 c41 c42 c43 c44 c45 c46 c47 c48 c49 c50 c51 c52 c53 c54 c55 c56 c57 c58 c59 c60 c61 c62 c63 c64 c65 c66 c67 c68 c69 c70 c71 c72 c73 c74 c75 c76 c77 c78 c79 c80 c81 c82 c83 c84 c85 c86 c87 c88 c89 c90 c91 c92 c93 c94 c95 c96 c97 c98 c99 c100 c101 c102 c103 c104 c105 c106 c107 c108 c109 c110 c111 c112 c113 c114 c115 c116 c117 c118 c119 c120 c121 c122 c123 c124 c125 c126 c127 c128 c129 c130 c131 c132 c133 c134 c135 c136 c137 c138 c139 c140 c141 c142 c143 c144 c145 c146 c147 c148 c149 c150 c151 c152 c153 c154 c155 c159 c160 c161 c162 c163 c164 c165 c166 c167 c168 c169 c170 c171 c172 c173 c174 c175 c176 c177 c178 c179 c180 c181 c182 c183 c184 c185 c186 c187 c188 c189 c190 c191 c192 c193 c194 c195 c196 c197 c198 c199 c200 c201 c202 c203 c204 c205 c206 c207 c208 c209 c210 c211 c212 c213 c214 c215 c216 c217 c218 c219 c220 c221 c222 c223 c224 c225 c226 c227 c228 c229 c230 c231 c232 c233 c234 c235 c236 c237 c238 c239 : Value)
    (hexit : ∀ (u24 u25 u158 u159 u160 u161 u162 u163 u164 u165 u166 u167 u168 u169 u170 u171 u172 u173 u174 u175 u176 u177 u178 u179 : Value) (w' : World), w'.ownsRow V.heap.size 3 1 (.slice (some ⟨g, 0, none⟩) K vc) K ((sumF W p L).map (Value.int .i64)) → Below V.heap.size V w' → R ⟨List.toArray (c0 :: .slice y m d :: c2 :: .pointer (some ⟨pw, 0, none⟩) :: c4 :: c5 :: c6 :: c7 :: c8 :: c9 :: c10 :: c11 :: c12 :: c13 :: c14 :: c15 :: c16 :: c17 :: c18 :: c19 :: c20 :: .slice (some ⟨g, 0, none⟩) K vc :: c22 :: c23 :: u24 :: u25 :: c26 :: c27 :: c28 :: c29 :: c30 :: c31 :: c32 :: c33 :: c34 :: c35 :: c36 :: c37 :: c38 :: c39 :: c40 :: c41 :: c42 :: c43 :: c44 :: c45 :: c46 :: c47 :: c48 :: c49 :: c50 :: c51 :: c52 :: c53 :: c54 :: c55 :: c56 :: c57 :: c58 :: c59 :: c60 :: c61 :: c62 :: c63 :: c64 :: c65 :: c66 :: c67 :: c68 :: c69 :: c70 :: c71 :: c72 :: c73 :: c74 :: c75 :: c76 :: c77 :: c78 :: c79 :: c80 :: c81 :: c82 :: c83 :: c84 :: c85 :: c86 :: c87 :: c88 :: c89 :: c90 :: c91 :: c92 :: c93 :: c94 :: c95 :: c96 :: c97 :: c98 :: c99 :: c100 :: c101 :: c102 :: c103 :: c104 :: c105 :: c106 :: c107 :: c108 :: c109 :: c110 :: c111 :: c112 :: c113 :: c114 :: c115 :: c116 :: c117 :: c118 :: c119 :: c120 :: c121 :: c122 :: c123 :: c124 :: c125 :: c126 :: c127 :: c128 :: c129 :: c130 :: c131 :: c132 :: c133 :: c134 :: c135 :: c136 :: c137 :: c138 :: c139 :: c140 :: c141 :: c142 :: c143 :: c144 :: c145 :: c146 :: c147 :: c148 :: c149 :: c150 :: c151 :: c152 :: c153 :: c154 :: c155 :: .slice la K lc :: .int .i64 K :: u158 :: u159 :: u160 :: u161 :: u162 :: u163 :: u164 :: u165 :: u166 :: u167 :: u168 :: u169 :: u170 :: u171 :: u172 :: u173 :: u174 :: u175 :: u176 :: u177 :: u178 :: u179 :: c180 :: c181 :: c182 :: c183 :: c184 :: c185 :: c186 :: c187 :: c188 :: c189 :: c190 :: c191 :: c192 :: c193 :: c194 :: c195 :: c196 :: c197 :: c198 :: c199 :: c200 :: c201 :: c202 :: c203 :: c204 :: c205 :: c206 :: c207 :: c208 :: c209 :: c210 :: c211 :: c212 :: c213 :: c214 :: c215 :: c216 :: c217 :: c218 :: c219 :: c220 :: c221 :: c222 :: c223 :: c224 :: c225 :: c226 :: c227 :: c228 :: c229 :: c230 :: c231 :: c232 :: c233 :: c234 :: c235 :: c236 :: c237 :: c238 :: c239 :: []), []⟩ w') :
    Code.wp Try.prog (Code.loop (rrBody 6)) (OnExit 12 R) ⟨List.toArray (c0 :: .slice y m d :: c2 :: .pointer (some ⟨pw, 0, none⟩) :: c4 :: c5 :: c6 :: c7 :: c8 :: c9 :: c10 :: c11 :: c12 :: c13 :: c14 :: c15 :: c16 :: c17 :: c18 :: c19 :: c20 :: .slice (some ⟨g, 0, none⟩) K vc :: c22 :: c23 :: c24 :: c25 :: c26 :: c27 :: c28 :: c29 :: c30 :: c31 :: c32 :: c33 :: c34 :: c35 :: c36 :: c37 :: c38 :: c39 :: c40 :: c41 :: c42 :: c43 :: c44 :: c45 :: c46 :: c47 :: c48 :: c49 :: c50 :: c51 :: c52 :: c53 :: c54 :: c55 :: c56 :: c57 :: c58 :: c59 :: c60 :: c61 :: c62 :: c63 :: c64 :: c65 :: c66 :: c67 :: c68 :: c69 :: c70 :: c71 :: c72 :: c73 :: c74 :: c75 :: c76 :: c77 :: c78 :: c79 :: c80 :: c81 :: c82 :: c83 :: c84 :: c85 :: c86 :: c87 :: c88 :: c89 :: c90 :: c91 :: c92 :: c93 :: c94 :: c95 :: c96 :: c97 :: c98 :: c99 :: c100 :: c101 :: c102 :: c103 :: c104 :: c105 :: c106 :: c107 :: c108 :: c109 :: c110 :: c111 :: c112 :: c113 :: c114 :: c115 :: c116 :: c117 :: c118 :: c119 :: c120 :: c121 :: c122 :: c123 :: c124 :: c125 :: c126 :: c127 :: c128 :: c129 :: c130 :: c131 :: c132 :: c133 :: c134 :: c135 :: c136 :: c137 :: c138 :: c139 :: c140 :: c141 :: c142 :: c143 :: c144 :: c145 :: c146 :: c147 :: c148 :: c149 :: c150 :: c151 :: c152 :: c153 :: c154 :: c155 :: .slice la K lc :: .int .i64 K :: .int .i64 0 :: c159 :: c160 :: c161 :: c162 :: c163 :: c164 :: c165 :: c166 :: c167 :: c168 :: c169 :: c170 :: c171 :: c172 :: c173 :: c174 :: c175 :: c176 :: c177 :: c178 :: c179 :: c180 :: c181 :: c182 :: c183 :: c184 :: c185 :: c186 :: c187 :: c188 :: c189 :: c190 :: c191 :: c192 :: c193 :: c194 :: c195 :: c196 :: c197 :: c198 :: c199 :: c200 :: c201 :: c202 :: c203 :: c204 :: c205 :: c206 :: c207 :: c208 :: c209 :: c210 :: c211 :: c212 :: c213 :: c214 :: c215 :: c216 :: c217 :: c218 :: c219 :: c220 :: c221 :: c222 :: c223 :: c224 :: c225 :: c226 :: c227 :: c228 :: c229 :: c230 :: c231 :: c232 :: c233 :: c234 :: c235 :: c236 :: c237 :: c238 :: c239 :: []), []⟩ V1 := by
  conv => arg 2; arg 1; whnf
  obtain ⟨_, hpl, _, ⟨hn1, hn4, _⟩, _⟩ := plan_parts hok
  have hnA := hA.1
  have hmp := hp.len
  have hlcap := hl.cap
  unfold maxLen at hlcap
  obtain rfl : m = n := by omega
  have HNA := Lib.hid hnA
  have HLK := Lib.hid hlK
  have HLN := Lib.hid hL
  have hm4 : m ≤ 4 := by omega
  have HOK := Lib.hid hok
  have HA := Lib.hid hA
  have HP := Lib.hid hp
  have HW := Lib.hid hw
  have HL := Lib.hid hl
  have HBL := Lib.hid (show (sumF W p L).length = B.length by rw [sumF_len, hBl]; exact hlK)
  have HBK := Lib.hid hBl
  have HB0 := Lib.hid hB
  have HR0 := Lib.hid (show V1.ownsRow V.heap.size 3 1 (.slice (some ⟨g, 0, none⟩) K vc) K ((mixR (sumF W p L) B 0).map (Value.int .i64)) by rw [mixR_zero]; exact hrow)
  clear hA hp hw hl hok hpl hnA hmp hn1 hn4 hL hlK hB hBl hrow
  go_loopw [158] (fun t2 wr => ∃ k : Nat, k ≤ K ∧ t2 = .int .i64 k ∧ Hid (wr.ownsRow V.heap.size 3 1 (.slice (some ⟨g, 0, none⟩) K vc) K ((mixR (sumF W p L) B k).map (Value.int .i64))) ∧ Hid (Below V.heap.size V wr)) (fun t2 _ => K - (intOf t2).toNat)
  case atStart => exact ⟨0, by omega, rfl, HR0, HB0⟩
  case round =>
    clear HB0 HR0
    obtain ⟨k, hk, rfl, HO, HB⟩ := hrel
    by_cases hlk : k < K
    · obtain ⟨t, ht⟩ : ∃ t, gN L k = t := ⟨_, rfl⟩
      have htm := HLN.out k hlk
      rw [ht] at htm
      obtain ⟨b0, o0, rfl, hb0, hc0⟩ := HL.out.at (by omega)
      have e0 := hc0 k hlk
      rw [natI_at, ht, ← (bcell HB.out).1 _ _ hb0] at e0
      have HF := Lib.hid (show (mixR (sumF W p L) B k).set k (isum (podds W p t)) = mixR (sumF W p L) B (k + 1) by
        rw [← mixR_succ HBL.out (by rw [HBK.out]; exact hlk), sumF_at (by rw [HLK.out]; exact hlk)]
        unfold fS; rw [ht])
      obtain ⟨b3, o3, b4, o4, b5, o5, m2, q2, t0, z, q, rfl, rfl, hb3, hb4, hb5, e2, htm2, hcq, e5, eo, hSl⟩ := pod_cells HA.out HP.out HOK.out htm
      unfold maxLen at hcq
      rw [← (bcell HB.out).1 _ _ hb3] at e2
      rw [← (bcell HB.out).1 _ _ hb4] at eo
      rw [← (bcell HB.out).1 _ _ hb5] at e5
      have hzc := hSl.cap
      unfold maxLen at hzc
      have HSO := Lib.hid (hSl.mono HB.out.drew)
      have E2 := Lib.hid e2
      have E5 := Lib.hid e5
      have EO := Lib.hid eo
      have HSX := Lib.hid (fun (w' : World) (hb : Below V.heap.size V w') =>
        (show w'.cell? ⟨pw, 2, none⟩ = some (.slice (some ⟨b3, o3, none⟩) m c) ∧ w'.cell? ⟨b3, o3 + t, none⟩ = some (.slice (some ⟨b4, o4, none⟩) m2 q2) ∧ w'.cell? ⟨b5, o5 + t, none⟩ = some (.int .i64 (t0 : Int)) ∧ w'.cell? ⟨b4, o4 + t0 * 2 + 1, none⟩ = some (.slice z m q) from
          have hw0 : ∀ b i, b < V.heap.size → w'.cell? ⟨b, i, none⟩ = wr.cell? ⟨b, i, none⟩ := fun b i hlt => ((bcell hb).1 b i hlt).trans ((bcell HB.out).1 b i hlt).symm
          ⟨(BoxR.cells (persist HW.out hb)).2.2.2, (hw0 _ _ hb3).trans E2.out, (hw0 _ _ hb5).trans E5.out, (hw0 _ _ hb4).trans EO.out⟩))
      have HOR := Lib.hid (show ∀ y ∈ podds W p t, 0 ≤ y ∧ y ≤ 3 from (vAc_at (vAc_pact HOK.out (s := t) (by rw [HNA.out]; exact htm))).2.2.2.1)
      have hown := HO.out
      obtain ⟨q1, q2', q3, q4, q5, q6, cur, q7⟩ := own_at hown (by omega)
      have e6 : wr.drew.cell? ⟨g, k, none⟩ = _ := q3 k hlk
      have e7 : wr.drew.frozen? ⟨g, k, none⟩ = _ := q4 k
      unfold maxLen at q6
      obtain ⟨S, hS⟩ : ∃ S, isum (podds W p t) = S := ⟨_, rfl⟩
      have HSS := Lib.hid hS
      rw [hS] at HF
      have HO2 := Lib.hid (show (wr.drew.setCell ⟨g, k, none⟩ (.int .i64 S)).ownsRow V.heap.size 3 1 (.slice (some ⟨g, 0, none⟩) K vc) K ((mixR (sumF W p L) B (k + 1)).map (Value.int .i64)) by
        have q := (hown.drew.stored k (.int .i64 S)).1
        rw [← List.map_set, HF.out] at q
        exact q)
      have HBN := Lib.hid (HB.out.drew.setCell (p := ⟨g, k, none⟩) (show V.heap.size ≤ g from q1) (.int .i64 S))
      obtain ⟨r1, r2, r3, r4⟩ := HSX.out _ HB.out.drew
      clear hc0 hSl ht hS q3 q4 q7 e2 e5 eo
      go_wp2
      go_region_held3 (fun w' => w'.cell? ⟨pw, 2, none⟩ = some (.slice (some ⟨b3, o3, none⟩) m c) ∧ w'.cell? ⟨b3, o3 + t, none⟩ = some (.slice (some ⟨b4, o4, none⟩) m2 q2) ∧ w'.cell? ⟨b5, o5 + t, none⟩ = some (.int .i64 (t0 : Int)) ∧ w'.cell? ⟨b4, o4 + t0 * 2 + 1, none⟩ = some (.slice z m q)) (first | exact HSX.out _ HB.out.drew | exact HSX.out _ HBN.out | go_keep)
        (first
          | ((with_reducible refine (rsum_go _ z m q (podds W p t) HSO.out (by omega) HOR.out).mono ?_); rintro e w' ⟨rfl, rfl⟩; rw [HSS.out]))
      clear e0 e6 e7 r1 r2 r3 r4
      go_wp2
      go_roundw
      case rel => go_light; exact ⟨k + 1, by omega, by go_num, HO2, HBN⟩
      case measure => simp [intOf]; omega
    · obtain rfl : k = K := by omega
      have hO := HO.out
      rw [show mixR (sumF W p L) B k = sumF W p L by have h := mixR_end HBL.out; rw [HBK.out] at h; exact h] at hO
      have HO2 := Lib.hid hO
      clear hO
      go_wp2
      exact ⟨rfl, hexit _ _ _ _ _ _ _ _ _ _ _ _ _ _ _ _ _ _ _ _ _ _ _ _ _ HO2.out HB.out⟩

set_option maxRecDepth 100000 in
set_option maxHeartbeats 4000000 in
theorem rr_rows5 (V : World) (pw n c m d K lc : Nat) (W : Wd) (x y la : Option Addr) (p : List Int) (L : List Nat) (hw : BoxR V pw W.a W.b x n c) (hA : A2Sl V x n c W.acts) (hp : Sl V y m d p) (hok : isPlanB W p = true) (hl : Sl V la K lc (natI L)) (hlK : L.length = K) (hL : ∀ i, i < K → gN L i < n) (hK : K ≤ 4) (R : Act → World → Prop)
    (c0 c2 c4 c5 c6 c7 c8 c10 c11 c12 c13 c14 c15 c16 c19 c20 c21 c22 c23 c24 c25 c26 c27 c28 c29 c30 c31 c32 c33 c34 c35 c36 c37 c38 c39 c40 c41 c42 c43 c44 c45 c46 c47 c48 c49 c50 c51 c52 c53 c54 c55 c56 c57 c58 c59 c60 c61 c62 c63 c64 c65 c66 c67 c68 c69 c70 c71 c72 c73 c74 c75 c76 c77 c78 c79 c80 c81 c82 c83 c84 c85 c86 c87 c88 c89 c90 c91 c92 c93 c94 c95 c96 c97 c98 c99 c103 c104 c105 c106 c107 c108 c109 c110 c111 c112 c113 c114 c115 c116 c117 c118 c119 c120 c121 c122 c123 c124 c125 c126 c127 c128 c129 c130 c131 c132 c133 c134 c135 c136 c137 c138 c139 c140 c141 c142 c143 c144 c145 c146 c147 c148 c149 c150 c151 c152 c153 c154 c155 c156 c157 c158 c159 c160 c161 c162 c163 c164 c165 c166 c167 c168 c169 c170 c171 c172 c173 c174 c175 c176 c177 c178 c179 c180 c181 c182 c183 c184 c185 c186 c187 c188 c189 c190 c191 c192 c193 c194 c195 c196 c197 c198 c199 c200 c201 c202 c203 c204 c205 c206 c207 c208 c209 c210 c211 c212 c213 c214 c215 c216 c217 c218 c219 c220 c221 c222 c223 c224 c225 c226 c227 c228 c229 c230 c231 c232 c233 c234 c235 c236 c237 c238 c239 : Value)
    (hexit : ∀ (mv rv : Value), ∀ (u19 u20 u21 u23 u24 u25 u102 u103 u104 u105 u106 u107 u108 u109 u110 u111 u112 u113 u114 u115 u116 u117 u118 u119 u120 u121 u122 u123 u124 u125 u126 u127 u128 u129 u130 u131 u132 u133 u134 u135 u136 u137 u138 u139 u140 u141 u142 u143 u144 u145 u146 u147 u148 u149 u150 u151 u152 u153 u154 u155 u156 u157 u158 u159 u160 u161 u162 u163 u164 u165 u166 u167 u168 u169 u170 u171 u172 u173 u174 u175 u176 u177 u178 u179 u180 u181 u182 u183 u184 u185 u186 u187 : Value) (w' : World), WoSt w' V.heap.size mv rv (rrMat W p L) (List.replicate K 0) → Below V.heap.size V w' → R ⟨List.toArray (c0 :: .slice y m d :: c2 :: .pointer (some ⟨pw, 0, none⟩) :: c4 :: c5 :: c6 :: c7 :: c8 :: .slice la K lc :: c10 :: c11 :: c12 :: c13 :: c14 :: c15 :: c16 :: mv :: rv :: u19 :: u20 :: u21 :: c22 :: u23 :: u24 :: u25 :: c26 :: c27 :: c28 :: c29 :: c30 :: c31 :: c32 :: c33 :: c34 :: c35 :: c36 :: c37 :: c38 :: c39 :: c40 :: c41 :: c42 :: c43 :: c44 :: c45 :: c46 :: c47 :: c48 :: c49 :: c50 :: c51 :: c52 :: c53 :: c54 :: c55 :: c56 :: c57 :: c58 :: c59 :: c60 :: c61 :: c62 :: c63 :: c64 :: c65 :: c66 :: c67 :: c68 :: c69 :: c70 :: c71 :: c72 :: c73 :: c74 :: c75 :: c76 :: c77 :: c78 :: c79 :: c80 :: c81 :: c82 :: c83 :: c84 :: c85 :: c86 :: c87 :: c88 :: c89 :: c90 :: c91 :: c92 :: c93 :: c94 :: c95 :: c96 :: c97 :: c98 :: c99 :: .slice la K lc :: .int .i64 K :: u102 :: u103 :: u104 :: u105 :: u106 :: u107 :: u108 :: u109 :: u110 :: u111 :: u112 :: u113 :: u114 :: u115 :: u116 :: u117 :: u118 :: u119 :: u120 :: u121 :: u122 :: u123 :: u124 :: u125 :: u126 :: u127 :: u128 :: u129 :: u130 :: u131 :: u132 :: u133 :: u134 :: u135 :: u136 :: u137 :: u138 :: u139 :: u140 :: u141 :: u142 :: u143 :: u144 :: u145 :: u146 :: u147 :: u148 :: u149 :: u150 :: u151 :: u152 :: u153 :: u154 :: u155 :: u156 :: u157 :: u158 :: u159 :: u160 :: u161 :: u162 :: u163 :: u164 :: u165 :: u166 :: u167 :: u168 :: u169 :: u170 :: u171 :: u172 :: u173 :: u174 :: u175 :: u176 :: u177 :: u178 :: u179 :: u180 :: u181 :: u182 :: u183 :: u184 :: u185 :: u186 :: u187 :: c188 :: c189 :: c190 :: c191 :: c192 :: c193 :: c194 :: c195 :: c196 :: c197 :: c198 :: c199 :: c200 :: c201 :: c202 :: c203 :: c204 :: c205 :: c206 :: c207 :: c208 :: c209 :: c210 :: c211 :: c212 :: c213 :: c214 :: c215 :: c216 :: c217 :: c218 :: c219 :: c220 :: c221 :: c222 :: c223 :: c224 :: c225 :: c226 :: c227 :: c228 :: c229 :: c230 :: c231 :: c232 :: c233 :: c234 :: c235 :: c236 :: c237 :: c238 :: c239 :: []), []⟩ w') :
    Code.wp Try.prog (Code.loop (rrBody 4)) (OnExit 8 R) ⟨List.toArray (c0 :: .slice y m d :: c2 :: .pointer (some ⟨pw, 0, none⟩) :: c4 :: c5 :: c6 :: c7 :: c8 :: .slice la K lc :: c10 :: c11 :: c12 :: c13 :: c14 :: c15 :: c16 :: .slice none 0 0 :: .slice none 0 0 :: c19 :: c20 :: c21 :: c22 :: c23 :: c24 :: c25 :: c26 :: c27 :: c28 :: c29 :: c30 :: c31 :: c32 :: c33 :: c34 :: c35 :: c36 :: c37 :: c38 :: c39 :: c40 :: c41 :: c42 :: c43 :: c44 :: c45 :: c46 :: c47 :: c48 :: c49 :: c50 :: c51 :: c52 :: c53 :: c54 :: c55 :: c56 :: c57 :: c58 :: c59 :: c60 :: c61 :: c62 :: c63 :: c64 :: c65 :: c66 :: c67 :: c68 :: c69 :: c70 :: c71 :: c72 :: c73 :: c74 :: c75 :: c76 :: c77 :: c78 :: c79 :: c80 :: c81 :: c82 :: c83 :: c84 :: c85 :: c86 :: c87 :: c88 :: c89 :: c90 :: c91 :: c92 :: c93 :: c94 :: c95 :: c96 :: c97 :: c98 :: c99 :: .slice la K lc :: .int .i64 K :: .int .i64 0 :: c103 :: c104 :: c105 :: c106 :: c107 :: c108 :: c109 :: c110 :: c111 :: c112 :: c113 :: c114 :: c115 :: c116 :: c117 :: c118 :: c119 :: c120 :: c121 :: c122 :: c123 :: c124 :: c125 :: c126 :: c127 :: c128 :: c129 :: c130 :: c131 :: c132 :: c133 :: c134 :: c135 :: c136 :: c137 :: c138 :: c139 :: c140 :: c141 :: c142 :: c143 :: c144 :: c145 :: c146 :: c147 :: c148 :: c149 :: c150 :: c151 :: c152 :: c153 :: c154 :: c155 :: c156 :: c157 :: c158 :: c159 :: c160 :: c161 :: c162 :: c163 :: c164 :: c165 :: c166 :: c167 :: c168 :: c169 :: c170 :: c171 :: c172 :: c173 :: c174 :: c175 :: c176 :: c177 :: c178 :: c179 :: c180 :: c181 :: c182 :: c183 :: c184 :: c185 :: c186 :: c187 :: c188 :: c189 :: c190 :: c191 :: c192 :: c193 :: c194 :: c195 :: c196 :: c197 :: c198 :: c199 :: c200 :: c201 :: c202 :: c203 :: c204 :: c205 :: c206 :: c207 :: c208 :: c209 :: c210 :: c211 :: c212 :: c213 :: c214 :: c215 :: c216 :: c217 :: c218 :: c219 :: c220 :: c221 :: c222 :: c223 :: c224 :: c225 :: c226 :: c227 :: c228 :: c229 :: c230 :: c231 :: c232 :: c233 :: c234 :: c235 :: c236 :: c237 :: c238 :: c239 :: []), []⟩ V := by
  conv => arg 2; arg 1; whnf
  obtain ⟨_, hpl, _, ⟨hn1, hn4, _⟩, _⟩ := plan_parts hok
  have hnA := hA.1
  have hmp := hp.len
  have hlcap := hl.cap
  unfold maxLen at hlcap
  obtain rfl : m = n := by omega
  have HNA := Lib.hid hnA
  have HLK := Lib.hid hlK
  have HLN := Lib.hid hL
  have hm4 : m ≤ 4 := by omega
  have HOK := Lib.hid hok
  have HA := Lib.hid hA
  have HP := Lib.hid hp
  have HW := Lib.hid hw
  have HL := Lib.hid hl
  have hn1 : 1 ≤ m := by omega
  clear hA hp hw hl hok hpl hnA hmp hn4
  go_loopw [17, 18, 102] (fun mv rv t2 wr => ∃ s : Nat, s ≤ K ∧ t2 = .int .i64 s ∧ Hid (WoSt wr V.heap.size mv rv ((rrMat W p L).take s) (List.replicate s 0)) ∧ Hid (Below V.heap.size V wr)) (fun _ _ t2 _ => K - (intOf t2).toNat)
  case atStart => exact ⟨0, by omega, rfl, Lib.hid (WoSt.nil _ _ (Nat.le_refl _)), Lib.hid (Below.refl _ _)⟩
  case round =>
    obtain ⟨s, hs, rfl, HS, HB⟩ := hrel
    by_cases hls : s < K
    · obtain ⟨u, hu⟩ : ∃ t, gN L s = t := ⟨_, rfl⟩
      have hum := HLN.out s hls
      rw [hu] at hum
      have HU := Lib.hid hu
      obtain ⟨b0, o0, hla, hb0, hc0⟩ := HL.out.at (by omega)
      have e0 := hc0 s hls
      rw [natI_at, hu, ← (bcell HB.out).1 _ _ hb0] at e0
      subst hla
      clear hc0 hu
      go_wp2
      generalize wr = U at *
      refine wp_onExit (k := 10) (rr_col6 U pw m c m d K lc u W x y (some ⟨b0, o0, none⟩) p L (persist HW.out HB.out) (HA.out.mono HB.out) (HP.out.mono HB.out) HOK.out (HL.out.mono HB.out) HLK.out HLN.out hK hum _ _ _ _ _ _ _ _ _ _ _ _ _ _ _ _ _ _ _ _ _ _ _ _ _ _ _ _ _ _ _ _ _ _ _ _ _ _ _ _ _ _ _ _ _ _ _ _ _ _ _ _ _ _ _ _ _ _ _ _ _ _ _ _ _ _ _ _ _ _ _ _ _ _ _ _ _ _ _ _ _ _ _ _ _ _ _ _ _ _ _ _ _ _ _ _ _ _ _ _ _ _ _ _ _ _ _ _ _ _ _ _ _ _ _ _ _ _ _ _ _ _ _ _ _ _ _ _ _ _ _ _ _ _ _ _ _ _ _ _ _ _ _ _ _ _ _ _ _ _ _ _ _ _ _ _ _ _ _ _ _ _ _ _ _ _ _ _ _ _ _ _ _ _ _ _ _ _ _ _ _ _ _ _ _ _ _ _ _ _ _ _ _ _ _ _ _ _ _ _ _ _ _ _ _ _ _ _ _ _ _ _ _ _ _ _ _ _ _ _ _ _ _ _ _ _ _ _ _ _ _ _ _ _ ?_)
      intro va vc v23 v109 v110 v111 v112 v113 v114 v115 v116 v117 v118 v119 v120 v121 v122 v123 v124 v125 v126 v127 v128 v129 v130 v131 w2 hrow hB2
      obtain ⟨g, rfl, _⟩ := own_cells hrow (by omega)
      obtain ⟨q1, q2', q3, q4, q5, q6, cur, q7⟩ := own_at hrow (by omega)
      have e6 := q3 s hls
      have e7 := q4 s
      rw [colF_at (by rw [HLK.out]; exact hls), HU.out] at e6
      unfold maxLen at q6
      obtain ⟨b3, o3, b4, o4, b5, o5, m2, q2, t0, z, q, rfl, rfl, hb3, hb4, hb5, e2, htm2, hcq, e5, eo, hSl⟩ := pod_cells HA.out HP.out HOK.out hum
      unfold maxLen at hcq
      have HB2 := Lib.hid hB2
      have HVW := Lib.hid (btr HB.out hB2)
      rw [← (bcell HVW.out).1 _ _ hb3] at e2
      rw [← (bcell HVW.out).1 _ _ hb4] at eo
      rw [← (bcell HVW.out).1 _ _ hb5] at e5
      have hzc := hSl.cap
      unfold maxLen at hzc
      have HSO := Lib.hid (hSl.mono HVW.out.drew)
      obtain ⟨z0, z1, z2, z3⟩ := BoxR.cells (persist HW.out HVW.out)
      have HOR := Lib.hid (show ∀ y ∈ podds W p u, 0 ≤ y ∧ y ≤ 3 from (vAc_at (vAc_pact HOK.out (s := u) (by rw [HNA.out]; exact hum))).2.2.2.1)
      have hy := podds_le HOK.out (s := u) (k := u) (by rw [HNA.out]; exact hum) (by rw [HNA.out]; exact hum)
      have hsm := pa_of0 HOK.out (s := u) (by rw [HNA.out]; exact hum)
      have HSET := Lib.hid (show s + 1 ≠ K → (colF W p L u).set s (nth (podds W p u) u - isum (podds W p u)) = rrRow W p L s from fun hne => by
        unfold rrRow
        rw [if_neg (by rw [HLK.out]; exact hne), HU.out, colF_at (by rw [HLK.out]; exact hls), HU.out]
        unfold fS
        rw [HU.out])
      obtain ⟨v0, hv0⟩ : ∃ S, nth (podds W p u) u = S := ⟨_, rfl⟩
      obtain ⟨S, hS⟩ : ∃ S, isum (podds W p u) = S := ⟨_, rfl⟩
      have HSS := Lib.hid hS
      rw [hv0] at HSET e6 hy
      rw [hS] at HSET hsm
      have k5 : IntKind.i64.wrap (v0 - S) = v0 - S := wrap_i64j _ (by omega) (by omega)
      have hrd := hrow.drew
      have HBd := Lib.hid hB2.drew
      obtain ⟨w2d, hw2d⟩ : ∃ w, w2.drew = w := ⟨_, rfl⟩
      have HO3 := Lib.hid (show (w2d.setCell ⟨g, s, none⟩ (.int .i64 (v0 - S))).ownsRow U.heap.size 3 1 (.slice (some ⟨g, 0, none⟩) K vc) K (((colF W p L u).set s (v0 - S)).map (Value.int .i64)) by
        have q := (hrd.stored s (.int .i64 (v0 - S))).1
        rw [← List.map_set, hw2d] at q
        exact q)
      have HB3 := Lib.hid (show Below U.heap.size U (w2d.setCell ⟨g, s, none⟩ (.int .i64 (v0 - S))) from hw2d ▸ HBd.out.setCell (p := ⟨g, s, none⟩) (show U.heap.size ≤ g from q1) (.int .i64 (v0 - S)))
      have HW2 := Lib.hid hw2d
      clear hrow hB2 q3 q4 q7 hSl hv0 hS hrd hw2d
      go_wp2
      go_still_tail 19, (by kernel_rfl)
      refine wpStill_step (fun KK hK => ?_)
      go_simp
      refine ⟨.int .i64 S, (rsum_go _ z m q (podds W p u) HSO.out (by omega) HOR.out).mono (fun _ _ h => ⟨by rw [h.1, HSS.out], h.2.symm⟩), hK _ ?_⟩
      clear hK KK
      repeat still_step
      refine wpStill_nil ?_
      change wpList _ _ _ _ _ w2.drew

      have hw2d := HW2.out
      replace e6 : w2.drew.cell? ⟨g, s, none⟩ = _ := e6
      replace e7 : w2.drew.frozen? ⟨g, s, none⟩ = _ := e7
      rw [hw2d] at e6 e7 ⊢
      clear e0 e2 e5 eo z0 z1 z2 z3 hw2d
      by_cases hlast : s + 1 = K
      · have hd : ((s : Int) == (K : Int) - 1) = true := by rw [beq_iff_eq]; omega
        have HLAST := Lib.hid hlast
        clear hlast
        go_wp2
        refine wp_onExit (k := 12) (rr_sums7 U (w2d.setCell ⟨g, s, none⟩ (.int .i64 (v0 - S))) pw m c m d K lc g vc ((colF W p L u).set s (v0 - S)) W _ _ (some ⟨b0, o0, none⟩) p L (persist HW.out HB.out) (HA.out.mono HB.out) (HP.out.mono HB.out) HOK.out (HL.out.mono HB.out) HLK.out HLN.out hK HB3.out (by rw [List.length_set, colF_len, HLK.out]) HO3.out _ _ _ _ _ _ _ _ _ _ _ _ _ _ _ _ _ _ _ _ _ _ _ _ _ _ _ _ _ _ _ _ _ _ _ _ _ _ _ _ _ _ _ _ _ _ _ _ _ _ _ _ _ _ _ _ _ _ _ _ _ _ _ _ _ _ _ _ _ _ _ _ _ _ _ _ _ _ _ _ _ _ _ _ _ _ _ _ _ _ _ _ _ _ _ _ _ _ _ _ _ _ _ _ _ _ _ _ _ _ _ _ _ _ _ _ _ _ _ _ _ _ _ _ _ _ _ _ _ _ _ _ _ _ _ _ _ _ _ _ _ _ _ _ _ _ _ _ _ _ _ _ _ _ _ _ _ _ _ _ _ _ _ _ _ _ _ _ _ _ _ _ _ _ _ _ _ _ _ _ _ _ _ _ _ _ _ _ _ _ _ _ _ _ _ _ _ _ _ _ _ _ _ _ _ _ _ _ _ _ _ _ _ _ _ _ _ _ _ _ _ _ _ _ _ _ _ _ _ _ _ _ _ _ _ ?_)
        intro x24 x25 x158 x159 x160 x161 x162 x163 x164 x165 x166 x167 x168 x169 x170 x171 x172 x173 x174 x175 x176 x177 x178 x179 wX hrow7 hB7
        have HROW := Lib.hid (show wX.ownsRow U.heap.size 3 1 (.slice (some ⟨g, 0, none⟩) K vc) (rrRow W p L s).length ((rrRow W p L s).map (Value.int .i64)) by
          rw [rrRow_len, HLK.out, show rrRow W p L s = sumF W p L by unfold rrRow; rw [if_pos (by rw [HLK.out]; exact HLAST.out)]]
          exact hrow7)
        have HUX := Lib.hid hB7
        clear hrow7 hB7
        obtain ⟨E, D, hT, hlo, hR, hsep⟩ := HS.out
        have hMl : ((rrMat W p L).take s).length = s := by rw [List.length_take, rrMat_len, HLK.out]; omega
        have hRl : (List.replicate s (0 : Int)).length = s := by simp
        have hmown := hT.1.1
        have hrown := hR
        rw [hMl] at hmown
        rw [hRl] at hrown
        obtain ⟨ma, mc, rfl⟩ := own_form hmown
        obtain ⟨ra, rc, rfl⟩ := own_form hrown
        have HT := Lib.hid hT
        have HR := Lib.hid hR
        have HSEP := Lib.hid hsep
        have HML := Lib.hid hMl
        have HRL := Lib.hid hRl
        have HMT := Lib.hid (show (rrMat W p L).take (s + 1) = (rrMat W p L).take s ++ [rrRow W p L s] by
          rw [take_row (by rw [rrMat_len, HLK.out]; exact hls), rrMat_at (by rw [HLK.out]; exact hls)])
        have hzU := HB.out.size
        have hzX := HUX.out.size
        clear hT hR hsep hMl hRl
        go_wp2_with (at_builtin; first
          | (refine wpList_app1 rfl _ _ 90 rfl Try.underlying90 infoSl rfl (by decide) V.heap.size (.slice ma s mc) s _ rfl ((own_mono hmown HUX.out).alloc _) wX.heap.size #[.slice (some ⟨g, 0, none⟩) K vc] rfl (new_at _ _) rfl (by simp [Value.oneCell']) (by omega) (by omega) (by simp; omega) ?_; intro v' w6 hown' hgrow; obtain ⟨na, nc, rfl⟩ := own_form hown'; have HW6 := Lib.hid (WoSt.row HT.out hlo HR.out HSEP.out HUX.out HROW.out (by rw [HML.out]; exact hown') hgrow); have hR6 := HW6.out.choose_spec.choose_spec.2.2.1; rw [HRL.out] at hR6; have HB6 := Lib.hid ((bal (btr HB.out HUX.out) (.cells #[.slice (some ⟨g, 0, none⟩) K vc] 26)).grown hgrow (by simp; omega) (fun i hi => (hmown.lt i hi).1)); have hz6 := HB6.out.size)
          | (refine wpList_app2 rfl _ _ 26 rfl Try.underlying26 infoInt rfl (by decide) V.heap.size (.slice ra s rc) s _ rfl (hR6.alloc _) w6.heap.size #[.int .i64 0] rfl (new_at _ _) rfl (by simp [Value.oneCell']) (by omega) (by omega) (by simp; omega) ?_; intro v8 w8 hown8 hgrow8 hat; obtain ⟨qa, qc, rfl⟩ := own_form hown8))
        obtain ⟨E6, D6, hT6, hlo6, hR6', hsep6⟩ := HW6.out
        have HWN := Lib.hid (show WoSt w8 V.heap.size (.slice na (s + 1) nc) (.slice qa (s + 1) qc) ((rrMat W p L).take (s + 1)) (List.replicate (s + 1) 0) by
          rw [HMT.out, List.replicate_succ']
          exact WoSt.right hT6 hlo6 hR6' hsep6 (Below.refl _ _) (by rw [HRL.out, List.map_append]; exact hown8) hgrow8 (by simpa using hat))
        have HBN := Lib.hid ((bal HB6.out (.cells #[.int .i64 0] 3)).grown hgrow8 (by simp; omega) (fun i hi => (hR6.lt i hi).1))
        clear hown' hgrow hat hown8 hgrow8 hT6 hR6' hsep6
        go_wp2
        go_roundw
        case rel => go_light; exact ⟨s + 1, by omega, by go_num, HWN, HBN⟩
        case measure => simp [intOf]; omega
      · have hd : ((s : Int) == (K : Int) - 1) = false := by rw [beq_eq_false_iff_ne]; omega
        have HROW := Lib.hid (show (w2d.setCell ⟨g, s, none⟩ (.int .i64 (v0 - S))).ownsRow U.heap.size 3 1 (.slice (some ⟨g, 0, none⟩) K vc) (rrRow W p L s).length ((rrRow W p L s).map (Value.int .i64)) by
          rw [rrRow_len, HLK.out, ← HSET.out hlast]
          exact HO3.out)
        have HUX := Lib.hid HB3.out
        obtain ⟨E, D, hT, hlo, hR, hsep⟩ := HS.out
        have hMl : ((rrMat W p L).take s).length = s := by rw [List.length_take, rrMat_len, HLK.out]; omega
        have hRl : (List.replicate s (0 : Int)).length = s := by simp
        have hmown := hT.1.1
        have hrown := hR
        rw [hMl] at hmown
        rw [hRl] at hrown
        obtain ⟨ma, mc, rfl⟩ := own_form hmown
        obtain ⟨ra, rc, rfl⟩ := own_form hrown
        have HT := Lib.hid hT
        have HR := Lib.hid hR
        have HSEP := Lib.hid hsep
        have HML := Lib.hid hMl
        have HRL := Lib.hid hRl
        have HMT := Lib.hid (show (rrMat W p L).take (s + 1) = (rrMat W p L).take s ++ [rrRow W p L s] by
          rw [take_row (by rw [rrMat_len, HLK.out]; exact hls), rrMat_at (by rw [HLK.out]; exact hls)])
        have hzU := HB.out.size
        have hzX := HUX.out.size
        clear hT hR hsep hMl hRl
        go_wp2_with (at_builtin; first
          | (refine wpList_app1 rfl _ _ 90 rfl Try.underlying90 infoSl rfl (by decide) V.heap.size (.slice ma s mc) s _ rfl ((own_mono hmown HUX.out).alloc _) w2d.heap.size #[.slice (some ⟨g, 0, none⟩) K vc] rfl (by rw [show w2d.heap.size = (w2d.setCell ⟨g, s, none⟩ (.int .i64 (v0 - S))).heap.size from by simp]; exact new_at _ _) rfl (by simp [Value.oneCell']) (by omega) (by omega) (by simp at hzX; simp; omega) ?_; intro v' w6 hown' hgrow; obtain ⟨na, nc, rfl⟩ := own_form hown'; have HW6 := Lib.hid (WoSt.row HT.out hlo HR.out HSEP.out HUX.out HROW.out (by rw [HML.out]; exact hown') hgrow); have hR6 := HW6.out.choose_spec.choose_spec.2.2.1; rw [HRL.out] at hR6; have HB6 := Lib.hid ((bal (btr HB.out HUX.out) (.cells #[.slice (some ⟨g, 0, none⟩) K vc] 26)).grown hgrow (by simp at hzX; simp; omega) (fun i hi => (hmown.lt i hi).1)); have hz6 := HB6.out.size)
          | (refine wpList_app2 rfl _ _ 26 rfl Try.underlying26 infoInt rfl (by decide) V.heap.size (.slice ra s rc) s _ rfl (hR6.alloc _) w6.heap.size #[.int .i64 0] rfl (new_at _ _) rfl (by simp [Value.oneCell']) (by omega) (by omega) (by simp; omega) ?_; intro v8 w8 hown8 hgrow8 hat; obtain ⟨qa, qc, rfl⟩ := own_form hown8))
        obtain ⟨E6, D6, hT6, hlo6, hR6', hsep6⟩ := HW6.out
        have HWN := Lib.hid (show WoSt w8 V.heap.size (.slice na (s + 1) nc) (.slice qa (s + 1) qc) ((rrMat W p L).take (s + 1)) (List.replicate (s + 1) 0) by
          rw [HMT.out, List.replicate_succ']
          exact WoSt.right hT6 hlo6 hR6' hsep6 (Below.refl _ _) (by rw [HRL.out, List.map_append]; exact hown8) hgrow8 (by simpa using hat))
        have HBN := Lib.hid ((bal HB6.out (.cells #[.int .i64 0] 3)).grown hgrow8 (by simp; omega) (fun i hi => (hR6.lt i hi).1))
        clear hown' hgrow hat hown8 hgrow8 hT6 hR6' hsep6
        go_wp2
        go_roundw
        case rel => go_light; exact ⟨s + 1, by omega, by go_num, HWN, HBN⟩
        case measure => simp [intOf]; omega
    · obtain rfl : s = K := by omega
      have hO := HS.out
      rw [List.take_of_length_le (by rw [rrMat_len, HLK.out]; exact Nat.le_refl _)] at hO
      have HO2 := Lib.hid hO
      clear hO
      go_wp2
      exact ⟨rfl, hexit _ _ _ _ _ _ _ _ _ _ _ _ _ _ _ _ _ _ _ _ _ _ _ _ _ _ _ _ _ _ _ _ _ _ _ _ _ _ _ _ _ _ _ _ _ _ _ _ _ _ _ _ _ _ _ _ _ _ _ _ _ _ _ _ _ _ _ _ _ _ _ _ _ _ _ _ _ _ _ _ _ _ _ _ _ _ _ _ _ _ _ _ _ _ _ HO2.out HB.out⟩
end Go.Proofs.Ytcmakddnjmeklaa

