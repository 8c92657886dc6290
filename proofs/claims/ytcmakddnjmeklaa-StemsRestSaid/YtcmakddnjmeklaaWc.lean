/- Chapter 9, walks: Worth, Equal of fractions, awake; what Of copies is as valid as what it copies. -/
import Derived.Test.YtcmakddnjmeklaaWb
namespace Go.Proofs.Ytcmakddnjmeklaa
open Go.RowKit

/-! ### what Of copies -/
def trW (W : Wd) : Wd := ⟨W.a, W.b, trL W.acts⟩
theorem acl_tr {A : List (List Ac)} {s : Nat} (hs : s < A.length) (h6 : s < 6) : acl (trL A) s = trAcs (acl A s) := by
  unfold trL acl
  rw [List.getD_eq_getElem?_getD, List.getElem?_map, List.getElem?_take_of_lt h6, List.getElem?_eq_getElem hs]
  simp [hs]
theorem ac_tr {A : List Ac} {i : Nat} (hi : i < A.length) (h5 : i < 5) : ac (trAcs A) i = trAc (ac A i) := by
  unfold trAcs ac
  rw [List.getD_eq_getElem?_getD, List.getElem?_map, List.getElem?_take_of_lt h5, List.getElem?_eq_getElem hi]
  simp [hi]
theorem trL_length (A : List (List Ac)) : (trL A).length = min 6 A.length := by simp [trL]
theorem trAcs_length (A : List Ac) : (trAcs A).length = min 5 A.length := by simp [trAcs]
theorem trAc_same {n : Nat} {x : Ac} (h : vAc n x = true) (hn : n ≤ 4) : trAc x = x := by
  obtain ⟨_, _, h3, _⟩ := vAc_at h
  unfold trAc
  rw [List.take_of_length_le (by omega)]
theorem vAc_tr {n : Nat} {x : Ac} (hn : n ≤ 4) : vAc n (trAc x) = vAc n x := by
  by_cases h : x.o.length ≤ 7
  · rw [show trAc x = x by unfold trAc; rw [List.take_of_length_le h]]
  · have h1 : vAc n ⟨x.g, x.o⟩ = false := vAc_len (by omega)
    have h2 : vAc n ⟨x.g, x.o.take 7⟩ = false := vAc_len (by rw [List.length_take]; omega)
    exact h2.trans h1.symm
theorem vAcs_tr {n : Nat} {A : List Ac} (hn : n ≤ 4) : vAcs n (trAcs A) = vAcs n A := by
  by_cases h : 1 ≤ A.length ∧ A.length ≤ 3
  · have hl : (trAcs A).length = A.length := by rw [trAcs_length]; omega
    rw [vAcs_all h.1 h.2, vAcs_all (by omega) (by omega), hl, Bool.eq_iff_iff, List.all_eq_true, List.all_eq_true]
    constructor
    · intro q i hi
      have := q i hi
      rwa [ac_tr (List.mem_range.1 hi) (by have := List.mem_range.1 hi; omega), vAc_tr hn] at this
    · intro q i hi
      rw [ac_tr (List.mem_range.1 hi) (by have := List.mem_range.1 hi; omega), vAc_tr hn]
      exact q i hi
  · rw [vAcs_len h, vAcs_len (by rw [trAcs_length]; omega)]
theorem vWd_tr (W : Wd) : vWd (trW W) = vWd W := by
  by_cases h : vHead W
  · obtain ⟨h1, h2, h3, h4, h5⟩ := h
    have hl : (trW W).acts.length = W.acts.length := by show (trL W.acts).length = _; rw [trL_length]; omega
    rw [vWd_all ⟨h1, h2, h3, h4, h5⟩, vWd_all (W := trW W) ⟨by omega, by omega, h3, h4, h5⟩, hl, Bool.eq_iff_iff, List.all_eq_true, List.all_eq_true]
    constructor
    · intro q i hi
      have := q i hi
      rwa [show acl (trW W).acts i = trAcs (acl W.acts i) from acl_tr (List.mem_range.1 hi) (by have := List.mem_range.1 hi; omega), vAcs_tr h2] at this
    · intro q i hi
      rw [show acl (trW W).acts i = trAcs (acl W.acts i) from acl_tr (List.mem_range.1 hi) (by have := List.mem_range.1 hi; omega), vAcs_tr h2]
      exact q i hi
  · rw [vWd_no h, vWd_no (W := trW W)]
    rintro ⟨q1, q2, q3, q4, q5⟩
    have e : (trW W).acts.length = min 6 W.acts.length := trL_length _
    exact h ⟨by omega, by omega, q3, q4, q5⟩
theorem acl_ext {A B : List (List Ac)} (hl : A.length = B.length) (h : ∀ k, k < A.length → acl A k = acl B k) : A = B := by
  refine List.ext_getElem hl fun k h1 h2 => ?_
  have := h k h1
  simpa [acl, h1, h2] using this
theorem ac_ext {A B : List Ac} (hl : A.length = B.length) (h : ∀ k, k < A.length → ac A k = ac B k) : A = B := by
  refine List.ext_getElem hl fun k h1 h2 => ?_
  have := h k h1
  simpa [ac, h1, h2] using this
theorem trW_same {W : Wd} (h : vWd W = true) : trW W = W := by
  obtain ⟨⟨h1, h2, _⟩, hv⟩ := vWd_parts h
  obtain ⟨a, b, A⟩ := W
  unfold trW
  congr 1
  show trL A = A
  have h2 : A.length ≤ 4 := h2
  refine acl_ext (by rw [trL_length]; omega) fun s hs => ?_
  rw [trL_length] at hs
  have hs1 : s < A.length := by omega
  have hv := hv s hs1
  have hv1 : (acl A s).length ≤ 3 := hv.2.1
  rw [acl_tr (by omega) (by omega)]
  refine ac_ext (by rw [trAcs_length]; omega) fun i hi => ?_
  rw [trAcs_length] at hi
  rw [ac_tr (by omega) (by omega)]
  exact trAc_same (hv.2.2 i (show i < (acl A s).length by omega)) h2
theorem isPlan_tr (W : Wd) (p : List Int) : isPlanB (trW W) (p.take 7) = isPlanB W p := by
  unfold isPlanB
  rw [vWd_tr]
  cases h : vWd W with
  | false => rfl
  | true =>
    rw [trW_same h, Bool.true_and, Bool.true_and]
    have h2 := (vWd_parts h).1.2.1
    by_cases q : p.length ≤ 7
    · rw [List.take_of_length_le q]
    · have h1 : planOk W.acts p = false := planOk_len (by omega)
      have h3 : planOk W.acts (p.take 7) = false := planOk_len (by rw [List.length_take]; omega)
      rw [h1, h3]
theorem take_plan {W : Wd} {p : List Int} (h : isPlanB W p = true) : p.take 7 = p := by
  unfold isPlanB at h
  rw [Bool.and_eq_true] at h
  have h2 := (vWd_parts h.1).1.2.1
  have h3 := (planOk_at h.2).1
  exact List.take_of_length_le (by omega)

/-! ### Worth -/
def worthF (W : Wd) (p : List Int) : List Fr := fracsL (wNs W.a W.b (planActs W.acts p)) (wD W.a W.b (planActs W.acts p))
theorem wNs_len {a b : Int} {X : List Ac} : (wNs a b X).length = X.length := by simp [wNs]
theorem wNs_at {a b : Int} {X : List Ac} {s : Nat} (hs : s < X.length) : nth (wNs a b X) s = wN a b X s := by simp [nth, wNs, hs]
theorem wNs_bound {a b : Int} {X : List Ac} (h : OkX a b X) : ∀ y ∈ wNs a b X, -200000000 ≤ y ∧ y ≤ 200000000 := by
  intro y hy
  unfold wNs at hy
  rw [List.mem_map] at hy
  obtain ⟨s, hs, rfl⟩ := hy
  have h1 := wN_36 h (List.mem_range.1 hs)
  have h2 := wD_pos h
  omega
set_option maxHeartbeats 400000 in
theorem worthU_no (w : World) (x y : Option Addr) (n c m d : Nat) (W : Wd) (p : List Int) (hA : A2Sl w x n c W.acts) (hp : Sl w y m d p) (hok : isPlanB W p = false) :
    Calls Try.prog 15 #[wv W.a W.b x n c, .slice y m d] w (GivesFrE w [] 2) := by
  have hb0 := bal (Below.refl w.heap.size w) (.cells #[.int .i64 W.a, .int .i64 W.b, .slice x n c] 33)
  have HA := Lib.hid (hA.mono hb0)
  have HS := Lib.hid (hp.mono hb0)
  have HB0 := Lib.hid hb0
  have HOK := Lib.hid hok
  clear hA hp hb0 hok
  go_enter Try.func15, Try.ntmps15
  go_wp2_with fail
  refine (isplan_go _ x y n c m d W p HA.out HS.out).mono ?_
  rintro e w2 ⟨rfl, hb2⟩
  rw [HOK.out]
  go_wp2
  go_ret2
  exact ⟨none, 0, 0, rfl, rfl, World.ownsRow_nil _ _ _ _, btr HB0.out hb2⟩
set_option maxHeartbeats 400000 in
theorem worthU_go (w : World) (x y : Option Addr) (n c m d : Nat) (W : Wd) (p : List Int) (hA : A2Sl w x n c W.acts) (hp : Sl w y m d p) (hok : isPlanB W p = true) :
    Calls Try.prog 15 #[wv W.a W.b x n c, .slice y m d] w (GivesFrE w (worthF W p) 0) := by
  have hb0 := bal (Below.refl w.heap.size w) (.cells #[.int .i64 W.a, .int .i64 W.b, .slice x n c] 33)
  have HZ := Lib.hid (new_at w (.cells #[.int .i64 W.a, .int .i64 W.b, .slice x n c] 33))
  have HA := Lib.hid (hA.mono hb0)
  have HS := Lib.hid (hp.mono hb0)
  have HB0 := Lib.hid hb0
  have HOK := Lib.hid hok
  have hX := okX_plan hok
  have HX := Lib.hid hX
  have HXL := Lib.hid (planActs_len W.acts p)
  have hX4 : (planActs W.acts p).length ≤ 4 := hX.2.1
  clear hA hp hb0 hok hX
  go_enter Try.func15, Try.ntmps15
  go_wp2_with fail
  refine (isplan_go _ x y n c m d W p HA.out HS.out).mono ?_
  rintro e w2 ⟨rfl, hb2⟩
  rw [HOK.out]
  have hz2 := persist HZ.out hb2
  have c0 : w2.cell? ⟨w.heap.size, 0, none⟩ = some (.int .i64 W.a) := by rw [cells_at hz2]; rfl
  have c1 : w2.cell? ⟨w.heap.size, 1, none⟩ = some (.int .i64 W.b) := by rw [cells_at hz2]; rfl
  have c2 : w2.cell? ⟨w.heap.size, 2, none⟩ = some (.slice x n c) := by rw [cells_at hz2]; rfl
  have z2 := lt_of_block hz2
  have HB2 := Lib.hid hb2
  clear hz2 hb2
  go_wp2_with fail
  refine (worth_go _ x y n c m d W p (HA.out.mono HB2.out) (HS.out.mono HB2.out) HOK.out).mono ?_
  rintro e w3 ⟨va, vn, vc, rfl, hsl, hb3⟩
  have hvn : vn ≤ 16 := by have := hsl.len; rw [wNs_len] at this; omega
  have HSL := Lib.hid hsl
  have HB3 := Lib.hid hb3
  clear hsl hb3
  go_wp2_with fail
  refine (fracs_go _ va vn vc _ _ HSL.out hvn (fun y hy => by have := wNs_bound HX.out y hy; omega) (wD_pos HX.out).1 (by have := (wD_pos HX.out).2; omega)).mono ?_
  rintro e w4 ⟨fa, fn, fc, rfl, hfn, hown, hb4⟩
  have hbz : w.heap.size ≤ w3.heap.size := (btr (btr HB0.out HB2.out) HB3.out).size
  have HO := Lib.hid (own_base hown hbz)
  have HB4 := Lib.hid (btr (btr (btr HB0.out HB2.out) HB3.out) hb4)
  have HFN := Lib.hid hfn
  clear hown hb4 hfn
  go_wp2
  go_ret2
  exact ⟨fa, fn, fc, rfl, HFN.out, HO.out, HB4.out⟩
theorem gives_fr {_w w' : World} {a : Option Addr} {n c : Nat} {F : List Fr} {base : Nat} (h : w'.ownsRow base 53 2 (.slice a n c) n (cellsF F)) (hn : n = F.length) : FrSl w' a n c F := own_fr h hn

/-! ### Equal of fractions -/
theorem fr_ext {A B : List Fr} (hl : A.length = B.length) (h : ∀ k, k < A.length → fr A k = fr B k) : A = B := by
  refine List.ext_getElem hl fun k h1 h2 => ?_
  have := h k h1
  simpa [fr, h1, h2] using this
set_option maxHeartbeats 1000000 in
theorem freq_go (w : World) (x y : Option Addr) (n c m d : Nat) (F G : List Fr) (hF : FrSl w x n c F) (hG : FrSl w y m d G) :
    Calls Try.prog 34 #[.slice x n c, .slice y m d] w fun e w' => e = .returned (.bool (decide (F = G))) ∧ ∃ k, w' = w.drewN k := by
  have hn := hF.1
  have hm := hG.1
  have hc1 := hF.2.cap
  have hc2 := hG.2.cap
  unfold maxLen at hc1 hc2
  have HF := Lib.hid hF
  have HG := Lib.hid hG
  have HN := Lib.hid hn
  have HM := Lib.hid hm
  by_cases hq : n = m
  · subst hq
    clear hF hG hn hm
    go_enter Try.func34, Try.ntmps34
    go_wp2
    go_loopw [13] (fun t wr => ∃ i : Nat, i ≤ n ∧ t = .int .i64 i ∧ Hid (∀ j, j < i → fr F j = fr G j) ∧ Hid (∃ k, wr = w.drewN k)) (fun t _ => n - (intOf t).toNat)
    case atStart => exact ⟨0, by omega, rfl, Lib.hid (fun j hj => by omega), Lib.hid ⟨0, rfl⟩⟩
    case round =>
      obtain ⟨i, hi, rfl, HE, HW⟩ := hrel
      by_cases hl : i < n
      · have hB := drewB HW.out
        obtain ⟨b1, o1, rfl, hb1, hh1⟩ := (HF.out.mono hB).at (by omega)
        obtain ⟨b2, o2, rfl, hb2, hh2⟩ := (HG.out.mono hB).at (by omega)
        obtain ⟨p1, p2⟩ := hh1 i hl
        obtain ⟨q1, q2⟩ := hh2 i hl
        have hcn : i ≤ c := by omega
        have hcd : i ≤ d := by omega
        clear hh1 hh2
        by_cases he : fr F i = fr G i
        · have HE2 := Lib.hid (show ∀ j, j < i + 1 → fr F j = fr G j from fun j hj => by
            by_cases e : j = i
            · subst e; exact he
            · exact HE.out j (by omega))
          rw [← he] at q1 q2
          clear he
          generalize (fr F i).n = fn at *
          generalize (fr F i).d = fd at *
          have t1 : (fn != fn) = false := by simp
          have t2 : (fd != fd) = false := by simp
          have t3 : (fn == fn) = true := by simp
          have t4 : (fd == fd) = true := by simp
          go_wp2
          go_quiet (fail)
          go_wp2
          go_roundw
          case rel =>
            go_light
            refine ⟨i + 1, by omega, by go_num, HE2, Lib.hid ?_⟩
            obtain ⟨k, rfl⟩ := HW.out
            exact ⟨k + nq, by rw [World.drewN_drewN]⟩
          case measure => go_light; simp [intOf]; omega
        · have HR := Lib.hid (show decide (F = G) = false from decide_eq_false fun e => he (by rw [e]))
          have he2 : ¬ ((fr F i).n = (fr G i).n ∧ (fr F i).d = (fr G i).d) := fun e => he (by
            obtain ⟨e1, e2⟩ := e
            generalize fr F i = f at *
            generalize fr G i = g at *
            cases f; cases g; simp at e1 e2; rw [e1, e2])
          clear he
          generalize (fr F i).n = fn at *
          generalize (fr F i).d = fd at *
          generalize (fr G i).n = gn at *
          generalize (fr G i).d = gd at *
          by_cases e1 : fn = gn
          · subst e1
            have e2 : fd ≠ gd := fun e => he2 ⟨rfl, e⟩
            have t1 : (fd == gd) = false := by simpa using e2
            have t2 : (fd != gd) = true := by simpa using e2
            have t3 : (fn == fn) = true := by simp
            clear he2 e2
            go_wp2
            go_quiet (fail)
            go_wp2
            go_ret
            rw [HR.out]
            refine ⟨rfl, ?_⟩
            obtain ⟨k, rfl⟩ := HW.out
            exact ⟨k + nq, by rw [World.drewN_drewN]⟩
          · have t1 : (fn == gn) = false := by simpa using e1
            have t2 : (fn != gn) = true := by simpa using e1
            clear he2 e1
            go_wp2
            go_quiet (fail)
            go_wp2
            go_ret
            rw [HR.out]
            refine ⟨rfl, ?_⟩
            obtain ⟨k, rfl⟩ := HW.out
            exact ⟨k + nq, by rw [World.drewN_drewN]⟩
      · obtain rfl : i = n := by omega
        have HR := Lib.hid (show decide (F = G) = true from decide_eq_true (fr_ext (by rw [HN.out, HM.out]) (fun j hj => HE.out j (by have := HN.out; omega))))
        go_wp2
        go_ret
        rw [HR.out]
        exact ⟨rfl, HW.out⟩
  · have HR := Lib.hid (show decide (F = G) = false from decide_eq_false fun e => hq (by rw [← hn, ← hm, e]))
    have t1 : ((n : Int) != (m : Int)) = true := by simp; omega
    have t2 : (n != m) = true := by simp; omega
    clear hF hG hn hm hq
    go_enter Try.func34, Try.ntmps34
    go_wp2
    go_ret
    rw [HR.out]
    exact ⟨rfl, 0, rfl⟩

/-! ### awake -/
def oneW : Wd := ⟨1, 2, [[⟨1, [1]⟩]]⟩
theorem oneW_ok : isPlanB oneW [0] = true := by decide +kernel
theorem oneW_worth : worthF oneW [0] = [⟨2, 1⟩] := by decide +kernel
theorem oneW_lies (w : World) : A2Sl ((((w.alloc (.cells #[.int .i64 1] 3)).alloc (.cells #[.int .i64 1, .slice (some ⟨w.heap.size, 0, none⟩) 1 1] 50)).alloc (.cells #[.slice (some ⟨w.heap.size + 1, 0, none⟩) 1 1] 49)).alloc (.cells #[.int .i64 0] 3)) (some ⟨w.heap.size + 1 + 1, 0, none⟩) 1 1 oneW.acts ∧
    Sl ((((w.alloc (.cells #[.int .i64 1] 3)).alloc (.cells #[.int .i64 1, .slice (some ⟨w.heap.size, 0, none⟩) 1 1] 50)).alloc (.cells #[.slice (some ⟨w.heap.size + 1, 0, none⟩) 1 1] 49)).alloc (.cells #[.int .i64 0] 3)) (some ⟨w.heap.size + 1 + 1 + 1, 0, none⟩) 1 1 [0] := by
  have h1 := new_at w (.cells #[.int .i64 1] 3)
  have s1 := sl_one w 1
  generalize hw1 : w.alloc (.cells #[.int .i64 1] 3) = w1 at *
  have z1 : w1.heap.size = w.heap.size + 1 := by rw [← hw1]; simp
  have b1 := bal (Below.refl w1.heap.size w1) (.cells #[.int .i64 1, .slice (some ⟨w.heap.size, 0, none⟩) 1 1] 50)
  have h2 := new_at w1 (.cells #[.int .i64 1, .slice (some ⟨w.heap.size, 0, none⟩) 1 1] 50)
  generalize hw2 : w1.alloc (.cells #[.int .i64 1, .slice (some ⟨w.heap.size, 0, none⟩) 1 1] 50) = w2 at *
  have z2 : w2.heap.size = w1.heap.size + 1 := by rw [← hw2]; simp
  have b2 := bal (Below.refl w2.heap.size w2) (.cells #[.slice (some ⟨w.heap.size + 1, 0, none⟩) 1 1] 49)
  have h3 := new_at w2 (.cells #[.slice (some ⟨w.heap.size + 1, 0, none⟩) 1 1] 49)
  generalize hw3 : w2.alloc (.cells #[.slice (some ⟨w.heap.size + 1, 0, none⟩) 1 1] 49) = w3 at *
  have z3 : w3.heap.size = w2.heap.size + 1 := by rw [← hw3]; simp
  have b3 := bal (Below.refl w3.heap.size w3) (.cells #[.int .i64 0] 3)
  have s4 := sl_one w3 0
  generalize hw4 : w3.alloc (.cells #[.int .i64 0] 3) = w4 at *
  have hm : (1 : Nat) ≤ maxLen := by unfold maxLen; omega
  rw [show w.heap.size + 1 + 1 + 1 = w3.heap.size by omega, show w.heap.size + 1 + 1 = w2.heap.size by omega]
  refine ⟨?_, s4⟩
  have g3 := persist h3 b3
  have g2 := persist (persist h2 b2) b3
  refine ⟨rfl, Nat.le_refl _, hm, .inr (.inr ⟨w2.heap.size, 0, rfl, lt_of_block g3, fun i hi => ?_⟩)⟩
  obtain rfl : i = 0 := by omega
  refine ⟨some ⟨w.heap.size + 1, 0, none⟩, 1, 1, by rw [cells_at g3]; rfl, rfl, Nat.le_refl _, hm, .inr (.inr ⟨w.heap.size + 1, 0, rfl, by rw [← z1]; exact lt_of_block g2, fun j hj => ?_⟩)⟩
  obtain rfl : j = 0 := by omega
  rw [← z1]
  exact ⟨by rw [cells_at g2]; rfl, some ⟨w.heap.size, 0, none⟩, 1, 1, by rw [cells_at g2]; rfl, s1.mono (btr b1 (btr b2 b3))⟩
theorem one_frac (w : World) (a b : Int) : FrSl (w.alloc (.cells #[.int .i64 a, .int .i64 b] 53)) (some ⟨w.heap.size, 0, none⟩) 1 1 [⟨a, b⟩] := by
  have g := new_at w (.cells #[.int .i64 a, .int .i64 b] 53)
  refine ⟨rfl, Nat.le_refl _, by unfold maxLen; omega, .inr (.inr ⟨w.heap.size, 0, rfl, lt_of_block g, fun i hi => ?_⟩)⟩
  obtain rfl : i = 0 := by omega
  exact ⟨by rw [cells_at g]; rfl, by rw [cells_at g]; rfl⟩
set_option maxHeartbeats 1000000 in
theorem awake_go (w : World) : Calls Try.prog 19 #[] w fun e w' => e = .returned (.bool true) ∧ Below w.heap.size w w' := by
  have HL := Lib.hid (oneW_lies w)
  have hb := bal (bal (bal (bal (Below.refl w.heap.size w) (.cells #[.int .i64 1] 3)) (.cells #[.int .i64 1, .slice (some ⟨w.heap.size, 0, none⟩) 1 1] 50)) (.cells #[.slice (some ⟨w.heap.size + 1, 0, none⟩) 1 1] 49)) (.cells #[.int .i64 0] 3)
  have HB := Lib.hid hb
  clear hb
  go_enter Try.func19, Try.ntmps19
  go_wp2_with fail
  refine (worthU_go _ _ _ _ _ _ _ oneW [0] HL.out.1 HL.out.2 oneW_ok).mono ?_
  rintro e w2 ⟨x, n, c, rfl, hn, hown, hb2⟩
  rw [oneW_worth] at hn hown
  obtain rfl : n = 1 := hn
  have HO := Lib.hid (own_fr hown rfl)
  have HB2 := Lib.hid (btr HB.out hb2)
  have HO2 := Lib.hid (HO.out.mono (bal (Below.refl _ _) (.cells #[.int .i64 2, .int .i64 1] 53)))
  clear hown hb2
  go_wp2_with fail
  refine (freq_go _ _ _ _ _ _ _ _ _ HO2.out (one_frac _ 2 1)).mono ?_
  rintro e w3 ⟨rfl, k, rfl⟩
  rw [decide_eq_true rfl]
  go_wp2
  go_ret
  exact ⟨rfl, drewN_below (bal HB2.out _)⟩
end Go.Proofs.Ytcmakddnjmeklaa
