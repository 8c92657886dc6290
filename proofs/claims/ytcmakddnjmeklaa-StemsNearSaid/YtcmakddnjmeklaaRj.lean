/- Chapter 9, the reference: IsBest, Best. -/
import Derived.Test.YtcmakddnjmeklaaRi
namespace Go.Proofs.Ytcmakddnjmeklaa
open Go.RowKit
set_option linter.unusedSimpArgs false

def notLess (x y : Fr) : Bool := !decide (x.n * y.d < y.n * x.d)
def rowOk (W : Wd) (p q : List Int) : Bool := (List.range W.acts.length).all fun s => notLess (fr (worthF W p) s) (fr (worthF W q) s)
def isBestB (W : Wd) (p : List Int) : Bool := (allP W.acts).all (rowOk W p)
theorem isBest_opt {W : Wd} {p : List Int} (h : isPlanB W p = true) (ho : Opt W p) : isBestB W p = true := by
  unfold isBestB
  rw [List.all_eq_true]
  intro q hq
  have hqp : isPlanB W q = true := by unfold isPlanB; rw [(plan_parts h).1, Bool.true_and]; exact allP_mem.1 hq
  unfold rowOk
  rw [List.all_eq_true]
  intro s hs
  unfold notLess
  rw [chain_opt h ho hqp (List.mem_range.1 hs)]; rfl
theorem plan_mem {W : Wd} {p : List Int} (h : isPlanB W p = true) : p ∈ allP W.acts := by
  refine allP_mem.2 ?_
  unfold isPlanB at h
  rw [Bool.and_eq_true] at h
  exact h.2
theorem mem_plan {W : Wd} {p : List Int} (hv : vWd W = true) (h : p ∈ allP W.acts) : isPlanB W p = true := by
  unfold isPlanB; rw [hv, Bool.true_and]; exact allP_mem.1 h
theorem isBest_same {W : Wd} {p q : List Int} (h : isPlanB W p = true) (ho : Opt W p) (hq : isPlanB W q = true) (hb : isBestB W q = true) : worthF W q = worthF W p := by
  refine opt_same hq h (opt_ge h hq ho) fun s hs => ?_
  unfold isBestB at hb
  rw [List.all_eq_true] at hb
  have h1 := hb p (plan_mem h)
  unfold rowOk at h1
  rw [List.all_eq_true] at h1
  have h2 := h1 s (List.mem_range.2 hs)
  unfold notLess at h2
  rw [Bool.not_eq_true', decide_eq_false_iff_not] at h2
  exact Int.not_lt.1 fun hlt => h2 ((fr_ltW hq h hs hs).2 hlt)
theorem gives_fr2 {w w' : World} {F : List Fr} {e : Ending} {n : Nat} (h : GivesFr w F e w') (hl : F.length = n) : ∃ a c, e = .returned (.slice a n c) ∧ FrSl w' a n c F ∧ Below w.heap.size w w' := by
  obtain ⟨a, n2, c, rfl, hn, ho, hb⟩ := h
  obtain rfl : n2 = n := by omega
  exact ⟨_, _, rfl, own_fr ho hn, hb⟩
theorem rplans_go (w : World) (x : Option Addr) (n c : Nat) (W : Wd) (hA : A2Sl w x n c W.acts) (hok : vWd W = true) : Calls Try.prog 56 #[wv W.a W.b x n c, .slice none 0 0] w (GivesPl (allP W.acts) w) := by
  obtain ⟨⟨_, h4, _⟩, hv⟩ := vWd_parts hok
  have := plans_go W n hA.1 (by rw [← hA.1]; exact h4) (fun s hs => ⟨(hv s hs).1, (hv s hs).2.1⟩) n w x c none 0 0 [] hA (by simp) (.inl ⟨rfl, rfl⟩)
  rw [← hA.1, plF_top] at this
  rw [← hA.1]; exact this
def RowsSl (w : World) (a : Option Addr) (n c : Nat) (M : List (List Int)) : Prop := RwSl w a n c M
theorem PlTr.rows {w : World} {lo : Nat} {a : Option Addr} {n c : Nat} {M : List (List Int)} {E : Nat → Value} (h : PlTr w lo (.slice a n c) M E) (hn : n = M.length) : RwSl w a n c M := by
  subst hn
  refine ⟨rfl, ?_⟩
  by_cases h0 : 0 < M.length
  · obtain ⟨g, rfl, _, hg, hnc, hc, hcells, _, _⟩ := own_cells h.1 h0
    refine ⟨hnc, hc, .inr (.inr ⟨g, 0, rfl, hg, fun i hi => ?_⟩)⟩
    obtain ⟨ea, ec, he⟩ := own_form (h.2 i hi)
    have h2 := h.2 i hi
    rw [he] at h2
    refine ⟨ea, _, ec, ?_, own_sl h2⟩
    have := hcells i (E i) (by simp [hi])
    rw [← he]
    simpa using this
  · obtain ⟨_, h2⟩ := h.1
    rcases h2 with ⟨h2, _⟩ | ⟨g, cap, cur, h2, _, _, h3, h4, _⟩
    · injection h2 with e1 e2 e3
      subst e1 e3
      exact ⟨by omega, by unfold maxLen; omega, .inl ⟨rfl, by omega, rfl⟩⟩
    · injection h2 with e1 e2 e3
      subst e1 e3
      exact ⟨h3, h4, .inr (.inr ⟨g, 0, rfl, by
        rename_i q _ _
        exact lt_of_block (by assumption), fun i hi => by omega⟩)⟩
set_option maxRecDepth 100000 in
set_option maxHeartbeats 4000000 in
theorem isbest_go (w : World) (x y : Option Addr) (n c m d : Nat) (W : Wd) (p : List Int) (hA : A2Sl w x n c W.acts) (hp : Sl w y m d p) (hok : isPlanB W p = true) :
    Calls Try.prog 57 #[wv W.a W.b x n c, .slice y m d] w fun e w' => e = .returned (.bool (isBestB W p)) ∧ Below w.heap.size w w' := by
  have hb0 := bal (Below.refl w.heap.size w) (.cells #[.int .i64 W.a, .int .i64 W.b, .slice x n c] 25)
  have HZ := Lib.hid (boxR_new w W.a W.b x n c)
  have HA := Lib.hid (hA.mono hb0)
  have HP := Lib.hid (hp.mono hb0)
  have HB0 := Lib.hid hb0
  have HV := Lib.hid (plan_parts hok).1
  have HOK := Lib.hid hok
  have HNA := Lib.hid hA.1
  clear hA hp hb0 hok
  go_enter Try.func57, Try.ntmps57
  go_wp2_with fail
  generalize w.alloc (.cells #[.int .i64 W.a, .int .i64 W.b, .slice x n c] 25) = V0 at *
  refine (rworth_go _ x y n c m d W p HA.out HP.out HOK.out).mono ?_
  rintro e w1 hq
  obtain ⟨xa, xc, rfl, hF, hb⟩ := gives_fr2 hq (n := n) (by rw [worthF_len]; exact HNA.out)
  clear hq
  have HF := Lib.hid hF
  have HB1 := Lib.hid hb
  obtain ⟨z0, z1, z2, z3⟩ := (HZ.out.mono hb).cells
  clear hF hb
  go_wp2_with fail
  refine (rplans_go _ x n c W (HA.out.mono HB1.out) HV.out).mono ?_
  rintro e w2 ⟨ra, rm, rc, E, rfl, hrm, hP, hb⟩
  have HM := Lib.hid (hP.rows hrm)
  have HRM := Lib.hid hrm
  have HF2 := Lib.hid (HF.out.mono hb)
  have HB2 := Lib.hid (btr HB1.out hb)
  have hcr := HM.out.2.cap
  have hcx := HF.out.2.cap
  unfold maxLen at hcr hcx
  clear hP hb hrm z0 z1 z2 z3
  go_wp2
  go_loopw [16] (fun t wr => ∃ i : Nat, i ≤ rm ∧ t = .int .i64 i ∧ Hid (∀ j, j < i → rowOk W p (rw_ (allP W.acts) j) = true) ∧ Hid (Below w2.heap.size w2 wr)) (fun t _ => rm - (intOf t).toNat)
  case atStart => exact ⟨0, by omega, rfl, Lib.hid (fun j hj => by omega), Lib.hid (Below.refl _ _)⟩
  case round =>
    obtain ⟨i, hi, rfl, HR, HC⟩ := hrel
    by_cases hli : i < rm
    · have HBB := Lib.hid (btr HB2.out HC.out)
      obtain ⟨b, off, rfl, hb, hc⟩ := (HM.out.mono HC.out).at (by omega)
      obtain ⟨z, k, q, eo, hS⟩ := hc i hli
      have HSq := Lib.hid hS
      have hmem : rw_ (allP W.acts) i ∈ allP W.acts := by
        have : i < (allP W.acts).length := by rw [← HRM.out]; exact hli
        unfold rw_
        rw [List.getD_eq_getElem?_getD, List.getElem?_eq_getElem this]
        exact List.getElem_mem this
      have HQ := Lib.hid (mem_plan HV.out hmem)
      have HME := Lib.hid hmem
      obtain ⟨z0, z1, z2, z3⟩ := (HZ.out.mono HBB.out).cells
      have HA3 := Lib.hid (HA.out.mono HBB.out)
      clear hc hS hmem
      go_wp2_with fail
      refine (rworth_go _ x z n c k q W _ HA3.out HSq.out HQ.out).mono ?_
      rintro e w3 hq
      obtain ⟨ya, yc, rfl, hG, hb9⟩ := gives_fr2 hq (n := n) (by rw [worthF_len]; exact HNA.out)
      clear hq
      have HG := Lib.hid hG
      have HF3 := Lib.hid (HF2.out.mono (btr HC.out hb9))
      have HB3 := Lib.hid (btr HC.out hb9)
      have hcy := HG.out.2.cap
      unfold maxLen at hcy
      clear hG hb9 z0 z1 z2 z3
      go_wp2
      go_loopw [24] (fun t wr => ∃ s : Nat, s ≤ n ∧ t = .int .i64 s ∧ Hid (∀ j, j < s → notLess (fr (worthF W p) j) (fr (worthF W (rw_ (allP W.acts) i)) j) = true) ∧ Hid (Below w3.heap.size w3 wr)) (fun t _ => n - (intOf t).toNat)
      case atStart => exact ⟨0, by omega, rfl, Lib.hid (fun j hj => by omega), Lib.hid (Below.refl _ _)⟩
      case round =>
        obtain ⟨s, hs, rfl, HN, HE⟩ := hrel
        by_cases hl : s < n
        · have hsA : s < W.acts.length := by rw [HNA.out]; exact hl
          obtain ⟨b1, o1, rfl, hb1, h1⟩ := (HF3.out.mono HE.out).at (by omega)
          obtain ⟨b2, o2, rfl, hb2, h2⟩ := (HG.out.mono HE.out).at (by omega)
          obtain ⟨p1, p2⟩ := h1 s hl
          obtain ⟨p3, p4⟩ := h2 s hl
          have lx := worth_low HOK.out hsA
          have ly := worth_low HQ.out hsA
          obtain ⟨gt, hgt⟩ : ∃ gt, decide ((fr (worthF W p) s).n * (fr (worthF W (rw_ (allP W.acts) i)) s).d < (fr (worthF W (rw_ (allP W.acts) i)) s).n * (fr (worthF W p) s).d) = gt := ⟨_, rfl⟩
          have HNS := Lib.hid (show gt = false → ∀ j, j < s + 1 → notLess (fr (worthF W p) j) (fr (worthF W (rw_ (allP W.acts) i)) j) = true from fun hg j hj => by
            by_cases e : j = s
            · subst e; unfold notLess; rw [hgt, hg]; rfl
            · exact HN.out j (by omega))
          have HNO := Lib.hid (show gt = true → isBestB W p = false from fun hg => by
            unfold isBestB
            rw [List.all_eq_false]
            refine ⟨_, HME.out, ?_⟩
            unfold rowOk
            rw [Bool.not_eq_true, List.all_eq_false]
            refine ⟨s, List.mem_range.2 hsA, ?_⟩
            unfold notLess
            rw [hgt, hg]; simp)
          have i1 : s < xc := by omega
          have i2 : s < yc := by omega
          generalize fr (worthF W p) s = fx at *
          generalize fr (worthF W (rw_ (allP W.acts) i)) s = fy at *
          have HGTT := Lib.hid hgt
          have HLX := Lib.hid lx
          have HLY := Lib.hid ly
          have hbx := bal (Below.refl wr.heap.size wr) (.cells #[.int .i64 fy.n, .int .i64 fy.d] 53)
          have hC : Below wr.heap.size wr (wr.alloc (.cells #[.int .i64 fy.n, .int .i64 fy.d] 53)).drew := hbx.drew
          have HNB := Lib.hid (new_at wr (.cells #[.int .i64 fy.n, .int .i64 fy.d] 53))
          have hD : Below (wr.alloc (.cells #[.int .i64 fy.n, .int .i64 fy.d] 53)).heap.size (wr.alloc (.cells #[.int .i64 fy.n, .int .i64 fy.d] 53)) (wr.alloc (.cells #[.int .i64 fy.n, .int .i64 fy.d] 53)).drew := (Below.refl _ _).drew
          have HSX := Lib.hid (fun (w' : World) (hb : Below (wr.alloc (.cells #[.int .i64 fy.n, .int .i64 fy.d] 53)).heap.size (wr.alloc (.cells #[.int .i64 fy.n, .int .i64 fy.d] 53)) w') =>
            (show w'.cell? ⟨b1, o1 + s * 2, none⟩ = some (.int .i64 fx.n) ∧ w'.cell? ⟨b1, o1 + s * 2 + 1, none⟩ = some (.int .i64 fx.d) ∧ w'.cell? ⟨wr.heap.size, 0, none⟩ = some (.int .i64 fy.n) ∧ w'.cell? ⟨wr.heap.size, 1, none⟩ = some (.int .i64 fy.d) from
              have hh := btr hbx hb
              have q := persist HNB.out hb
              ⟨((bcell hh).1 _ _ hb1).trans p1, ((bcell hh).1 _ _ hb1).trans p2, by rw [cells_at q]; rfl, by rw [cells_at q]; rfl⟩))
          obtain ⟨r1, r2, r3, r4⟩ := HSX.out _ hD
          have HBX := Lib.hid hbx
          clear h1 h2 lx ly hgt p1 p2 hbx
          go_wp2
          go_region_held3 (fun w' => w'.cell? ⟨b1, o1 + s * 2, none⟩ = some (.int .i64 fx.n) ∧ w'.cell? ⟨b1, o1 + s * 2 + 1, none⟩ = some (.int .i64 fx.d) ∧ w'.cell? ⟨wr.heap.size, 0, none⟩ = some (.int .i64 fy.n) ∧ w'.cell? ⟨wr.heap.size, 1, none⟩ = some (.int .i64 fy.d))
            (first | exact HSX.out _ hD | go_keep)
            (((with_reducible refine (less_go _ fx fy HLX.out HLY.out).mono ?_); rintro e w' ⟨rfl, hb⟩; rw [HGTT.out]; replace hD := btr hD hb; clear hb))
          clear hC r1 r2 r3 r4
          have HDD := Lib.hid (btr HBX.out hD)
          clear hD
          cases gt with
          | true =>
            have HF0 := Lib.hid (HNO.out rfl)
            go_wp2
            go_ret
            rw [HF0.out]
            exact ⟨rfl, btr HB0.out (btr HB2.out (btr HB3.out (btr HE.out HDD.out)))⟩
          | false =>
            have HF1 := Lib.hid (HNS.out rfl)
            go_wp2
            go_roundw
            case rel => go_light; exact ⟨s + 1, by omega, by go_num, HF1, Lib.hid (btr HE.out HDD.out)⟩
            case measure => simp [intOf]; omega
        · obtain rfl : s = n := by omega
          have HR2 := Lib.hid (show ∀ j, j < i + 1 → rowOk W p (rw_ (allP W.acts) j) = true from fun j hj => by
            by_cases e : j = i
            · subst e
              unfold rowOk
              rw [List.all_eq_true]
              exact fun t ht => HN.out t (by have := List.mem_range.1 ht; rw [HNA.out] at this; exact this)
            · exact HR.out j (by omega))
          go_wp2
          go_roundw
          case rel => go_light; first | exact ⟨i + 1, by omega, by go_num, HR2, Lib.hid (btr HB3.out HE.out)⟩ | ((repeat apply Exists.intro); exact ⟨⟨i + 1, by omega, by go_num, HR2, Lib.hid (btr HB3.out HE.out)⟩, rfl⟩)
          case measure => simp [intOf]; omega
    · obtain rfl : i = rm := by omega
      have HT := Lib.hid (show isBestB W p = true by
        unfold isBestB
        rw [List.all_eq_true]
        intro q hq
        obtain ⟨j, hj, rfl⟩ := List.mem_iff_getElem.1 hq
        have := HR.out j (by rw [HRM.out]; exact hj)
        unfold rw_ at this
        rwa [List.getD_eq_getElem?_getD, List.getElem?_eq_getElem hj] at this)
      go_wp2
      go_ret
      rw [HT.out]
      exact ⟨rfl, btr HB0.out (btr HB2.out HC.out)⟩
def GivesRB (W : Wd) (n : Nat) (w : World) (e : Ending) (w' : World) : Prop := ∃ a c p, e = .returned (.slice a n c) ∧ Sl w' a n c p ∧ isPlanB W p = true ∧ (allP W.acts).find? (isBestB W) = some p ∧ Below w.heap.size w w'
set_option maxRecDepth 100000 in
set_option maxHeartbeats 4000000 in
theorem rbest_go (w : World) (x : Option Addr) (n c : Nat) (W : Wd) (hA : A2Sl w x n c W.acts) (hok : vWd W = true) (hex : ∃ q, isPlanB W q = true ∧ isBestB W q = true) :
    Calls Try.prog 30 #[wv W.a W.b x n c] w (GivesRB W n w) := by
  have hb0 := bal (Below.refl w.heap.size w) (.cells #[.int .i64 W.a, .int .i64 W.b, .slice x n c] 25)
  have HZ := Lib.hid (boxR_new w W.a W.b x n c)
  have HA := Lib.hid (hA.mono hb0)
  have HB0 := Lib.hid hb0
  have HV := Lib.hid hok
  have HX := Lib.hid hex
  have HNA := Lib.hid hA.1
  clear hA hb0 hok hex
  go_enter Try.func30, Try.ntmps30
  go_wp2_with fail
  generalize w.alloc (.cells #[.int .i64 W.a, .int .i64 W.b, .slice x n c] 25) = V0 at *
  refine (rplans_go _ x n c W HA.out HV.out).mono ?_
  rintro e w2 ⟨ra, rm, rc, E, rfl, hrm, hP, hb⟩
  have HM := Lib.hid (hP.rows hrm)
  have HRM := Lib.hid hrm
  have HB2 := Lib.hid hb
  have hcr := HM.out.2.cap
  unfold maxLen at hcr
  clear hP hb hrm
  go_wp2
  go_loopw [8] (fun t wr => ∃ i : Nat, i ≤ rm ∧ t = .int .i64 i ∧ Hid (∀ j, j < i → isBestB W (rw_ (allP W.acts) j) = false) ∧ Hid (Below w2.heap.size w2 wr)) (fun t _ => rm - (intOf t).toNat)
  case atStart => exact ⟨0, by omega, rfl, Lib.hid (fun j hj => by omega), Lib.hid (Below.refl _ _)⟩
  case round =>
    obtain ⟨i, hi, rfl, HR, HC⟩ := hrel
    by_cases hli : i < rm
    · have HBB := Lib.hid (btr HB2.out HC.out)
      obtain ⟨b, off, rfl, hb, hc⟩ := (HM.out.mono HC.out).at (by omega)
      obtain ⟨z, k, q, eo, hS⟩ := hc i hli
      have HSq := Lib.hid hS
      have hil : i < (allP W.acts).length := by rw [← HRM.out]; exact hli
      have hget : rw_ (allP W.acts) i = (allP W.acts)[i] := by unfold rw_; rw [List.getD_eq_getElem?_getD, List.getElem?_eq_getElem hil]; rfl
      have hmem : rw_ (allP W.acts) i ∈ allP W.acts := by rw [hget]; exact List.getElem_mem hil
      have hqp := mem_plan HV.out hmem
      have hk : k = n := by rw [← hS.len, (plan_parts hqp).2.1]; exact HNA.out
      subst hk
      have HQ := Lib.hid hqp
      have HFD := Lib.hid (show isBestB W (rw_ (allP W.acts) i) = true → (allP W.acts).find? (isBestB W) = some (rw_ (allP W.acts) i) from fun hb => by
        rw [List.find?_eq_some_iff_getElem]
        refine ⟨hb, i, hil, hget.symm, fun j hj => ?_⟩
        have := HR.out j hj
        unfold rw_ at this
        rw [List.getD_eq_getElem?_getD, List.getElem?_eq_getElem (by omega)] at this
        simpa using this)
      obtain ⟨z0, z1, z2, z3⟩ := (HZ.out.mono HBB.out).cells
      have HA3 := Lib.hid (HA.out.mono HBB.out)
      clear hc hS hmem hget hqp
      go_wp2_with fail
      refine (isbest_go _ x z k c k q W _ HA3.out HSq.out HQ.out).mono ?_
      rintro e w3 ⟨rfl, hb9⟩
      have HB3 := Lib.hid (btr HC.out hb9)
      have HS3 := Lib.hid (HSq.out.mono hb9)
      clear hb9
      cases hg : isBestB W (rw_ (allP W.acts) i) with
      | true =>
        have HF0 := Lib.hid (HFD.out hg)
        clear hg
        go_wp2
        go_ret
        exact ⟨_, _, _, rfl, HS3.out, HQ.out, HF0.out, btr HB0.out (btr HB2.out HB3.out)⟩
      | false =>
        have HF1 := Lib.hid (show ∀ j, j < i + 1 → isBestB W (rw_ (allP W.acts) j) = false from fun j hj => by
          by_cases e : j = i
          · subst e; exact hg
          · exact HR.out j (by omega))
        clear hg
        go_wp2
        go_roundw
        case rel => go_light; exact ⟨i + 1, by omega, by go_num, HF1, HB3⟩
        case measure => simp [intOf]; omega
    · obtain rfl : i = rm := by omega
      exfalso
      obtain ⟨q, hq, hqb⟩ := HX.out
      obtain ⟨j, hj, rfl⟩ := List.mem_iff_getElem.1 (plan_mem hq)
      have := HR.out j (by rw [HRM.out]; exact hj)
      unfold rw_ at this
      rw [List.getD_eq_getElem?_getD, List.getElem?_eq_getElem hj] at this
      rw [show ((some (allP W.acts)[j]).getD []) = (allP W.acts)[j] from rfl, hqb] at this
      cases this
end Go.Proofs.Ytcmakddnjmeklaa
