/- TopAffine. -/
import Derived.Test.YtiapngmallfelaaGj
namespace Go.Proofs.Ytiapngmallfelaa
open Go.RowKit
set_option linter.unusedSimpArgs false
theorem ok_len {L : List Nat} (hL : ∀ x ∈ L, x < 9) (hr : risB (ints L) = true) : L.length ≤ 9 := by
  have h : ∀ i, i < L.length → i ≤ gn L i := by
    intro i
    induction i with
    | zero => intro _; omega
    | succ i ih =>
      intro hi
      have h1 := ih (by omega)
      have h2 := rise_lt hr (i := i) (j := i + 1) (by omega) hi
      omega
  rcases Nat.lt_or_ge 9 L.length with h1 | h1
  · have h2 := h 9 h1
    have h3 := hL _ (gn_mem h1)
    omega
  · exact h1
theorem ok_list {l : List Int} (h : okC l = true) : ∃ L : List Nat, l = ints L ∧ (∀ x ∈ L, x < 9) ∧ risB (ints L) = true ∧ L.length ≤ 9 := by
  have h2 : l.all (inB 9) = true ∧ risB l = true := by unfold okC at h; simpa using h
  have h3 : ∀ x ∈ l, 0 ≤ x ∧ x < 9 := fun x hx => by
    have := List.all_eq_true.1 h2.1 x hx
    simpa [inB] using this
  have he : l = ints (l.map Int.toNat) := by
    unfold ints
    rw [List.map_map]
    conv => lhs; rw [← List.map_id l]
    refine List.map_congr_left fun x hx => ?_
    have := h3 x hx
    simp
    omega
  have hL : ∀ x ∈ l.map Int.toNat, x < 9 := fun x hx => by
    obtain ⟨y, hy, rfl⟩ := List.mem_map.1 hx
    have := h3 y hy
    omega
  have hr := h2.2
  rw [he] at hr
  exact ⟨_, he, hL, hr, ok_len hL hr⟩
theorem pts4_lt {L : List Nat} (hL : ∀ x ∈ L, x < 9) : ∀ x ∈ pts4 L, x < 13 := fun x hx => by
  obtain ⟨y, hy, rfl⟩ := List.mem_map.1 hx
  have := hL y hy
  omega
theorem pts4_len (L : List Nat) : (pts4 L).length = L.length := by simp [pts4]
theorem all_in {M : List Nat} {K : Nat} (h : ∀ x ∈ M, x < K) : (ints M).all (inB K) = true := by
  rw [List.all_eq_true]
  intro z hz
  obtain ⟨x, hx, rfl⟩ := List.mem_map.1 hz
  have := h x hx
  simp [inB, this]
theorem pts4_rise {L : List Nat} (hr : risB (ints L) = true) : risB (ints (pts4 L)) = true := by
  refine ris_yes fun i h1 h2 => ?_
  rw [show (ints (pts4 L)).length = L.length by simp [ints, pts4]] at h2
  rw [nth_ints, nth_ints, gn_pts4 h2, gn_pts4 (by omega)]
  have := rise_lt hr (i := i - 1) (j := i) (by omega) h2
  omega
set_option maxHeartbeats 2000000 in
theorem laffine_no (w : World) (a : Option Addr) (n cap : Nat) (l : List Int) (hs : Sl w a n cap l) (hok : okC (l.take (min n 12)) = false) :
    Calls Try.prog 6 #[.slice a n cap] w fun e w' => e = .returned (.bool true) ∧ Below w.heap.size w w' := by
  have hcap : n ≤ cap ∧ cap ≤ maxLen := ⟨hs.2.1, hs.2.2.1⟩
  unfold maxLen at hcap
  have HC := Lib.hid (fun (m : Nat) (hm : m ≤ n) (hm2 : m ≤ 12) => clone_go w a m cap _ (hs.take m hm) (by omega))
  have HK := Lib.hid (fun (m : Nat) (hm : m = min n 12) (w' : World) (a : Option Addr) (n' cap : Nat) (hs : Sl w' a n' cap (l.take m)) => cCap_no w' a n' cap _ hs (by rw [hm]; exact hok))
  have HP := Lib.hid (fun w' => picks_go w')
  clear hs hok
  go_enter Try.func6, Try.ntmps6
  go_wp2_with fail
  all_goals
    refine (HC.out _ (by omega) (by omega)).mono ?_
    rintro e w' ⟨ca, cn, cc, rfl, hown, hb⟩
    have HO := Lib.hid (own_sl hown)
    have HB := Lib.hid hb
    clear hown hb
    go_wp2_with fail
    refine (HK.out _ (by omega) _ _ _ _ HO.out).mono ?_
    rintro e w2 ⟨rfl, hb⟩
    have HB2 := Lib.hid (btr HB.out hb)
    clear hb
    go_wp2_with fail
    refine (HP.out _).mono ?_
    rintro e w3 ⟨rfl, hb⟩
    have HB3 := Lib.hid (btr HB2.out hb)
    clear hb
    go_wp2
    go_ret
    exact ⟨rfl, HB3.out⟩
theorem pts4_snoc {L : List Nat} {i : Nat} (h : i < L.length) : pts4 (L.take (i + 1)) = pts4 (L.take i) ++ [4 + gn L i] := by
  unfold pts4
  rw [List.take_add_one, List.map_append, gn_of_lt h]
  simp [h]
theorem near_yes {M : List Nat} {i : Nat} (h : i < M.length) (h4 : 4 ≤ gn M i) : nearF (M.take (i + 1)) = nearF (M.take i) ++ [gn M i - 4] := by
  unfold nearF
  rw [List.take_add_one, List.filter_append, List.map_append]
  rw [gn_of_lt h] at h4 ⊢
  simp [h, h4]
theorem near_no {M : List Nat} {i : Nat} (h : i < M.length) (h4 : ¬ 4 ≤ gn M i) : nearF (M.take (i + 1)) = nearF (M.take i) := by
  unfold nearF
  rw [List.take_add_one, List.filter_append, List.map_append]
  rw [gn_of_lt h] at h4
  simp [h]
  omega
theorem nearF_len (M : List Nat) (i : Nat) : (nearF (M.take i)).length ≤ M.length := by
  unfold nearF
  rw [List.length_map]
  have h1 := List.length_filter_le (fun x => decide (4 ≤ x)) (M.take i)
  have h2 : (M.take i).length ≤ M.length := by rw [List.length_take]; omega
  omega
theorem equal_eqs (w : World) (a c : Option Addr) (n p m q : Nat) (l k : List Int) (hs : Sl w a n p l) (ht : Sl w c m q k) (hlk : l = k) :
    Calls Try.prog 29 #[.slice a n p, .slice c m q] w fun e w' => e = .returned (.bool true) ∧ ∃ m, w' = w.drewN m := by
  subst hlk
  exact (equal_go w a c n p m q l l hs ht).mono fun _ _ ⟨h1, h2⟩ => ⟨by rw [h1]; simp, h2⟩
set_option maxHeartbeats 8000000 in
theorem laffine_yes (w : World) (a : Option Addr) (n cap : Nat) (L : List Nat) (hs : Sl w a n cap (ints L)) (hL : ∀ x ∈ L, x < 9) (hr : risB (ints L) = true) (hn : n ≤ 9) (hok : okC (ints L) = true) :
    Calls Try.prog 6 #[.slice a n cap] w fun e w' => e = .returned (.bool true) ∧ Below w.heap.size w w' := by
  have hcap : n ≤ cap ∧ cap ≤ maxLen := ⟨hs.2.1, hs.2.2.1⟩
  unfold maxLen at hcap
  have hlen : L.length = n := by have := hs.len; unfold ints at this; simpa using this
  have HGL := Lib.hid (gn_lt hL (by omega))
  have HCA := cap_arc hL hr
  have HNL := Lib.hid (near_law hL hr)
  rw [hlen] at HCA HNL
  have hL4 := pts4_lt hL
  have hr4 := pts4_rise hr
  have hi4 := all_in hL4
  have HLN := Lib.hid hlen
  have HS := Lib.hid hs
  have HC := Lib.hid (fun (w' : World) (hb : Below w.heap.size w w') => clone_go w' a n cap _ (hs.mono hb) (by omega))
  have HK := Lib.hid (fun (w' : World) (a : Option Addr) (cap : Nat) (hs : Sl w' a n cap (ints L)) => cCap_yes w' a n cap _ hs hL hn hok)
  have HRC := Lib.hid (fun (w' : World) (hb : Below w.heap.size w w') => rcards_go w' a n cap _ (hs.mono hb) hok)
  have HAR := Lib.hid (fun (w' : World) (a : Option Addr) (cap : Nat) (hs : Sl w' a n cap (ints (pts4 L))) => a3Arc_go w' a n cap _ hs hi4 hr4 hL4 (by omega))
  have HFS := Lib.hid (fun (h : cI L n ≠ 0) (w' : World) (a : Option Addr) (cap : Nat) (hs : Sl w' a n cap (ints L)) => cFree_some w' a n cap _ hs hL hn hok h)
  have HFN := Lib.hid (fun (h : cI L n = 0) (w' : World) (a : Option Addr) (cap : Nat) (hs : Sl w' a n cap (ints L)) => cFree_none w' a n cap _ hs hL hn hok h)
  have HAS := Lib.hid (fun (h : arc0 (pts4 L) n = false) (w' : World) (a : Option Addr) (cap : Nat) (hs : Sl w' a n cap (ints (pts4 L))) => a3Free_some w' a n cap _ hs hi4 hr4 hL4 (by omega) h)
  have HAN := Lib.hid (fun (h : arc0 (pts4 L) n = true) (w' : World) (a : Option Addr) (cap : Nat) (hs : Sl w' a n cap (ints (pts4 L))) => a3Free_none w' a n cap _ hs hi4 hr4 hL4 (by omega) h)
  have HP := Lib.hid (fun w' => picks_go w')
  obtain ⟨z, hz⟩ : ∃ z, cI L n = z := ⟨_, rfl⟩
  rw [hz] at HK HCA HFS HFN
  rw [HCA] at HAR HAS HAN
  obtain ⟨ok, hkk⟩ : ∃ ok, (z == 0) = ok := ⟨_, rfl⟩
  rw [hkk] at HK HAR HAS HAN
  have HKK := Lib.hid hkk
  clear hs hlen hL hr hok hL4 hr4 hi4 HCA hz hkk
  go_enter Try.func6, Try.ntmps6
  go_wp2_with fail
  refine (HC.out _ (Below.refl _ _)).mono ?_
  rintro e w1 ⟨ca, cn, cc, rfl, hown, hb⟩
  have hcn : cn = n := by have h1 := (own_sl hown).len; have h2 := HS.out.len; omega
  subst hcn
  have HO := Lib.hid (own_sl hown)
  have HB := Lib.hid hb
  clear hown hb
  go_wp2_with fail
  refine (HK.out _ _ _ HO.out).mono ?_
  rintro e w2 ⟨rfl, hb⟩
  have HB2 := Lib.hid (btr HB.out hb)
  clear hb HO HB
  go_wp2_with fail
  refine (HRC.out _ HB2.out).mono ?_
  rintro e w3 ⟨rfl, rfl⟩
  go_wp2
  go_loopw [5, 39] (fun v t wr => ∃ i : Nat, i ≤ cn ∧ t = .int .i64 i ∧ Hid (wr.ownsRow w.heap.size 3 1 v i ((ints (pts4 (L.take i))).map (Value.int .i64))) ∧ Hid (Below w.heap.size w wr)) (fun _ t _ => cn - (intOf t).toNat)
  case atStart => exact ⟨0, by omega, rfl, Lib.hid (World.ownsRow_nil _ _ _ _), HB2⟩
  case round =>
    clear HB2
    obtain ⟨i, hi, rfl, HO, HB⟩ := hrel
    obtain ⟨va, vc, rfl⟩ := own_form HO.out
    by_cases hin : i < cn
    · obtain ⟨b, off, rfl, hb, hc, _⟩ := sl_at (HS.out.mono HB.out) (by omega)
      have e1 := hc i hin
      rw [nth_ints] at e1
      have hx9 := HGL.out i
      have HF := Lib.hid (pts4_snoc (L := L) (i := i) (by rw [HLN.out]; exact hin))
      generalize gn L i = x at *
      have hown := HO.out
      have hz := HB.out.size
      have k1 : IntKind.i64.wrap (4 + (x : Int)) = ((4 + x : Nat) : Int) := by rw [IntWalk.i64_left, IntWalk.wrap64_in _ (by omega)]; omega
      clear hc
      go_wp2_with (at_builtin; refine wpList_app1 rfl _ _ 22 rfl Try.underlying22 infoInt rfl (by decide) w.heap.size (.slice va i vc) i _ rfl (hown.alloc _) wr.heap.size #[.int .i64 ((4 + x : Nat) : Int)] rfl (new_at _ _) rfl (by simp [Value.oneCell']) (by omega) (by omega) (by simp; omega) ?_; intro v' wn hown' hgrow; obtain ⟨wa, wc, rfl⟩ := own_form hown')
      have HO2 := Lib.hid (show wn.ownsRow w.heap.size 3 1 (.slice wa (i + 1) wc) (i + 1) ((ints (pts4 (L.take (i + 1)))).map (Value.int .i64)) by
        rw [HF.out, ints_app, List.map_append]; exact hown')
      have HBN := Lib.hid ((bal HB.out (.cells #[.int .i64 ((4 + x : Nat) : Int)] 3)).grown hgrow (by simp; omega) (fun j hj => (hown.lt j hj).1))
      clear hown hown' hgrow e1
      go_wp2
      go_roundw
      case rel => go_light; exact ⟨i + 1, by omega, by go_num, HO2, HBN⟩
      case measure => simp [intOf]; omega
    · obtain rfl : i = cn := by omega
      have HO2 : Hid (Sl wr va i vc (ints (pts4 L))) := Lib.hid (by
        have h := own_sl HO.out
        rwa [List.take_of_length_le (by rw [HLN.out]; omega)] at h)
      have hz := HB.out.size
      clear HO
      go_wp2_with fail
      refine (clone_go wr va i vc _ HO2.out (by omega)).mono ?_
      rintro e w1 ⟨da, dn, dc, rfl, hown, hb⟩
      have hdn : dn = i := by have h1 := (own_sl hown).len; have h2 := HO2.out.len; omega
      subst hdn
      have HOD := Lib.hid (own_sl hown)
      have HB1 := Lib.hid (btr HB.out hb)
      have HOS := Lib.hid (HO2.out.mono hb)
      clear hown hb HO2 HB
      go_wp2_with fail
      refine (HAR.out _ _ _ HOD.out).mono ?_
      rintro e w2 ⟨rfl, hb⟩
      have HB2 := Lib.hid (btr HB1.out hb)
      have HOS2 := Lib.hid (HOS.out.mono hb)
      clear hb HB1 HOS HOD HAR HRC HK
      cases ok with
      | false =>
        have hz0 : z ≠ 0 := by have := HKK.out; rwa [beq_eq_false_iff_ne] at this
        have HF1 := Lib.hid (HFS.out hz0)
        have HF2 := Lib.hid (HAS.out rfl)
        clear HFS HFN HAS HAN hz0
        go_wp2_with fail
        refine (HC.out _ HB2.out).mono ?_
        rintro e w3 ⟨ea, en, ec, rfl, hown, hb⟩
        have hen : en = dn := by have h1 := (own_sl hown).len; have h2 := HS.out.len; omega
        subst hen
        have HOE := Lib.hid (own_sl hown)
        have HB3 := Lib.hid (btr HB2.out hb)
        have HOS3 := Lib.hid (HOS2.out.mono hb)
        clear hown hb HB2 HOS2
        go_wp2_with fail
        refine (HF1.out _ _ _ HOE.out).mono ?_
        rintro e w4 ⟨rfl, hb⟩
        have HB4 := Lib.hid (btr HB3.out hb)
        have HOS4 := Lib.hid (HOS3.out.mono hb)
        clear hb HB3 HOS3 HOE
        go_wp2_with fail
        refine (HF2.out _ _ _ HOS4.out).mono ?_
        rintro e w5 ⟨rfl, hb⟩
        have HB5 := Lib.hid (btr HB4.out hb)
        clear hb HB4 HOS4
        go_wp2_with fail
        refine (HP.out _).mono ?_
        rintro e w6 ⟨rfl, hb⟩
        have HB6 := Lib.hid (btr HB5.out hb)
        clear hb HB5
        go_wp2
        go_ret
        exact ⟨rfl, HB6.out⟩
      | true =>
        have hz0 : z = 0 := by have := HKK.out; rwa [beq_iff_eq] at this
        have HF1 := Lib.hid (HFN.out hz0)
        have HF2 := Lib.hid (HAN.out rfl)
        clear HFS HFN HAS HAN hz0
        go_wp2_with fail
        refine (HC.out _ HB2.out).mono ?_
        rintro e w3 ⟨ea, en, ec, rfl, hown, hb⟩
        have hen : en = dn := by have h1 := (own_sl hown).len; have h2 := HS.out.len; omega
        subst hen
        have HOE := Lib.hid (own_sl hown)
        have HB3 := Lib.hid (btr HB2.out hb)
        have HOS3 := Lib.hid (HOS2.out.mono hb)
        clear hown hb HB2 HOS2
        go_wp2_with fail
        refine (HF1.out _ _ _ HOE.out).mono ?_
        rintro e w4 ⟨fa, fn, fc, rfl, hown, hb⟩
        have HA4 := Lib.hid (own_sl hown)
        have HB4 := Lib.hid (btr HB3.out hb)
        have HOS4 := Lib.hid (HOS3.out.mono hb)
        clear hown hb HB3 HOS3 HOE
        go_wp2_with fail
        refine (HF2.out _ _ _ HOS4.out).mono ?_
        rintro e w5 ⟨ga, gl, gc, rfl, hown, hb⟩
        have HM5 := Lib.hid (own_sl hown)
        have HA5 := Lib.hid (HA4.out.mono hb)
        have HB5 := Lib.hid (btr HB4.out hb)
        have HM13 := Lib.hid (freeT_len (fun q => blk (pts4 L) q en) 13)
        obtain ⟨M, hM⟩ : ∃ M, freeT (fun q => blk (pts4 L) q en) 13 = M := ⟨_, rfl⟩
        rw [hM] at HM5 HNL HM13
        have hgl : M.length = gl := by have := HM5.out.len; unfold ints at this; simpa using this
        have hg13 : gl ≤ 13 := by have := HM13.out; omega
        have hgm : ∀ i, gn M i < 13 := gn_lt (fun x hx => by
          rw [← hM] at hx
          exact List.mem_range.1 (List.mem_filter.1 hx).1) (by omega)
        have HGM := Lib.hid hgm
        have HGN := Lib.hid hgl
        have hgc := HM5.out.2.1
        have hgc2 := HM5.out.2.2.1
        unfold maxLen at hgc2
        clear hown hb HB4 HOS4 HA4 hM hgl hgm HM13 HF1 HF2
        go_wp2
        obtain ⟨X, hX⟩ : ∃ X, w5 = X := ⟨_, rfl⟩
        rw [hX] at HM5 HA5 HB5 ⊢
        clear hX
        go_loopw [12, 86] (fun v t wr => ∃ i : Nat, i ≤ gl ∧ t = .int .i64 i ∧ Hid (wr.ownsRow X.heap.size 3 1 v (nearF (M.take i)).length ((ints (nearF (M.take i))).map (Value.int .i64))) ∧ Hid (Below X.heap.size X wr)) (fun _ t _ => gl - (intOf t).toNat)
        case atStart => exact ⟨0, by omega, rfl, Lib.hid (World.ownsRow_nil _ _ _ _), Lib.hid (Below.refl _ _)⟩
        case round =>
          obtain ⟨i, hi, rfl, HO, HB⟩ := hrel
          obtain ⟨va2, vc2, rfl⟩ := own_form HO.out
          have hfl := nearF_len M i
          rw [HGN.out] at hfl
          by_cases hin : i < gl
          · obtain ⟨b, off, rfl, hb, hc, _⟩ := sl_at (HM5.out.mono HB.out) (by omega)
            have e1 := hc i hin
            rw [nth_ints] at e1
            have hx13 := HGM.out i
            have HFY := Lib.hid (near_yes (M := M) (i := i) (by rw [HGN.out]; exact hin))
            have HFO := Lib.hid (near_no (M := M) (i := i) (by rw [HGN.out]; exact hin))
            obtain ⟨x, hx⟩ : ∃ x, gn M i = x := ⟨_, rfl⟩
            rw [hx] at e1 hx13 HFY HFO
            clear hc hx
            by_cases h4 : 4 ≤ x
            · have HF := Lib.hid (HFY.out h4)
              have hown := HO.out
              have hz2 := HB.out.size
              obtain ⟨fl, hfe⟩ : ∃ fl, (nearF (M.take i)).length = fl := ⟨_, rfl⟩
              rw [hfe] at hown hfl
              have HFE := Lib.hid hfe
              rw [HFE.out]
              obtain ⟨y, hy⟩ : ∃ y, x - 4 = y := ⟨_, rfl⟩
              rw [hy] at HF
              have k1 : IntKind.i64.wrap ((x : Int) - 4) = (y : Int) := by rw [IntWalk.i64_left, IntWalk.wrap64_in _ (by omega)]; omega
              clear hfe HFY HFO hy
              go_wp2_with (at_builtin; refine wpList_app1 rfl _ _ 22 rfl Try.underlying22 infoInt rfl (by decide) X.heap.size (.slice va2 fl vc2) fl _ rfl (hown.alloc _) wr.heap.size #[.int .i64 (y : Int)] rfl (new_at _ _) rfl (by simp [Value.oneCell']) (by omega) (by omega) (by simp; omega) ?_; intro v' wn hown' hgrow; obtain ⟨wa, wc, rfl⟩ := own_form hown')
              have HO2 := Lib.hid (show wn.ownsRow X.heap.size 3 1 (.slice wa (fl + 1) wc) (nearF (M.take (i + 1))).length ((ints (nearF (M.take (i + 1)))).map (Value.int .i64)) by
                rw [HF.out, ints_app, List.map_append, List.length_append, HFE.out]; exact hown')
              have HBN := Lib.hid ((bal HB.out (.cells #[.int .i64 (y : Int)] 3)).grown hgrow (by simp; omega) (fun j hj => (hown.lt j hj).1))
              clear hown hown' hgrow e1
              go_wp2
              go_roundw
              case rel => go_light; exact ⟨i + 1, by omega, by go_num, HO2, HBN⟩
              case measure => simp [intOf]; omega
            · have HF := Lib.hid (HFO.out h4)
              have HO2 := Lib.hid (show wr.ownsRow X.heap.size 3 1 (.slice va2 (nearF (M.take i)).length vc2) (nearF (M.take (i + 1))).length ((ints (nearF (M.take (i + 1)))).map (Value.int .i64)) by rw [HF.out]; exact HO.out)
              clear HFY HFO HO
              generalize (nearF (M.take i)).length = fl at *
              go_wp2
              go_roundw
              case rel => go_light; exact ⟨i + 1, by omega, by go_num, HO2, HB⟩
              case measure => simp [intOf]; omega
          · obtain rfl : i = gl := by omega
            have hown := HO.out
            rw [List.take_of_length_le (by rw [HGN.out]; omega)] at hown
            rw [List.take_of_length_le (by rw [HGN.out]; omega)]
            have HN2 := Lib.hid (own_sl hown)
            have HEQ := Lib.hid (equal_eqs wr fa va2 fn fc _ vc2 _ _ (HA5.out.mono HB.out) HN2.out (by rw [HNL.out]))
            have HB6 := Lib.hid (btr HB5.out HB.out)
            clear hown HO
            generalize (nearF M).length = fl at *
            go_wp2_with fail
            refine HEQ.out.mono ?_
            rintro e w6 ⟨rfl, q, rfl⟩
            go_wp2_with fail
            refine (HP.out _).mono ?_
            rintro e w7 ⟨rfl, hb⟩
            have HB7 := Lib.hid (btr (drewN_below (n := q) HB6.out) hb)
            clear hb
            go_wp2
            go_ret
            exact ⟨rfl, HB7.out⟩
theorem laffine_walk (w : World) (a : Option Addr) (n cap : Nat) (l : List Int) (hs : Sl w a n cap l) :
    Calls Try.prog 6 #[.slice a n cap] w fun e w' => e = .returned (.bool true) ∧ Below w.heap.size w w' := by
  cases hok : okC (l.take (min n 12)) with
  | false => exact laffine_no w a n cap l hs hok
  | true =>
    obtain ⟨L, he, hL, hr, hl9⟩ := ok_list hok
    have hll := hs.len
    have h1 : (l.take (min n 12)).length = L.length := by rw [he]; simp [ints]
    rw [List.length_take] at h1
    have h2 : l.take (min n 12) = l := List.take_of_length_le (by omega)
    rw [h2] at he hok
    rw [he] at hs hok
    exact laffine_yes w a n cap L hs hL hr (by omega) hok
end Go.Proofs.Ytiapngmallfelaa
