/- Chapter 9, the reference: Better. -/
import Derived.Test.YtcmakddnjmeklaaRp
namespace Go.Proofs.Ytcmakddnjmeklaa
open Go.RowKit
set_option linter.unusedSimpArgs false

def GivesRBt (W : Wd) (p : List Int) (n : Nat) (w : World) (e : Ending) (w' : World) : Prop :=
  if foundP W p = true then ∃ a c, e = .returned (.tuple #[.slice a n c, .int .i64 0]) ∧ Sl w' a n c (nextP W p) ∧ Below w.heap.size w w'
  else e = .returned (.tuple #[.slice none 0 0, .int .i64 4]) ∧ Below w.heap.size w w'
set_option maxRecDepth 100000 in
set_option maxHeartbeats 4000000 in
theorem rbetter_go (w : World) (x y : Option Addr) (n c m d : Nat) (W : Wd) (p : List Int) (hA : A2Sl w x n c W.acts) (hp : Sl w y m d p) (hok : isPlanB W p = true) :
    Calls Try.prog 32 #[wv W.a W.b x n c, .slice y m d] w (GivesRBt W p n w) := by
  have hb0 := bal (Below.refl w.heap.size w) (.cells #[.int .i64 W.a, .int .i64 W.b, .slice x n c] 25)
  have HZ := Lib.hid (boxR_new w W.a W.b x n c)
  have HA := Lib.hid (hA.mono hb0)
  have HP := Lib.hid (hp.mono hb0)
  have HB0 := Lib.hid hb0
  have HOK := Lib.hid hok
  have HNA := Lib.hid hA.1
  have HBF := Lib.hid (best_found hok)
  have hcn := hA.2.cap
  have hcm := hp.cap
  unfold maxLen at hcn hcm
  obtain ⟨_, hpl, hpa, ⟨hn1, hn4, _⟩, _⟩ := plan_parts hok
  have hnA := hA.1
  have hmp := hp.len
  obtain rfl : m = n := by omega
  have HPA := Lib.hid (show ∀ s, s < m → 0 ≤ nth p s ∧ nth p s < (acl W.acts s).length from fun s hs => hpa s (by omega))
  have hn1 : 1 ≤ m := by omega
  have hn4 : m ≤ 4 := by omega
  clear hA hp hb0 hok hpl hpa hnA hmp
  go_enter Try.func32, Try.ntmps32
  go_wp2_with fail
  generalize w.alloc (.cells #[.int .i64 W.a, .int .i64 W.b, .slice x m c] 25) = V0 at *
  refine (isbest_go _ x y m c m d W p HA.out HP.out HOK.out).mono ?_
  rintro e w1 ⟨rfl, hb⟩
  rw [HBF.out]
  have HB1 := Lib.hid hb
  clear hb
  cases hf : foundP W p with
  | false =>
    have HFP := Lib.hid hf
    clear hf
    go_wp2
    go_ret2
    unfold GivesRBt
    rw [if_neg (by rw [HFP.out]; simp)]
    exact ⟨rfl, btr HB0.out HB1.out⟩
  | true =>
    have HFP := Lib.hid hf
    clear hf
    obtain ⟨z0, z1, z2, z3⟩ := (HZ.out.mono HB1.out).cells
    go_wp2_with fail
    refine (rworth_go _ x y m c m d W p (HA.out.mono HB1.out) (HP.out.mono HB1.out) HOK.out).mono ?_
    rintro e w2 hq
    obtain ⟨xa, xc, rfl, hF, hb⟩ := gives_fr2 hq (n := m) (by rw [worthF_len]; exact HNA.out)
    clear hq z0 z1 z2 z3
    have HF := Lib.hid hF
    have HB2 := Lib.hid (btr HB1.out hb)
    obtain ⟨z0, z1, z2, z3⟩ := (HZ.out.mono HB2.out).cells
    clear hF hb
    go_wp2
    go_loopw [7, 22] (fun v t wr => ∃ s : Nat, s ≤ m ∧ t = .int .i64 s ∧ Hid (wr.ownsRow w2.heap.size 3 1 v s (((nextP W p).take s).map (Value.int .i64))) ∧ Hid (Below w2.heap.size w2 wr)) (fun _ t _ => m - (intOf t).toNat)
    case atStart => exact ⟨0, by omega, rfl, Lib.hid (World.ownsRow_nil _ _ _ _), Lib.hid (Below.refl _ _)⟩
    case round =>
      clear z0 z1 z2 z3
      obtain ⟨s, hs, rfl, HO, HC⟩ := hrel
      by_cases hl : s < m
      · generalize wr = U at *
        have hsA : s < W.acts.length := by rw [HNA.out]; exact hl
        obtain ⟨hp0, hp1⟩ := HPA.out s hl
        have HBB := Lib.hid (btr HB2.out HC.out)
        obtain ⟨b1, o1, rfl, hb1, hc1⟩ := (HA.out.mono HBB.out).at (by omega)
        obtain ⟨a2, m2, q2, e2, h2⟩ := hc1 s hl
        have hl2 := h2.1
        have HL2 := Lib.hid hl2
        obtain ⟨t, ht⟩ : ∃ t : Nat, nth p s = (t : Int) := ⟨(nth p s).toNat, by omega⟩
        have htm : t < m2 := by omega
        obtain ⟨b3, o3, rfl, hb3, hc3⟩ := (HP.out.mono HBB.out).at (by omega)
        have e3 := hc3 s hl
        rw [ht] at e3
        have HACT := Lib.hid (fun i (hi : i < m2) => actF_big HOK.out hsA (i := i) (by omega))
        have HMA := Lib.hid (fun i j (hi : i < m2) (hj : j < m2) => moW_act HOK.out hsA (i := i) (j := j) (by omega) (by omega))
        have HRX := Lib.hid (fun k (hk : k ≤ m2) => rIx_lt (mo := moW W p s) (show 0 < m2 by omega) k hk)
        have HNX := Lib.hid (show nth (nextP W p) s = ((if moW W p s (rIx (moW W p s) m2) t then rIx (moW W p s) m2 else t : Nat) : Int) by
          have q := next_rIx HOK.out hsA
          rw [ht, hl2] at q
          exact q)
        have HCALL := Lib.hid (fun (w' : World) (i : Nat) (hi : i < m2) (z : Option Addr) (k q : Nat) (g : Int) (f : Fr) (hb : Below w2.heap.size w2 w') (hg : (ac (acl W.acts s) i).g = g) (hf : actF W p s i = f) (ho : Sl w' z k q (ac (acl W.acts s) i).o) =>
          ractW_go w' (some ⟨b1, o1, none⟩) m c xa m xc W p HOK.out s i hsA (by omega) z k q g f hg hf ho (HF.out.mono hb))
        have HTK := Lib.hid (take_nth (l := nextP W p) (k := s) (by rw [nextP_len]; exact hsA))
        have hcn2 := h2.2.cap
        have hcF := (HF.out).2.cap
        unfold maxLen at hcn2 hcF
        have HA2 := Lib.hid h2
        clear hc1 hc3 h2
        obtain ⟨z0, z1, z2, z3⟩ := (HZ.out.mono HBB.out).cells
        obtain ⟨va, vc, rfl⟩ := own_form HO.out
        go_wp2
        go_loopw [10, 29] (fun v t2 wr => ∃ k r : Nat, k ≤ m2 ∧ r < m2 ∧ t2 = .int .i64 k ∧ v = .int .i64 r ∧ Hid (rIx (moW W p s) k = r) ∧ Hid (Below U.heap.size U wr)) (fun _ t _ => m2 - (intOf t).toNat)
        case atStart => exact ⟨0, 0, by omega, by omega, rfl, rfl, Lib.hid rfl, Lib.hid (Below.refl _ _)⟩
        case round =>
          clear z0 z1 z2 z3
          obtain ⟨k, r, hk, hr, rfl, rfl, HR, HE⟩ := hrel
          have HBW := Lib.hid (btr HBB.out HE.out)
          have HWU := Lib.hid (btr HC.out HE.out)
          obtain ⟨b2, o2, rfl, hb2, hc2⟩ := (HA2.out.mono HE.out).at (by omega)
          obtain ⟨egr, zr, kr, qr, eor, hSr⟩ := hc2 r hr
          obtain ⟨gr, hgr⟩ : ∃ g, (ac (acl W.acts s) r).g = g := ⟨_, rfl⟩
          rw [hgr] at egr
          have HGR := Lib.hid hgr
          have HSR := Lib.hid hSr
          obtain ⟨fR, hfR⟩ : ∃ f, actF W p s r = f := ⟨_, rfl⟩
          have HFRB := Lib.hid (show FrBig fR by rw [← hfR]; exact HACT.out r hr)
          have HC1 := Lib.hid (fun (w' : World) (hb : Below wr.heap.size wr w') => HCALL.out w' r hr zr kr qr gr fR (btr HWU.out hb) HGR.out hfR (HSR.out.mono hb))
          obtain ⟨z0, z1, z2, z3⟩ := (HZ.out.mono HBW.out).cells
          have hbx2 : b2 < wr.heap.size := hb2
          by_cases hlk : k < m2
          · obtain ⟨egk, zk, kk, qk, eok, hSk⟩ := hc2 k hlk
            obtain ⟨gk, hgk⟩ : ∃ g, (ac (acl W.acts s) k).g = g := ⟨_, rfl⟩
            rw [hgk] at egk
            have HGK := Lib.hid hgk
            have HSK := Lib.hid hSk
            obtain ⟨fK, hfK⟩ : ∃ f, actF W p s k = f := ⟨_, rfl⟩
            have HFKB := Lib.hid (show FrBig fK by rw [← hfK]; exact HACT.out k hlk)
            have HC2 := Lib.hid (fun (w' : World) (hb : Below wr.heap.size wr w') => HCALL.out w' k hlk zk kk qk gk fK (btr HWU.out hb) HGK.out hfK (HSK.out.mono hb))
            obtain ⟨gt, hgt⟩ : ∃ gt, decide (fR.n * fK.d < fK.n * fR.d) = gt := ⟨_, rfl⟩
            have HGTT := Lib.hid hgt
            have HNX1 := Lib.hid (show rIx (moW W p s) (k + 1) = if gt = true then k else r by
              have q := HMA.out k r hlk hr
              rw [hfK, hfR, hgt] at q
              show (if moW W p s k (rIx (moW W p s) k) = true then k else rIx (moW W p s) k) = _
              rw [HR.out, q])
            have hbx := bal (Below.refl wr.heap.size wr) (.cells #[.int .i64 gk, .slice zk kk qk] 42)
            have HNB := Lib.hid (new_at wr (.cells #[.int .i64 gk, .slice zk kk qk] 42))
            have hD : Below (wr.alloc (.cells #[.int .i64 gk, .slice zk kk qk] 42)).heap.size (wr.alloc (.cells #[.int .i64 gk, .slice zk kk qk] 42)) (wr.alloc (.cells #[.int .i64 gk, .slice zk kk qk] 42)).drew := (Below.refl _ _).drew
            have HBX := Lib.hid hbx
            have HSX := Lib.hid (fun (w' : World) (hb : Below (wr.alloc (.cells #[.int .i64 gk, .slice zk kk qk] 42)).heap.size (wr.alloc (.cells #[.int .i64 gk, .slice zk kk qk] 42)) w') =>
              (show w'.cell? ⟨w.heap.size, 0, none⟩ = some (.int .i64 W.a) ∧ w'.cell? ⟨w.heap.size, 1, none⟩ = some (.int .i64 W.b) ∧ w'.cell? ⟨w.heap.size, 2, none⟩ = some (.slice (some ⟨b1, o1, none⟩) m c) ∧ w'.cell? ⟨b2, o2 + r * 2, none⟩ = some (.int .i64 gr) ∧ w'.cell? ⟨b2, o2 + r * 2 + 1, none⟩ = some (.slice zr kr qr) ∧ w'.cell? ⟨wr.heap.size, 0, none⟩ = some (.int .i64 gk) ∧ w'.cell? ⟨wr.heap.size, 1, none⟩ = some (.slice zk kk qk) from
                have hh := btr HBX.out hb
                have q := persist HNB.out hb
                have qw := (HZ.out.mono (btr HBW.out hh)).cells
                ⟨qw.2.1, qw.2.2.1, qw.2.2.2, ((bcell hh).1 _ _ hbx2).trans egr, ((bcell hh).1 _ _ hbx2).trans eor, by rw [cells_at q]; rfl, by rw [cells_at q]; rfl⟩))
            obtain ⟨r1, r2, r3, r4, r5, r6, r7⟩ := HSX.out _ hD
            clear hc2 hgr hgk hfR hfK hgt hbx hSr hSk
            go_wp2
            go_region_held3 (fun w' => w'.cell? ⟨w.heap.size, 0, none⟩ = some (.int .i64 W.a) ∧ w'.cell? ⟨w.heap.size, 1, none⟩ = some (.int .i64 W.b) ∧ w'.cell? ⟨w.heap.size, 2, none⟩ = some (.slice (some ⟨b1, o1, none⟩) m c) ∧ w'.cell? ⟨b2, o2 + r * 2, none⟩ = some (.int .i64 gr) ∧ w'.cell? ⟨b2, o2 + r * 2 + 1, none⟩ = some (.slice zr kr qr) ∧ w'.cell? ⟨wr.heap.size, 0, none⟩ = some (.int .i64 gk) ∧ w'.cell? ⟨wr.heap.size, 1, none⟩ = some (.slice zk kk qk))
              (first | exact HSX.out _ hD | go_keep)
              (first
                | ((with_reducible refine (HC1.out _ (btr HBX.out hD)).mono ?_); rintro e w' ⟨rfl, hb⟩; replace hD := btr hD hb; clear hb)
                | ((with_reducible refine (HC2.out _ (btr HBX.out hD)).mono ?_); rintro e w' ⟨rfl, hb⟩; replace hD := btr hD hb; clear hb)
                | ((with_reducible refine (lessB_go _ fR fK HFRB.out HFKB.out).mono ?_); rintro e w' ⟨rfl, hb⟩; rw [HGTT.out]; replace hD := btr hD hb; clear hb))
            have HDD := Lib.hid (btr HE.out (btr HBX.out hD))
            clear hD r1 r2 r3 r4 r5 r6 r7 HSX HNB HBX
            cases gt with
            | true =>
              have HN2 := Lib.hid (show rIx (moW W p s) (k + 1) = k from HNX1.out)
              go_wp2
              go_roundw
              case rel => go_light; exact ⟨k + 1, k, by omega, by omega, by go_num, rfl, HN2, HDD⟩
              case measure => simp [intOf]; omega
            | false =>
              have HN2 := Lib.hid (show rIx (moW W p s) (k + 1) = r from HNX1.out)
              go_wp2
              go_roundw
              case rel => go_light; exact ⟨k + 1, r, by omega, by omega, by go_num, rfl, HN2, HDD⟩
              case measure => simp [intOf]; omega
          · obtain rfl : k = m2 := by omega
            obtain ⟨egt, zt, kt, qt, eot, hSt⟩ := hc2 t htm
            obtain ⟨gt0, hgt0⟩ : ∃ g, (ac (acl W.acts s) t).g = g := ⟨_, rfl⟩
            rw [hgt0] at egt
            have HGT0 := Lib.hid hgt0
            have HST := Lib.hid hSt
            obtain ⟨fT, hfT⟩ : ∃ f, actF W p s t = f := ⟨_, rfl⟩
            have HFTB := Lib.hid (show FrBig fT by rw [← hfT]; exact HACT.out t htm)
            have HC2 := Lib.hid (fun (w' : World) (hb : Below wr.heap.size wr w') => HCALL.out w' t htm zt kt qt gt0 fT (btr HWU.out hb) HGT0.out hfT (HST.out.mono hb))
            obtain ⟨gt, hgt⟩ : ∃ gt, decide (fT.n * fR.d < fR.n * fT.d) = gt := ⟨_, rfl⟩
            have HGTT := Lib.hid hgt
            have HNX1 := Lib.hid (show nth (nextP W p) s = ((if gt = true then r else t : Nat) : Int) by
              have q := HMA.out r t hr htm
              rw [hfT, hfR, hgt] at q
              have q2 := HNX.out
              rw [HR.out, q] at q2
              exact q2)
            have e3w : wr.cell? ⟨b3, o3 + s, none⟩ = some (.int .i64 t) := ((bcell HE.out).1 _ _ hb3).trans e3
            have hb3w : b3 < wr.heap.size := by have := HE.out.size; omega
            have hD : Below wr.heap.size wr wr.drew := (Below.refl _ _).drew
            have HSX := Lib.hid (fun (w' : World) (hb : Below wr.heap.size wr w') =>
              (show w'.cell? ⟨w.heap.size, 0, none⟩ = some (.int .i64 W.a) ∧ w'.cell? ⟨w.heap.size, 1, none⟩ = some (.int .i64 W.b) ∧ w'.cell? ⟨w.heap.size, 2, none⟩ = some (.slice (some ⟨b1, o1, none⟩) m c) ∧ w'.cell? ⟨b2, o2 + r * 2, none⟩ = some (.int .i64 gr) ∧ w'.cell? ⟨b2, o2 + r * 2 + 1, none⟩ = some (.slice zr kr qr) ∧ w'.cell? ⟨b2, o2 + t * 2, none⟩ = some (.int .i64 gt0) ∧ w'.cell? ⟨b2, o2 + t * 2 + 1, none⟩ = some (.slice zt kt qt) ∧ w'.cell? ⟨b3, o3 + s, none⟩ = some (.int .i64 t) from
                have qw := (HZ.out.mono (btr HBW.out hb)).cells
                ⟨qw.2.1, qw.2.2.1, qw.2.2.2, ((bcell hb).1 _ _ hbx2).trans egr, ((bcell hb).1 _ _ hbx2).trans eor, ((bcell hb).1 _ _ hbx2).trans egt, ((bcell hb).1 _ _ hbx2).trans eot, ((bcell hb).1 _ _ hb3w).trans e3w⟩))
            obtain ⟨r1, r2, r3, r4, r5, r6, r7, r8⟩ := HSX.out _ hD
            clear hc2 hgr hgt0 hfR hfT hgt hSr hSt
            go_wp2
            go_region_held3 (fun w' => w'.cell? ⟨w.heap.size, 0, none⟩ = some (.int .i64 W.a) ∧ w'.cell? ⟨w.heap.size, 1, none⟩ = some (.int .i64 W.b) ∧ w'.cell? ⟨w.heap.size, 2, none⟩ = some (.slice (some ⟨b1, o1, none⟩) m c) ∧ w'.cell? ⟨b2, o2 + r * 2, none⟩ = some (.int .i64 gr) ∧ w'.cell? ⟨b2, o2 + r * 2 + 1, none⟩ = some (.slice zr kr qr) ∧ w'.cell? ⟨b2, o2 + t * 2, none⟩ = some (.int .i64 gt0) ∧ w'.cell? ⟨b2, o2 + t * 2 + 1, none⟩ = some (.slice zt kt qt) ∧ w'.cell? ⟨b3, o3 + s, none⟩ = some (.int .i64 t))
              (first | exact HSX.out _ hD | go_keep)
              (first
                | ((with_reducible refine (HC1.out _ hD).mono ?_); rintro e w' ⟨rfl, hb⟩; replace hD := btr hD hb; clear hb)
                | ((with_reducible refine (HC2.out _ hD).mono ?_); rintro e w' ⟨rfl, hb⟩; replace hD := btr hD hb; clear hb)
                | ((with_reducible refine (lessB_go _ fT fR HFTB.out HFRB.out).mono ?_); rintro e w' ⟨rfl, hb⟩; rw [HGTT.out]; replace hD := btr hD hb; clear hb))
            have HDD := Lib.hid (btr HE.out hD)
            clear r1 r2 r3 r4 r5 r6 r7 r8
            obtain ⟨_, _, _, _, _, _, _, r8⟩ := HSX.out _ hD
            have hown := own_mono HO.out HDD.out
            have hz1 := HDD.out.size
            have hz2 := HC.out.size
            clear hD HSX HC1 HC2
            have hb3v := Nat.lt_of_lt_of_le hb3 hz1
            cases gt with
            | true =>
              have HN2 := Lib.hid (show (nextP W p).take (s + 1) = (nextP W p).take s ++ [(r : Int)] by rw [HTK.out, HNX1.out]; rfl)
              go_wp2_with (at_builtin; refine wpList_app1 rfl _ _ 26 rfl Try.underlying26 infoInt rfl (by decide) w2.heap.size (.slice va s vc) s _ rfl (hown.alloc _) _ #[.int .i64 (r : Int)] rfl (new_at _ _) rfl (by simp [Value.oneCell']) (by omega) (by omega) (by simp; omega) ?_; intro v' wn hown' hgrow; obtain ⟨wa, wc, rfl⟩ := own_form hown')
              have HO2 := Lib.hid (show wn.ownsRow w2.heap.size 3 1 (.slice wa (s + 1) wc) (s + 1) (((nextP W p).take (s + 1)).map (Value.int .i64)) by rw [HN2.out, List.map_append]; exact hown')
              have HBN := Lib.hid ((bal (btr HC.out HDD.out) (.cells #[.int .i64 (r : Int)] 3)).grown hgrow (by simp; omega) (fun i hi => (hown.lt i hi).1))
              clear hown hown' hgrow
              go_wp2
              go_roundw
              case rel => go_light; first | exact ⟨s + 1, by omega, by go_num, HO2, HBN⟩ | ((repeat apply Exists.intro); exact ⟨⟨s + 1, by omega, by go_num, HO2, HBN⟩, rfl⟩)
              case measure => simp [intOf]; omega
            | false =>
              have HN2 := Lib.hid (show (nextP W p).take (s + 1) = (nextP W p).take s ++ [(t : Int)] by rw [HTK.out, HNX1.out]; rfl)
              go_wp2_with (at_builtin; refine wpList_app1 rfl _ _ 26 rfl Try.underlying26 infoInt rfl (by decide) w2.heap.size (.slice va s vc) s _ rfl (hown.alloc _) _ #[.int .i64 (t : Int)] rfl (new_at _ _) rfl (by simp [Value.oneCell']) (by omega) (by omega) (by simp; omega) ?_; intro v' wn hown' hgrow; obtain ⟨wa, wc, rfl⟩ := own_form hown')
              have HO2 := Lib.hid (show wn.ownsRow w2.heap.size 3 1 (.slice wa (s + 1) wc) (s + 1) (((nextP W p).take (s + 1)).map (Value.int .i64)) by rw [HN2.out, List.map_append]; exact hown')
              have HBN := Lib.hid ((bal (btr HC.out HDD.out) (.cells #[.int .i64 (t : Int)] 3)).grown hgrow (by simp; omega) (fun i hi => (hown.lt i hi).1))
              clear hown hown' hgrow
              go_wp2
              go_roundw
              case rel => go_light; first | exact ⟨s + 1, by omega, by go_num, HO2, HBN⟩ | ((repeat apply Exists.intro); exact ⟨⟨s + 1, by omega, by go_num, HO2, HBN⟩, rfl⟩)
              case measure => simp [intOf]; omega
      · obtain rfl : s = m := by omega
        have hO := HO.out
        rw [List.take_of_length_le (by rw [nextP_len, HNA.out]; exact Nat.le_refl _)] at hO
        obtain ⟨va, vc, rfl⟩ := own_form hO
        have HS := Lib.hid (own_sl hO)
        clear hO
        go_wp2
        go_ret2
        unfold GivesRBt
        rw [if_pos HFP.out]
        exact ⟨_, _, rfl, HS.out, btr HB0.out (btr HB2.out HC.out)⟩
end Go.Proofs.Ytcmakddnjmeklaa
