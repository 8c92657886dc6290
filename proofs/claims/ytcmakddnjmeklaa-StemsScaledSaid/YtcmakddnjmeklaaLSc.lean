/- Chapter 9: StemsScaled's walk. -/
import Derived.Test.YtcmakddnjmeklaaSo
import Derived.Test.YtcmakddnjmeklaaIe
namespace Go.Proofs.Ytcmakddnjmeklaa
open Go.RowKit
set_option linter.unusedSimpArgs false

theorem freq_nil (w : World) (a b : Option Addr) (c d : Nat) :
    Calls Try.prog 34 #[.slice a 0 c, .slice b 0 d] w fun e w' => e = .returned (.bool true) ∧ ∃ m, w' = w.drewN m := by
  go_enter Try.func34, Try.ntmps34
  go_wp2
  go_loop [13] (fun i => i = .int .i64 0) (fun _ => 0)
  case atStart => rfl
  case round =>
    subst hrel
    go_wp2
    go_ret
    exact ⟨rfl, 0, rfl⟩
theorem uint_mod {st : Int} {n : Nat} (h1 : 1 ≤ n) (h4 : n ≤ 1000) : ∃ s : Nat, wrap64 ((IntKind.u64.wrap st).tmod (n : Int)) = (s : Int) ∧ s < n := by
  have h0 : 0 ≤ IntKind.u64.wrap st := by
    show 0 ≤ st % 18446744073709551616
    exact Int.emod_nonneg _ (by decide)
  have h2 : 0 ≤ (IntKind.u64.wrap st).tmod (n : Int) := Int.tmod_nonneg _ h0
  have h3 : (IntKind.u64.wrap st).tmod (n : Int) < n := Int.tmod_lt_of_pos _ (by omega)
  generalize (IntKind.u64.wrap st).tmod (n : Int) = z at *
  refine ⟨z.toNat, ?_, by omega⟩
  rw [IntWalk.wrap64_in _ (by omega)]
  omega
theorem yield_not (w : World) (x y : Option Addr) (n c m d g : Nat) (W : Wd) (p : List Int) (hA : A2Sl w x n c W.acts) (hp : Sl w y m d p) (hok : isPlanB W p = true) (hg : g < n) (hag : agOk W p g = false) :
    Calls Try.prog 41 #[wv W.a W.b x n c, .slice y m d, .int .i64 g] w fun e w' => e = .returned (.tuple #[.agg #[.int .i64 0, .int .i64 0], .int .i64 5]) ∧ Below w.heap.size w w' :=
  yieldU_go w x y n c m d g W p hA hp hok hg ⟨0, 0⟩ 5 (fun h => by rw [hag] at h; cases h) (fun _ => ⟨rfl, rfl⟩)
theorem yield_ok (w : World) (x y : Option Addr) (n c m d g : Nat) (W : Wd) (p : List Int) (hA : A2Sl w x n c W.acts) (hp : Sl w y m d p) (hok : isPlanB W p = true) (hg : g < n) (hag : agOk W p g = true) {yn yd : Int} (h1 : (yF W p g).n = yn) (h2 : (yF W p g).d = yd) :
    Calls Try.prog 41 #[wv W.a W.b x n c, .slice y m d, .int .i64 g] w fun e w' => e = .returned (.tuple #[.agg #[.int .i64 yn, .int .i64 yd], .int .i64 0]) ∧ Below w.heap.size w w' := by
  subst h1 h2
  exact yieldU_go w x y n c m d g W p hA hp hok hg (yF W p g) 0 (fun _ => ⟨rfl, rfl⟩) (fun h => by rw [hag] at h; cases h)
def FrBx (w : World) (p : Nat) (a b : Int) : Prop := w.heap[p]? = some (.cells #[.int .i64 a, .int .i64 b] 53 (0, 0))
theorem FrBx.mono {w w' : World} {p : Nat} {a b : Int} (h : FrBx w p a b) (hb : Below w.heap.size w w') : FrBx w' p a b := persist h hb
theorem FrBx.cells {w : World} {p : Nat} {a b : Int} (h : FrBx w p a b) : p < w.heap.size ∧ w.cell? ⟨p, 0, none⟩ = some (.int .i64 a) ∧ w.cell? ⟨p, 1, none⟩ = some (.int .i64 b) := ⟨lt_of_block h, by rw [cells_at h]; rfl, by rw [cells_at h]; rfl⟩
theorem FrBx.all {w : World} {p : Nat} {a b : Int} (h : FrBx w p a b) : p < w.heap.size ∧ w.cell? ⟨p, 0, none⟩ = some (.int .i64 a) ∧ w.cell? ⟨p, 1, none⟩ = some (.int .i64 b) ∧ w.frozen? ⟨p, 0, none⟩ = false ∧ w.frozen? ⟨p, 1, none⟩ = false :=
  ⟨h.cells.1, h.cells.2.1, h.cells.2.2, free_at h 0, free_at h 1⟩
theorem FrBx.new {w w' : World} {a b : Int} (hb : Below (w.alloc (.cells #[.int .i64 a, .int .i64 b] 53)).heap.size (w.alloc (.cells #[.int .i64 a, .int .i64 b] 53)) w') : FrBx w' w.heap.size a b := persist (new_at w _) hb
theorem FrBx.put {w : World} {q : Nat} {a b : Int} (h : FrBx w q a b) (x y : Int) : FrBx ((w.setCell ⟨q, 0, none⟩ (.int .i64 x)).setCell ⟨q, 1, none⟩ (.int .i64 y)) q x y := set_at (set_at h 0 (.int .i64 x)) 1 (.int .i64 y)
theorem BoxW.mono {w w' : World} {p : Nat} {a b : Int} {x : Option Addr} {n c : Nat} (h : BoxW w p a b x n c) (hb : Below w.heap.size w w') : BoxW w' p a b x n c := persist h hb
set_option maxRecDepth 100000 in
set_option maxHeartbeats 16000000 in
theorem lsc_walk (w : World) (x : Option Addr) (n c : Nat) (W : Wd) (hA : A2Sl w x n c W.acts) (y : Option Addr) (m d : Nat) (p : List Int) (hp : Sl w y m d p) (_hpb : ∀ z ∈ p, -9223372036854775808 ≤ z ∧ z ≤ 9223372036854775807) (sv : Int) (_hs1 : -9223372036854775808 ≤ sv) (_hs2 : sv ≤ 9223372036854775807) (av : Int) (_ha1 : -9223372036854775808 ≤ av) (_ha2 : av ≤ 9223372036854775807) (bv : Int) (_hb1 : -9223372036854775808 ≤ bv) (_hb2 : bv ≤ 9223372036854775807) (st : Int) (_hd1 : -9223372036854775808 ≤ st) (_hd2 : st ≤ 9223372036854775807) :
    Calls Try.prog 14 #[wv W.a W.b x n c, .slice y m d, .int .i64 sv, .int .i64 av, .int .i64 bv, .int .i64 st] w fun e w' => e = .returned (.bool true) ∧ Below w.heap.size w w' := by
  have hb0 := bal (Below.refl w.heap.size w) (.cells #[.int .i64 W.a, .int .i64 W.b, .slice x n c] 25)
  have HZ := Lib.hid (boxR_new w W.a W.b x n c)
  have HA := Lib.hid (hA.mono hb0)
  have HB0 := Lib.hid hb0
  have HB := Lib.hid (Bel.refl (w.alloc (.cells #[.int .i64 W.a, .int .i64 W.b, .slice x n c] 25)))
  have HNA := Lib.hid hA.1
  have hcn := hA.2.cap
  have HP := Lib.hid (hp.mono hb0)
  have hcm := hp.cap
  unfold maxLen at hcn hcm
  clear hA hp hb0
  cases hs : isPlanB W p with
  | false =>
    have HS0 := Lib.hid hs
    clear hs
    go_enter Try.func14, Try.ntmps14
    go_wp2_with fail
    refine (fine_go _ x y n c m d W p HA.out HP.out).mono ?_
    rintro e w1 ⟨rfl, hb⟩
    replace HZ := Lib.hid (HZ.out.mono hb)
    replace HA := Lib.hid (HA.out.mono hb)
    replace HB := Lib.hid (HB.out.mono hb)
    replace HP := Lib.hid (HP.out.mono hb)
    rw [HS0.out]
    clear hb
    obtain ⟨z0, z1, z2, z3⟩ := HZ.out.cells
    go_wp2_with fail
    refine (awake_go _).mono ?_
    rintro e w2 ⟨rfl, hb⟩
    replace HZ := Lib.hid (HZ.out.mono hb)
    replace HA := Lib.hid (HA.out.mono hb)
    replace HB := Lib.hid (HB.out.mono hb)
    replace HP := Lib.hid (HP.out.mono hb)
    clear hb
    go_wp2
    go_ret
    exact ⟨rfl, btr HB0.out HB.out⟩
  | true =>
    obtain ⟨hw, hpl, hpa, ⟨hn1, hn4, ha1, hab, hbb4⟩, hvv⟩ := plan_parts hs
    have HVV := Lib.hid hvv
    have HTR := Lib.hid (show trL W.acts = W.acts from congrArg Wd.acts (trW_same hw))
    rw [HNA.out] at hn1 hn4 hpl hpa
    have hmn : m = n := by have := HP.out.len; omega
    subst hmn
    have HV := Lib.hid hs
    have HVW := Lib.hid hw
    obtain ⟨s, hse, hsn⟩ := uint_mod (st := sv) (n := m) hn1 (by omega)
    have hsA : s < W.acts.length := by rw [HNA.out]; exact hsn
    obtain ⟨hL1, hL3, hvx⟩ := hvv s hsA
    obtain ⟨a, hae, haA⟩ := uint_mod (st := av) (n := (acl W.acts s).length) hL1 (by omega)
    obtain ⟨r, hre, hr2⟩ := uint_mod (st := bv) (n := 2) (by omega) (by omega)
    have hre : wrap64 ((IntKind.u64.wrap bv).tmod 2) = (r : Int) := hre
    obtain ⟨k, hke⟩ : ∃ k : Int, 2 + (r : Int) = k := ⟨_, rfl⟩
    have hk1 : 2 ≤ k := by omega
    have hk2 : k ≤ 3 := by omega
    have HX := Lib.hid (hvx a haA)
    clear hs hw hpa hvv hvx
    obtain ⟨L, hLe⟩ : ∃ L, (acl W.acts s).length = L := ⟨_, rfl⟩
    have HLE := Lib.hid hLe
    rw [hLe] at hL1 hL3 hae haA
    clear hLe
    go_enter Try.func14, Try.ntmps14
    go_wp2_with fail
    refine (fine_go _ x y m c m d W p HA.out HP.out).mono ?_
    rintro e w1 ⟨rfl, hb⟩
    replace HZ := Lib.hid (HZ.out.mono hb)
    replace HA := Lib.hid (HA.out.mono hb)
    replace HB := Lib.hid (HB.out.mono hb)
    replace HP := Lib.hid (HP.out.mono hb)
    rw [HV.out]
    clear hb
    obtain ⟨z0, z1, z2, z3⟩ := HZ.out.cells
    obtain ⟨z0, z1, z2, z3⟩ := HZ.out.cells
    obtain ⟨b3, o3, rfl, hb3, hc3⟩ := HA.out.at (by omega)
    obtain ⟨a2, m2, q2, e2, h2⟩ := hc3 s hsn
    obtain rfl : L = m2 := by rw [← HLE.out]; exact h2.1
    clear hc3 h2
    generalize w1 = V at *
    go_wp2_with fail
    rw [hse, hae]
    clear hse hae hre hke z0 z1 z2 z3 e2
    refine (of_go _ _ m c W.a W.b W.acts HA.out).mono ?_
    rintro e w5 ⟨x5, n5, c5, rfl, hO, hb⟩
    rw [HTR.out] at hO
    obtain ⟨_, _, e9, hsl⟩ := hO.sl
    injection e9 with e91 e9 e93
    have hn5 : n5 = m := by rw [e9]; exact HNA.out
    subst e91 e93
    clear e9
    subst hn5
    have HBX := Lib.hid (show BoxW (w5.alloc (.cells #[.int .i64 W.a, .int .i64 W.b, .slice x5 n5 c5] 33)) w5.heap.size W.a W.b x5 n5 c5 from new_at w5 _)
    have hbb := bal (Below.refl w5.heap.size w5) (.cells #[.int .i64 W.a, .int .i64 W.b, .slice x5 n5 c5] 33)
    have HOW := Lib.hid (hO.mono hbb)
    have HBV := Lib.hid (btr hb hbb)
    have hc5 := hsl.2.cap
    unfold maxLen at hc5
    have hnc5 := hsl.2.1
    obtain ⟨_, _, hol, hor, _, _⟩ := vAc_at HX.out
    rw [HNA.out] at hol
    obtain ⟨o, hoe⟩ : ∃ o, (ac (acl W.acts s) a).o = o := ⟨_, rfl⟩
    have HOE := Lib.hid hoe
    rw [hoe] at hol hor
    have HOL := Lib.hid hol
    have HOR := Lib.hid hor
    have haA2 : a < (acl W.acts s).length := by rw [HLE.out]; exact haA
    obtain ⟨b1, cc1, g1, cg1, zz, cz, e1, hb1, hg1, hcell, hgc, hlo, hzh, hzs, hzb, hzg, hnc, hcm1, hnz, hczm, _⟩ := HOW.out.odds (s := s) (i := a) hsA haA2 (by rw [hoe]; omega)
    injection e1 with e1 e1n e3
    subst e1 e3
    clear e1n
    rw [HLE.out] at hcell hnc
    rw [hoe, hol] at hgc hnz
    unfold maxLen at hcm1 hczm
    have HC0 := Lib.hid (And.intro hcell hgc)
    clear hO hb hbb hsl hoe hol hor
    obtain ⟨p0, p1, p2, p3⟩ := HBX.out.cells
    go_wp2
    clear p0 p1 p2 p3 hcell hgc
    go_loopw [73] (fun t2 wr => ∃ i : Nat, i ≤ n5 ∧ t2 = .int .i64 i ∧ Hid (∀ j, j < i → nth o j * k ≤ 3) ∧ Hid (Acts2Own wr V.heap.size w5.heap.size (.slice (some ⟨b1, 0, none⟩) n5 c5) (scL k W.acts s a i)) ∧ Hid (wr.cell? ⟨b1, s, none⟩ = some (.slice (some ⟨g1, 0, none⟩) L cg1) ∧ wr.cell? ⟨g1, a * 2 + 1, none⟩ = some (.slice (some ⟨zz, 0, none⟩) n5 cz)) ∧ Hid (BoxW wr w5.heap.size W.a W.b (some ⟨b1, 0, none⟩) n5 c5) ∧ Hid (Below V.heap.size V wr)) (fun t2 _ => n5 - (intOf t2).toNat)
    case atStart => exact ⟨0, by omega, rfl, Lib.hid (fun j hj => by omega), by rw [scL_zero hsA haA2]; exact HOW, HC0, HBX, HBV⟩
    case round =>
      clear HOW HC0 HBX HBV
      obtain ⟨i, hi, rfl, HLT, HO, HC0, HBX, HBV⟩ := hrel
      by_cases hli : i < n5
      · have hio : i < (ac (acl W.acts s) a).o.length := by rw [HOE.out, HOL.out]; exact hli
        have hac : ac (acl (scL k W.acts s a i) s) a = ⟨(ac (acl W.acts s) a).g, scO k o i⟩ := by rw [scL_ac hsA haA2, HOE.out]
        have hll : (acl (scL k W.acts s a i) s).length = L := by rw [scL_acl hsA, List.length_set]; exact HLE.out
        obtain ⟨b2, cc2, g2, cg2, z2, cz2, e2, _, _, hcell2, hgc2, hlo2, hzh2, hzs2, hzb2, hzg2, _, _, _, _, hall⟩ := HO.out.odds (s := s) (i := a) (by rw [scL_len]; exact hsA) (by rw [hll]; exact haA) (by rw [hac]; show 0 < (scO k o i).length; rw [scO_len, HOL.out]; omega)
        injection e2 with e2 e2n e3
        clear e2n e3
        injection e2 with e2
        injection e2 with e2
        subst e2
        have e4 := HC0.out.1.symm.trans hcell2
        injection e4 with e4
        injection e4 with e4 e4n e4c
        clear e4n e4c
        injection e4 with e4
        injection e4 with e4
        subst e4
        have e4 := HC0.out.2.symm.trans hgc2
        injection e4 with e4
        injection e4 with e4 e4n e4c
        clear e4n e4c
        injection e4 with e4
        injection e4 with e4
        subst e4
        obtain ⟨q1, q2, q3⟩ := hall i (by rw [hac]; show i < (scO k o i).length; rw [scO_len, HOL.out]; exact hli)
        have hv1 : nth (ac (acl (scL k W.acts s a i) s) a).o i = nth o i := by rw [hac]; show nth (scO k o i) i = _; rw [scO_at (by rw [HOL.out]; exact hli), if_neg (by omega)]
        rw [hv1] at q1
        have hvb := HOR.out _ (nth_mem (l := o) (k := i) (by rw [HOL.out]; exact hli))
        have HSET := Lib.hid (show Acts2Own _ _ _ _ _ from q3 (nth (ac (acl W.acts s) a).o i * k))
        rw [scL_set hsA haA2 hio, HOE.out] at HSET
        have HLT2 := Lib.hid (fun (h : nth o i * k ≤ 3) => (show ∀ j, j < i + 1 → nth o j * k ≤ 3 from fun j hj => by
          by_cases e : j = i
          · subst e; exact h
          · exact HLT.out j (by omega)))
        generalize nth o i = v at *
        have k1 : IntKind.i64.wrap (v * k) = v * k := by
          have := mul_le3 (A := 3) (B := 3) (a := v) (b := k) (by omega) (by omega) (by omega) (by omega) (by omega)
          exact wrap_i64j _ (by omega) (by omega)
        have HN1 := Lib.hid (show (wr.setCell ⟨zz, i, none⟩ (.int .i64 (v * k))).cell? ⟨b1, s, none⟩ = some (.slice (some ⟨g1, 0, none⟩) L cg1) ∧ (wr.setCell ⟨zz, i, none⟩ (.int .i64 (v * k))).cell? ⟨g1, a * 2 + 1, none⟩ = some (.slice (some ⟨zz, 0, none⟩) n5 cz) from ⟨(World.cell?_setCell_far _ _ _ _ hzb2).trans HC0.out.1, (World.cell?_setCell_far _ _ _ _ hzg2).trans HC0.out.2⟩)
        have HN2 := Lib.hid (show BoxW (wr.setCell ⟨zz, i, none⟩ (.int .i64 (v * k))) w5.heap.size W.a W.b (some ⟨b1, 0, none⟩) n5 c5 from (Below.heap_setCell _ _ _ _ (by show w5.heap.size ≠ zz; omega)).trans HBX.out)
        have HN3 := Lib.hid (HBV.out.setCell (p := ⟨zz, i, none⟩) hlo2 (.int .i64 (v * k)))
        obtain ⟨u1, u2⟩ := HC0.out
        obtain ⟨p0, p1, p2, p3⟩ := HBX.out.cells
        clear hall q3 hv1 hcell2 hgc2 hac hll
        by_cases hgt : 3 < v * k
        · have hd : decide (3 < v * k) = true := by simpa using hgt
          clear HSET HN1 HN2 HN3 HLT2
          go_wp2_with fail
          refine (awake_go _).mono ?_
          rintro e w9 ⟨rfl, hb⟩
          go_wp2
          go_ret
          exact ⟨rfl, btr HB0.out (btr (btr HB.out HBV.out) hb)⟩
        · have hd : decide (3 < v * k) = false := by simpa using hgt
          have HLT3 := Lib.hid (HLT2.out (by omega))
          clear HLT2
          go_wp2
          go_roundw
          case rel => go_light; exact ⟨i + 1, by omega, by go_num, HLT3, HSET, HN1, HN2, HN3⟩
          case measure => simp [intOf]; omega
      · obtain rfl : i = n5 := by omega
        have HV2 := Lib.hid (scW_ok (k := k) (a := a) (by omega) HVW.out hsA haA2 (fun j hj => by rw [HOE.out] at hj ⊢; exact HLT.out j (by rw [← HOL.out]; exact hj)))
        have HSC := Lib.hid (scW_sc (k := k) (W := W) (s := s) (a := a) (by omega) hsA haA2)
        obtain ⟨_, _, e9, hsl⟩ := HO.out.sl
        injection e9 with e91 e9n e93
        subst e91 e93
        clear e9n
        rw [scL_len, HNA.out] at hsl
        have HA2 := Lib.hid (show A2Sl wr _ i _ (scW k W s a).acts by unfold scW; rw [HOE.out, HOL.out]; exact hsl)
        have HVP := Lib.hid (HSC.out.plan HV2.out HV.out)
        clear hsl HO HC0 HLT
        replace HZ := Lib.hid (HZ.out.mono HBV.out)
        replace HA := Lib.hid (HA.out.mono HBV.out)
        replace HP := Lib.hid (HP.out.mono HBV.out)
        replace HB := Lib.hid (HB.out.mono HBV.out)
        clear HBV
        skip
        obtain ⟨z0, z1, z2, z3⟩ := HZ.out.cells
        go_wp2_with fail
        refine (of_ok _ _ i c W HA.out HVW.out).mono ?_
        rintro e w21 ⟨x6, cc6, rfl, hs, hb⟩
        replace HZ := Lib.hid (HZ.out.mono hb)
        replace HA := Lib.hid (HA.out.mono hb)
        replace HB := Lib.hid (HB.out.mono hb)
        replace HP := Lib.hid (HP.out.mono hb)
        replace HBX := Lib.hid (HBX.out.mono hb)
        replace HA2 := Lib.hid (HA2.out.mono hb)
        have HS6 := Lib.hid hs
        clear hs
        clear z0 z1 z2 z3
        clear hb
        obtain ⟨z0, z1, z2, z3⟩ := HZ.out.cells
        go_wp2_with fail
        refine (list_ok _ y i d W p HP.out HV.out).mono ?_
        rintro e w22 ⟨ub, ud, rfl, hl, hb⟩
        replace HZ := Lib.hid (HZ.out.mono hb)
        replace HA := Lib.hid (HA.out.mono hb)
        replace HB := Lib.hid (HB.out.mono hb)
        replace HP := Lib.hid (HP.out.mono hb)
        replace HBX := Lib.hid (HBX.out.mono hb)
        replace HA2 := Lib.hid (HA2.out.mono hb)
        replace HS6 := Lib.hid (HS6.out.mono hb)
        have HU6 := Lib.hid hl
        clear hl
        clear z0 z1 z2 z3
        clear hb
        obtain ⟨z0, z1, z2, z3⟩ := HZ.out.cells
        go_wp2_with fail
        refine (worth_ok _ x6 ub i cc6 i ud W p HS6.out HU6.out HV.out).mono ?_
        rintro e w23 ⟨fa, fc, rfl, hF, hb⟩
        replace HZ := Lib.hid (HZ.out.mono hb)
        replace HA := Lib.hid (HA.out.mono hb)
        replace HB := Lib.hid (HB.out.mono hb)
        replace HP := Lib.hid (HP.out.mono hb)
        replace HBX := Lib.hid (HBX.out.mono hb)
        replace HA2 := Lib.hid (HA2.out.mono hb)
        replace HS6 := Lib.hid (HS6.out.mono hb)
        replace HU6 := Lib.hid (HU6.out.mono hb)
        have HF := Lib.hid hF
        clear hF HS6 HU6
        clear z0 z1 z2 z3
        clear hb
        obtain ⟨z0, z1, z2, z3⟩ := HZ.out.cells
        clear z0 z1 z2 z3
        generalize w23 = U at *
        have HSX := Lib.hid (fun (w' : World) (hb : Below U.heap.size U w') => (show w'.cell? ⟨w5.heap.size, 0, none⟩ = some (.int .i64 W.a) ∧ w'.cell? ⟨w5.heap.size, 1, none⟩ = some (.int .i64 W.b) ∧ w'.cell? ⟨w5.heap.size, 2, none⟩ = some (.slice (some ⟨b1, 0, none⟩) i c5) from (BoxW.cells (persist HBX.out hb)).2))
        have hC : Below U.heap.size U U.drew := (Below.refl _ _).drew
        obtain ⟨f0, f1, f2⟩ := HSX.out _ (Below.refl _ _)
        go_wp2
        go_region_held3 (fun w' => w'.cell? ⟨w5.heap.size, 0, none⟩ = some (.int .i64 W.a) ∧ w'.cell? ⟨w5.heap.size, 1, none⟩ = some (.int .i64 W.b) ∧ w'.cell? ⟨w5.heap.size, 2, none⟩ = some (.slice (some ⟨b1, 0, none⟩) i c5))
          (first | exact HSX.out _ hC | exact HSX.out _ (bal hC _) | go_keep)
          (first
            | (go_at_call 17; refine (list_ok _ y i d W p (HP.out.mono hC) HV.out).mono ?_; rintro e w' ⟨ua, uc, rfl, hl, hb⟩; have HU := Lib.hid hl; replace hC := btr hC hb; clear hl hb)
            | (go_at_call 15; refine (worth_ok _ _ ua i c5 i uc (scW k W s a) p (HA2.out.mono hC) HU.out HVP.out).mono ?_; rintro e w' ⟨ga, gc, rfl, hG, hb⟩; replace hC := btr hC hb; clear hb))
        have HG := Lib.hid hG
        clear hG
        clear f0 f1 f2
        replace HZ := Lib.hid (HZ.out.mono hC)
        replace HA := Lib.hid (HA.out.mono hC)
        replace HB := Lib.hid (HB.out.mono hC)
        replace HP := Lib.hid (HP.out.mono hC)
        replace HBX := Lib.hid (HBX.out.mono hC)
        replace HA2 := Lib.hid (HA2.out.mono hC)
        replace HF := Lib.hid (HF.out.mono hC)
        clear hC HSX
        generalize w' = w24 at *
        obtain ⟨z0, z1, z2, z3⟩ := HZ.out.cells
        go_wp2_with fail
        refine (of_ok _ _ i c W HA.out HVW.out).mono ?_
        rintro e w25 ⟨x7, cc7, rfl, hs, hb⟩
        replace HZ := Lib.hid (HZ.out.mono hb)
        replace HA := Lib.hid (HA.out.mono hb)
        replace HB := Lib.hid (HB.out.mono hb)
        replace HP := Lib.hid (HP.out.mono hb)
        replace HBX := Lib.hid (HBX.out.mono hb)
        replace HA2 := Lib.hid (HA2.out.mono hb)
        replace HF := Lib.hid (HF.out.mono hb)
        replace HG := Lib.hid (HG.out.mono hb)
        have HS7 := Lib.hid hs
        clear hs
        clear z0 z1 z2 z3
        clear hb
        obtain ⟨z0, z1, z2, z3⟩ := HZ.out.cells
        go_wp2_with fail
        refine (best_ok _ x7 i cc7 W HS7.out HVW.out).mono ?_
        rintro e w26 ⟨pb, hpb1, hpb2, ba, bc, rfl, hbS, hb⟩
        replace HZ := Lib.hid (HZ.out.mono hb)
        replace HA := Lib.hid (HA.out.mono hb)
        replace HB := Lib.hid (HB.out.mono hb)
        replace HP := Lib.hid (HP.out.mono hb)
        replace HBX := Lib.hid (HBX.out.mono hb)
        replace HA2 := Lib.hid (HA2.out.mono hb)
        replace HF := Lib.hid (HF.out.mono hb)
        replace HG := Lib.hid (HG.out.mono hb)
        replace HS7 := Lib.hid (HS7.out.mono hb)
        have HBS := Lib.hid hbS
        have HPB1 := Lib.hid hpb1
        have HPB2 := Lib.hid hpb2
        clear hpb1 hpb2 hbS HS7
        clear z0 z1 z2 z3
        clear hb
        obtain ⟨z0, z1, z2, z3⟩ := HZ.out.cells
        obtain ⟨g0, g1, g2, g3⟩ := HBX.out.cells
        go_wp2_with fail
        refine (best_ok _ _ i c5 (scW k W s a) HA2.out HV2.out).mono ?_
        rintro e w27 ⟨pq, hpq1, hpq2, qa, qc, rfl, hqS, hb⟩
        replace HZ := Lib.hid (HZ.out.mono hb)
        replace HA := Lib.hid (HA.out.mono hb)
        replace HB := Lib.hid (HB.out.mono hb)
        replace HP := Lib.hid (HP.out.mono hb)
        replace HBX := Lib.hid (HBX.out.mono hb)
        replace HA2 := Lib.hid (HA2.out.mono hb)
        replace HF := Lib.hid (HF.out.mono hb)
        replace HG := Lib.hid (HG.out.mono hb)
        replace HBS := Lib.hid (HBS.out.mono hb)
        have HQS := Lib.hid hqS
        have HEQ := Lib.hid (HSC.out.best HV2.out HVW.out HPB1.out HPB2.out hpq1 hpq2)
        clear hpq1 hpq2 hqS g0 g1 g2 g3
        clear z0 z1 z2 z3
        clear hb
        obtain ⟨z0, z1, z2, z3⟩ := HZ.out.cells
        go_wp2_with fail
        refine (of_ok _ _ i c W HA.out HVW.out).mono ?_
        rintro e w28 ⟨x8, cc8, rfl, hs, hb⟩
        replace HZ := Lib.hid (HZ.out.mono hb)
        replace HA := Lib.hid (HA.out.mono hb)
        replace HB := Lib.hid (HB.out.mono hb)
        replace HP := Lib.hid (HP.out.mono hb)
        replace HBX := Lib.hid (HBX.out.mono hb)
        replace HA2 := Lib.hid (HA2.out.mono hb)
        replace HF := Lib.hid (HF.out.mono hb)
        replace HG := Lib.hid (HG.out.mono hb)
        replace HBS := Lib.hid (HBS.out.mono hb)
        replace HQS := Lib.hid (HQS.out.mono hb)
        have HS8 := Lib.hid hs
        clear hs
        clear z0 z1 z2 z3
        clear hb
        obtain ⟨z0, z1, z2, z3⟩ := HZ.out.cells
        go_wp2_with fail
        refine (list_ok _ y i d W p HP.out HV.out).mono ?_
        rintro e w29 ⟨ub, ud, rfl, hl, hb⟩
        replace HZ := Lib.hid (HZ.out.mono hb)
        replace HA := Lib.hid (HA.out.mono hb)
        replace HB := Lib.hid (HB.out.mono hb)
        replace HP := Lib.hid (HP.out.mono hb)
        replace HBX := Lib.hid (HBX.out.mono hb)
        replace HA2 := Lib.hid (HA2.out.mono hb)
        replace HF := Lib.hid (HF.out.mono hb)
        replace HG := Lib.hid (HG.out.mono hb)
        replace HBS := Lib.hid (HBS.out.mono hb)
        replace HQS := Lib.hid (HQS.out.mono hb)
        replace HS8 := Lib.hid (HS8.out.mono hb)
        have HU8 := Lib.hid hl
        clear hl
        clear z0 z1 z2 z3
        clear hb
        obtain ⟨z0, z1, z2, z3⟩ := HZ.out.cells
        cases hst : stB W p st with
        | false =>
          have HST := Lib.hid hst
          have HST2 := Lib.hid (show stB (scW k W s a) p st = false by unfold stB at hst ⊢; rw [HV.out] at hst; rw [HVP.out, HSC.out.n]; exact hst)
          clear hst
          go_wp2_with fail
          refine (restU_no _ x8 ub i cc8 i ud st W p HS8.out HU8.out HST.out).mono ?_
          rintro e w30 ⟨ra, rd, rfl, hb⟩
          replace HZ := Lib.hid (HZ.out.mono hb)
          replace HA := Lib.hid (HA.out.mono hb)
          replace HB := Lib.hid (HB.out.mono hb)
          replace HP := Lib.hid (HP.out.mono hb)
          replace HBX := Lib.hid (HBX.out.mono hb)
          replace HA2 := Lib.hid (HA2.out.mono hb)
          replace HF := Lib.hid (HF.out.mono hb)
          replace HG := Lib.hid (HG.out.mono hb)
          replace HBS := Lib.hid (HBS.out.mono hb)
          replace HQS := Lib.hid (HQS.out.mono hb)
          replace HS8 := Lib.hid (HS8.out.mono hb)
          replace HU8 := Lib.hid (HU8.out.mono hb)
          clear z0 z1 z2 z3
          clear hb
          obtain ⟨z0, z1, z2, z3⟩ := HZ.out.cells
          clear z0 z1 z2 z3
          generalize w30 = U at *
          have HSX := Lib.hid (fun (w' : World) (hb : Below U.heap.size U w') => (show w'.cell? ⟨w5.heap.size, 0, none⟩ = some (.int .i64 W.a) ∧ w'.cell? ⟨w5.heap.size, 1, none⟩ = some (.int .i64 W.b) ∧ w'.cell? ⟨w5.heap.size, 2, none⟩ = some (.slice (some ⟨b1, 0, none⟩) i c5) from (BoxW.cells (persist HBX.out hb)).2))
          have hC : Below U.heap.size U U.drew := (Below.refl _ _).drew
          obtain ⟨f0, f1, f2⟩ := HSX.out _ (Below.refl _ _)
          go_wp2
          go_region_held3 (fun w' => w'.cell? ⟨w5.heap.size, 0, none⟩ = some (.int .i64 W.a) ∧ w'.cell? ⟨w5.heap.size, 1, none⟩ = some (.int .i64 W.b) ∧ w'.cell? ⟨w5.heap.size, 2, none⟩ = some (.slice (some ⟨b1, 0, none⟩) i c5))
            (first | exact HSX.out _ hC | exact HSX.out _ (bal hC _) | go_keep)
            (first
              | (go_at_call 17; refine (list_ok _ y i d W p (HP.out.mono hC) HV.out).mono ?_; rintro e w' ⟨ua, uc, rfl, hl, hb⟩; have HU := Lib.hid hl; replace hC := btr hC hb; clear hl hb)
              | (go_at_call 40; refine (restU_no _ _ ua i c5 i uc st (scW k W s a) p (HA2.out.mono hC) HU.out HST2.out).mono ?_; rintro e w' ⟨rb, rdd, rfl, hb⟩; replace hC := btr hC hb; clear hb))
          clear f0 f1 f2
          replace HZ := Lib.hid (HZ.out.mono hC)
          replace HA := Lib.hid (HA.out.mono hC)
          replace HB := Lib.hid (HB.out.mono hC)
          replace HP := Lib.hid (HP.out.mono hC)
          replace HBX := Lib.hid (HBX.out.mono hC)
          replace HA2 := Lib.hid (HA2.out.mono hC)
          replace HF := Lib.hid (HF.out.mono hC)
          replace HG := Lib.hid (HG.out.mono hC)
          replace HBS := Lib.hid (HBS.out.mono hC)
          replace HQS := Lib.hid (HQS.out.mono hC)
          clear hC HSX
          generalize w' = w31 at *
          obtain ⟨z0, z1, z2, z3⟩ := HZ.out.cells
          go_wp2_with fail
          refine (of_ok _ _ i c W HA.out HVW.out).mono ?_
          rintro e w32 ⟨x9, cc9, rfl, hs, hb⟩
          replace HZ := Lib.hid (HZ.out.mono hb)
          replace HA := Lib.hid (HA.out.mono hb)
          replace HB := Lib.hid (HB.out.mono hb)
          replace HP := Lib.hid (HP.out.mono hb)
          replace HBX := Lib.hid (HBX.out.mono hb)
          replace HA2 := Lib.hid (HA2.out.mono hb)
          replace HF := Lib.hid (HF.out.mono hb)
          replace HG := Lib.hid (HG.out.mono hb)
          replace HBS := Lib.hid (HBS.out.mono hb)
          replace HQS := Lib.hid (HQS.out.mono hb)
          have HS9 := Lib.hid hs
          clear hs
          clear z0 z1 z2 z3
          clear hb
          obtain ⟨z0, z1, z2, z3⟩ := HZ.out.cells
          go_wp2_with fail
          refine (list_ok _ y i d W p HP.out HV.out).mono ?_
          rintro e w33 ⟨uv, uw, rfl, hl, hb⟩
          replace HZ := Lib.hid (HZ.out.mono hb)
          replace HA := Lib.hid (HA.out.mono hb)
          replace HB := Lib.hid (HB.out.mono hb)
          replace HP := Lib.hid (HP.out.mono hb)
          replace HBX := Lib.hid (HBX.out.mono hb)
          replace HA2 := Lib.hid (HA2.out.mono hb)
          replace HF := Lib.hid (HF.out.mono hb)
          replace HG := Lib.hid (HG.out.mono hb)
          replace HBS := Lib.hid (HBS.out.mono hb)
          replace HQS := Lib.hid (HQS.out.mono hb)
          replace HS9 := Lib.hid (HS9.out.mono hb)
          have HU9 := Lib.hid hl
          clear hl
          clear z0 z1 z2 z3
          clear hb
          obtain ⟨z0, z1, z2, z3⟩ := HZ.out.cells
          go_wp2_with fail
          refine (yieldU_no _ x9 uv i cc9 i uw st W p HS9.out HU9.out HST.out).mono ?_
          rintro e w34 ⟨rfl, hb⟩
          replace HZ := Lib.hid (HZ.out.mono hb)
          replace HA := Lib.hid (HA.out.mono hb)
          replace HB := Lib.hid (HB.out.mono hb)
          replace HP := Lib.hid (HP.out.mono hb)
          replace HBX := Lib.hid (HBX.out.mono hb)
          replace HA2 := Lib.hid (HA2.out.mono hb)
          replace HF := Lib.hid (HF.out.mono hb)
          replace HG := Lib.hid (HG.out.mono hb)
          replace HBS := Lib.hid (HBS.out.mono hb)
          replace HQS := Lib.hid (HQS.out.mono hb)
          replace HS9 := Lib.hid (HS9.out.mono hb)
          replace HU9 := Lib.hid (HU9.out.mono hb)
          clear hb z0 z1 z2 z3
          replace HZ := Lib.hid (HZ.out.mono (bal (Below.refl _ _) (.cells #[.int .i64 0, .int .i64 0] 53)))
          replace HA := Lib.hid (HA.out.mono (bal (Below.refl _ _) (.cells #[.int .i64 0, .int .i64 0] 53)))
          replace HB := Lib.hid (HB.out.mono (bal (Below.refl _ _) (.cells #[.int .i64 0, .int .i64 0] 53)))
          replace HP := Lib.hid (HP.out.mono (bal (Below.refl _ _) (.cells #[.int .i64 0, .int .i64 0] 53)))
          replace HBX := Lib.hid (HBX.out.mono (bal (Below.refl _ _) (.cells #[.int .i64 0, .int .i64 0] 53)))
          replace HA2 := Lib.hid (HA2.out.mono (bal (Below.refl _ _) (.cells #[.int .i64 0, .int .i64 0] 53)))
          replace HF := Lib.hid (HF.out.mono (bal (Below.refl _ _) (.cells #[.int .i64 0, .int .i64 0] 53)))
          replace HG := Lib.hid (HG.out.mono (bal (Below.refl _ _) (.cells #[.int .i64 0, .int .i64 0] 53)))
          replace HBS := Lib.hid (HBS.out.mono (bal (Below.refl _ _) (.cells #[.int .i64 0, .int .i64 0] 53)))
          replace HQS := Lib.hid (HQS.out.mono (bal (Below.refl _ _) (.cells #[.int .i64 0, .int .i64 0] 53)))
          replace HS9 := Lib.hid (HS9.out.mono (bal (Below.refl _ _) (.cells #[.int .i64 0, .int .i64 0] 53)))
          replace HU9 := Lib.hid (HU9.out.mono (bal (Below.refl _ _) (.cells #[.int .i64 0, .int .i64 0] 53)))
          have HYB := Lib.hid (show FrBx (w34.alloc (.cells #[.int .i64 0, .int .i64 0] 53)) w34.heap.size 0 0 from new_at w34 (.cells #[.int .i64 0, .int .i64 0] 53))
          go_wp2
          generalize hUe : w34.alloc (.cells #[.int .i64 0, .int .i64 0] 53) = U at *
          have HSX := Lib.hid (fun (w' : World) (hb : Below U.heap.size U w') => (show w'.cell? ⟨w5.heap.size, 0, none⟩ = some (.int .i64 W.a) ∧ w'.cell? ⟨w5.heap.size, 1, none⟩ = some (.int .i64 W.b) ∧ w'.cell? ⟨w5.heap.size, 2, none⟩ = some (.slice (some ⟨b1, 0, none⟩) i c5) from (BoxW.cells (persist HBX.out hb)).2))
          have hC : Below U.heap.size U U.drew := (Below.refl _ _).drew
          obtain ⟨f0, f1, f2⟩ := HSX.out _ (Below.refl _ _)
          clear hUe
          go_region_held3 (fun w' => w'.cell? ⟨w5.heap.size, 0, none⟩ = some (.int .i64 W.a) ∧ w'.cell? ⟨w5.heap.size, 1, none⟩ = some (.int .i64 W.b) ∧ w'.cell? ⟨w5.heap.size, 2, none⟩ = some (.slice (some ⟨b1, 0, none⟩) i c5))
            (first | exact HSX.out _ hC | exact HSX.out _ (bal hC _) | exact HSX.out _ ((hC.setCell HQL _).setCell HQL _) | exact HSX.out _ (((bal hC _).setCell hC.size _).setCell hC.size _) | go_keep)
            (first
              | (go_at_call 17; refine (list_ok _ y i d W p (HP.out.mono hC) HV.out).mono ?_; rintro e w' ⟨ua, uc, rfl, hl, hb⟩; have HU := Lib.hid hl; replace hC := btr hC hb; clear hl hb)
              | (go_at_call 17; refine (list_ok _ y i d W p (HP.out.mono (bal hC _)) HV.out).mono ?_; rintro e w' ⟨ua, uc, rfl, hl, hb⟩; have HU := Lib.hid hl; have HQL := Nat.le_refl U.heap.size; have HQ0 := FrBx.new hb; have HQ := Lib.hid (show FrBx w' U.heap.size 0 0 from HQ0); clear HQ0; replace hC := btr (bal hC _) hb; clear hl hb)
              | (go_at_call 41; refine (yieldU_no _ _ ua i c5 i uc st (scW k W s a) p (HA2.out.mono hC) HU.out HST2.out).mono ?_; rintro e w' ⟨rfl, hb⟩; (try replace HQ := Lib.hid (HQ.out.mono hb)); (try obtain ⟨hq0, hq1, hq2, hq3, hq4⟩ := HQ.out.all); replace hC := btr hC hb; clear hb)
              | (go_at_call 41; refine (yieldU_no _ _ ua i c5 i uc st (scW k W s a) p (HA2.out.mono (bal hC _)) (HU.out.mono (bal (Below.refl _ _) _)) HST2.out).mono ?_; rintro e w' ⟨rfl, hb⟩; have HQL := hC.size; have HQ := Lib.hid (FrBx.new hb); obtain ⟨hq0, hq1, hq2, hq3, hq4⟩ := HQ.out.all; replace hC := btr (bal hC _) hb; clear hb))
          all_goals
            first
              | (have HY2 := Lib.hid (HQ.out.put 0 0); have hD := (hC.setCell (p := ⟨_, 0, none⟩) HQL (.int .i64 0)).setCell (p := ⟨_, 1, none⟩) HQL (.int .i64 0))
              | (have HY2 := Lib.hid (show FrBx (w'.alloc (.cells #[.int .i64 0, .int .i64 0] 53)) w'.heap.size 0 0 from new_at _ _); have hD := bal hC (.cells #[.int .i64 0, .int .i64 0] 53))
            replace HZ := Lib.hid (HZ.out.mono hD)
            replace HA := Lib.hid (HA.out.mono hD)
            replace HB := Lib.hid (HB.out.mono hD)
            replace HP := Lib.hid (HP.out.mono hD)
            replace HBX := Lib.hid (HBX.out.mono hD)
            replace HA2 := Lib.hid (HA2.out.mono hD)
            replace HF := Lib.hid (HF.out.mono hD)
            replace HG := Lib.hid (HG.out.mono hD)
            replace HBS := Lib.hid (HBS.out.mono hD)
            replace HQS := Lib.hid (HQS.out.mono hD)
            replace HYB := Lib.hid (HYB.out.mono hD)
            clear hD hC HSX f0 f1 f2
            go_wp2_with fail
            refine (freq_go _ fa ga i fc i gc _ _ HF.out HG.out).mono ?_
            rintro e w38 ⟨rfl, hb⟩
            have hb := drewB hb
            replace HZ := Lib.hid (HZ.out.mono hb)
            replace HA := Lib.hid (HA.out.mono hb)
            replace HB := Lib.hid (HB.out.mono hb)
            replace HP := Lib.hid (HP.out.mono hb)
            replace HBX := Lib.hid (HBX.out.mono hb)
            replace HA2 := Lib.hid (HA2.out.mono hb)
            replace HF := Lib.hid (HF.out.mono hb)
            replace HG := Lib.hid (HG.out.mono hb)
            replace HBS := Lib.hid (HBS.out.mono hb)
            replace HQS := Lib.hid (HQS.out.mono hb)
            replace HYB := Lib.hid (HYB.out.mono hb)
            replace HY2 := Lib.hid (HY2.out.mono hb)
            rw [decide_eq_true (HSC.out.worth HV2.out HV.out).symm]
            clear hb
            go_wp2_with fail
            refine (ieq_go _ ba qa i bc i qc _ _ HBS.out HQS.out).mono ?_
            rintro e w39 ⟨rfl, hb⟩
            have hb := drewB hb
            replace HZ := Lib.hid (HZ.out.mono hb)
            replace HA := Lib.hid (HA.out.mono hb)
            replace HB := Lib.hid (HB.out.mono hb)
            replace HP := Lib.hid (HP.out.mono hb)
            replace HBX := Lib.hid (HBX.out.mono hb)
            replace HA2 := Lib.hid (HA2.out.mono hb)
            replace HF := Lib.hid (HF.out.mono hb)
            replace HG := Lib.hid (HG.out.mono hb)
            replace HBS := Lib.hid (HBS.out.mono hb)
            replace HQS := Lib.hid (HQS.out.mono hb)
            replace HYB := Lib.hid (HYB.out.mono hb)
            replace HY2 := Lib.hid (HY2.out.mono hb)
            rw [decide_eq_true HEQ.out.symm]
            clear hb
            go_wp2_with fail
            refine (freq_nil _ ra rb rd rdd).mono ?_
            rintro e w40 ⟨rfl, hb⟩
            have hb := drewB hb
            replace HZ := Lib.hid (HZ.out.mono hb)
            replace HA := Lib.hid (HA.out.mono hb)
            replace HB := Lib.hid (HB.out.mono hb)
            replace HP := Lib.hid (HP.out.mono hb)
            replace HBX := Lib.hid (HBX.out.mono hb)
            replace HA2 := Lib.hid (HA2.out.mono hb)
            replace HF := Lib.hid (HF.out.mono hb)
            replace HG := Lib.hid (HG.out.mono hb)
            replace HBS := Lib.hid (HBS.out.mono hb)
            replace HQS := Lib.hid (HQS.out.mono hb)
            replace HYB := Lib.hid (HYB.out.mono hb)
            replace HY2 := Lib.hid (HY2.out.mono hb)
            clear hb
            obtain ⟨y0, y1, y2⟩ := HYB.out.cells
            obtain ⟨y3, y4, y5⟩ := HY2.out.cells
            go_wp2_with fail
            refine (awake_go _).mono ?_
            rintro e w41 ⟨rfl, hb⟩
            replace HZ := Lib.hid (HZ.out.mono hb)
            replace HA := Lib.hid (HA.out.mono hb)
            replace HB := Lib.hid (HB.out.mono hb)
            replace HP := Lib.hid (HP.out.mono hb)
            replace HBX := Lib.hid (HBX.out.mono hb)
            replace HA2 := Lib.hid (HA2.out.mono hb)
            replace HF := Lib.hid (HF.out.mono hb)
            replace HG := Lib.hid (HG.out.mono hb)
            replace HBS := Lib.hid (HBS.out.mono hb)
            replace HQS := Lib.hid (HQS.out.mono hb)
            replace HYB := Lib.hid (HYB.out.mono hb)
            replace HY2 := Lib.hid (HY2.out.mono hb)
            clear hb
            go_wp2
            go_ret
            exact ⟨rfl, btr HB0.out HB.out⟩
        | true =>
          obtain ⟨_, g, rfl, hg⟩ := stB_parts hst
          clear hst
          have HGA := Lib.hid hg
          rw [HNA.out] at hg
          cases hag : agOk W p g with
          | false =>
            have HAG := Lib.hid hag
            have HAG2 := Lib.hid (show agOk (scW k W s a) p g = false by rw [sr_agOk HSC.out.n (HSC.out.rch p)]; exact hag)
            clear hag
            go_wp2_with fail
            refine (restU_not _ x8 ub i cc8 i ud g W p HS8.out HU8.out HV.out hg HAG.out).mono ?_
            rintro e w30 ⟨ra, rd, rfl, hb⟩
            replace HZ := Lib.hid (HZ.out.mono hb)
            replace HA := Lib.hid (HA.out.mono hb)
            replace HB := Lib.hid (HB.out.mono hb)
            replace HP := Lib.hid (HP.out.mono hb)
            replace HBX := Lib.hid (HBX.out.mono hb)
            replace HA2 := Lib.hid (HA2.out.mono hb)
            replace HF := Lib.hid (HF.out.mono hb)
            replace HG := Lib.hid (HG.out.mono hb)
            replace HBS := Lib.hid (HBS.out.mono hb)
            replace HQS := Lib.hid (HQS.out.mono hb)
            replace HS8 := Lib.hid (HS8.out.mono hb)
            replace HU8 := Lib.hid (HU8.out.mono hb)
            clear z0 z1 z2 z3
            clear hb
            obtain ⟨z0, z1, z2, z3⟩ := HZ.out.cells
            clear z0 z1 z2 z3
            generalize w30 = U at *
            have HSX := Lib.hid (fun (w' : World) (hb : Below U.heap.size U w') => (show w'.cell? ⟨w5.heap.size, 0, none⟩ = some (.int .i64 W.a) ∧ w'.cell? ⟨w5.heap.size, 1, none⟩ = some (.int .i64 W.b) ∧ w'.cell? ⟨w5.heap.size, 2, none⟩ = some (.slice (some ⟨b1, 0, none⟩) i c5) from (BoxW.cells (persist HBX.out hb)).2))
            have hC : Below U.heap.size U U.drew := (Below.refl _ _).drew
            obtain ⟨f0, f1, f2⟩ := HSX.out _ (Below.refl _ _)
            go_wp2
            go_region_held3 (fun w' => w'.cell? ⟨w5.heap.size, 0, none⟩ = some (.int .i64 W.a) ∧ w'.cell? ⟨w5.heap.size, 1, none⟩ = some (.int .i64 W.b) ∧ w'.cell? ⟨w5.heap.size, 2, none⟩ = some (.slice (some ⟨b1, 0, none⟩) i c5))
              (first | exact HSX.out _ hC | exact HSX.out _ (bal hC _) | go_keep)
              (first
                | (go_at_call 17; refine (list_ok _ y i d W p (HP.out.mono hC) HV.out).mono ?_; rintro e w' ⟨ua, uc, rfl, hl, hb⟩; have HU := Lib.hid hl; replace hC := btr hC hb; clear hl hb)
                | (go_at_call 40; refine (restU_not _ _ ua i c5 i uc g (scW k W s a) p (HA2.out.mono hC) HU.out HVP.out hg HAG2.out).mono ?_; rintro e w' ⟨rb, rdd, rfl, hb⟩; replace hC := btr hC hb; clear hb))
            clear f0 f1 f2
            replace HZ := Lib.hid (HZ.out.mono hC)
            replace HA := Lib.hid (HA.out.mono hC)
            replace HB := Lib.hid (HB.out.mono hC)
            replace HP := Lib.hid (HP.out.mono hC)
            replace HBX := Lib.hid (HBX.out.mono hC)
            replace HA2 := Lib.hid (HA2.out.mono hC)
            replace HF := Lib.hid (HF.out.mono hC)
            replace HG := Lib.hid (HG.out.mono hC)
            replace HBS := Lib.hid (HBS.out.mono hC)
            replace HQS := Lib.hid (HQS.out.mono hC)
            clear hC HSX
            generalize w' = w31 at *
            obtain ⟨z0, z1, z2, z3⟩ := HZ.out.cells
            go_wp2_with fail
            refine (of_ok _ _ i c W HA.out HVW.out).mono ?_
            rintro e w32 ⟨x9, cc9, rfl, hs, hb⟩
            replace HZ := Lib.hid (HZ.out.mono hb)
            replace HA := Lib.hid (HA.out.mono hb)
            replace HB := Lib.hid (HB.out.mono hb)
            replace HP := Lib.hid (HP.out.mono hb)
            replace HBX := Lib.hid (HBX.out.mono hb)
            replace HA2 := Lib.hid (HA2.out.mono hb)
            replace HF := Lib.hid (HF.out.mono hb)
            replace HG := Lib.hid (HG.out.mono hb)
            replace HBS := Lib.hid (HBS.out.mono hb)
            replace HQS := Lib.hid (HQS.out.mono hb)
            have HS9 := Lib.hid hs
            clear hs
            clear z0 z1 z2 z3
            clear hb
            obtain ⟨z0, z1, z2, z3⟩ := HZ.out.cells
            go_wp2_with fail
            refine (list_ok _ y i d W p HP.out HV.out).mono ?_
            rintro e w33 ⟨uv, uw, rfl, hl, hb⟩
            replace HZ := Lib.hid (HZ.out.mono hb)
            replace HA := Lib.hid (HA.out.mono hb)
            replace HB := Lib.hid (HB.out.mono hb)
            replace HP := Lib.hid (HP.out.mono hb)
            replace HBX := Lib.hid (HBX.out.mono hb)
            replace HA2 := Lib.hid (HA2.out.mono hb)
            replace HF := Lib.hid (HF.out.mono hb)
            replace HG := Lib.hid (HG.out.mono hb)
            replace HBS := Lib.hid (HBS.out.mono hb)
            replace HQS := Lib.hid (HQS.out.mono hb)
            replace HS9 := Lib.hid (HS9.out.mono hb)
            have HU9 := Lib.hid hl
            clear hl
            clear z0 z1 z2 z3
            clear hb
            obtain ⟨z0, z1, z2, z3⟩ := HZ.out.cells
            go_wp2_with fail
            refine (yield_not _ x9 uv i cc9 i uw g W p HS9.out HU9.out HV.out hg HAG.out).mono ?_
            rintro e w34 ⟨rfl, hb⟩
            replace HZ := Lib.hid (HZ.out.mono hb)
            replace HA := Lib.hid (HA.out.mono hb)
            replace HB := Lib.hid (HB.out.mono hb)
            replace HP := Lib.hid (HP.out.mono hb)
            replace HBX := Lib.hid (HBX.out.mono hb)
            replace HA2 := Lib.hid (HA2.out.mono hb)
            replace HF := Lib.hid (HF.out.mono hb)
            replace HG := Lib.hid (HG.out.mono hb)
            replace HBS := Lib.hid (HBS.out.mono hb)
            replace HQS := Lib.hid (HQS.out.mono hb)
            replace HS9 := Lib.hid (HS9.out.mono hb)
            replace HU9 := Lib.hid (HU9.out.mono hb)
            clear hb z0 z1 z2 z3
            replace HZ := Lib.hid (HZ.out.mono (bal (Below.refl _ _) (.cells #[.int .i64 0, .int .i64 0] 53)))
            replace HA := Lib.hid (HA.out.mono (bal (Below.refl _ _) (.cells #[.int .i64 0, .int .i64 0] 53)))
            replace HB := Lib.hid (HB.out.mono (bal (Below.refl _ _) (.cells #[.int .i64 0, .int .i64 0] 53)))
            replace HP := Lib.hid (HP.out.mono (bal (Below.refl _ _) (.cells #[.int .i64 0, .int .i64 0] 53)))
            replace HBX := Lib.hid (HBX.out.mono (bal (Below.refl _ _) (.cells #[.int .i64 0, .int .i64 0] 53)))
            replace HA2 := Lib.hid (HA2.out.mono (bal (Below.refl _ _) (.cells #[.int .i64 0, .int .i64 0] 53)))
            replace HF := Lib.hid (HF.out.mono (bal (Below.refl _ _) (.cells #[.int .i64 0, .int .i64 0] 53)))
            replace HG := Lib.hid (HG.out.mono (bal (Below.refl _ _) (.cells #[.int .i64 0, .int .i64 0] 53)))
            replace HBS := Lib.hid (HBS.out.mono (bal (Below.refl _ _) (.cells #[.int .i64 0, .int .i64 0] 53)))
            replace HQS := Lib.hid (HQS.out.mono (bal (Below.refl _ _) (.cells #[.int .i64 0, .int .i64 0] 53)))
            replace HS9 := Lib.hid (HS9.out.mono (bal (Below.refl _ _) (.cells #[.int .i64 0, .int .i64 0] 53)))
            replace HU9 := Lib.hid (HU9.out.mono (bal (Below.refl _ _) (.cells #[.int .i64 0, .int .i64 0] 53)))
            have HYB := Lib.hid (show FrBx (w34.alloc (.cells #[.int .i64 0, .int .i64 0] 53)) w34.heap.size 0 0 from new_at w34 (.cells #[.int .i64 0, .int .i64 0] 53))
            go_wp2
            generalize hUe : w34.alloc (.cells #[.int .i64 0, .int .i64 0] 53) = U at *
            have HSX := Lib.hid (fun (w' : World) (hb : Below U.heap.size U w') => (show w'.cell? ⟨w5.heap.size, 0, none⟩ = some (.int .i64 W.a) ∧ w'.cell? ⟨w5.heap.size, 1, none⟩ = some (.int .i64 W.b) ∧ w'.cell? ⟨w5.heap.size, 2, none⟩ = some (.slice (some ⟨b1, 0, none⟩) i c5) from (BoxW.cells (persist HBX.out hb)).2))
            have hC : Below U.heap.size U U.drew := (Below.refl _ _).drew
            obtain ⟨f0, f1, f2⟩ := HSX.out _ (Below.refl _ _)
            clear hUe
            go_region_held3 (fun w' => w'.cell? ⟨w5.heap.size, 0, none⟩ = some (.int .i64 W.a) ∧ w'.cell? ⟨w5.heap.size, 1, none⟩ = some (.int .i64 W.b) ∧ w'.cell? ⟨w5.heap.size, 2, none⟩ = some (.slice (some ⟨b1, 0, none⟩) i c5))
              (first | exact HSX.out _ hC | exact HSX.out _ (bal hC _) | exact HSX.out _ ((hC.setCell HQL _).setCell HQL _) | exact HSX.out _ (((bal hC _).setCell hC.size _).setCell hC.size _) | go_keep)
              (first
                | (go_at_call 17; refine (list_ok _ y i d W p (HP.out.mono hC) HV.out).mono ?_; rintro e w' ⟨ua, uc, rfl, hl, hb⟩; have HU := Lib.hid hl; replace hC := btr hC hb; clear hl hb)
                | (go_at_call 17; refine (list_ok _ y i d W p (HP.out.mono (bal hC _)) HV.out).mono ?_; rintro e w' ⟨ua, uc, rfl, hl, hb⟩; have HU := Lib.hid hl; have HQL := Nat.le_refl U.heap.size; have HQ0 := FrBx.new hb; have HQ := Lib.hid (show FrBx w' U.heap.size 0 0 from HQ0); clear HQ0; replace hC := btr (bal hC _) hb; clear hl hb)
                | (go_at_call 41; refine (yield_not _ _ ua i c5 i uc g (scW k W s a) p (HA2.out.mono hC) HU.out HVP.out hg HAG2.out).mono ?_; rintro e w' ⟨rfl, hb⟩; (try replace HQ := Lib.hid (HQ.out.mono hb)); (try obtain ⟨hq0, hq1, hq2, hq3, hq4⟩ := HQ.out.all); replace hC := btr hC hb; clear hb)
                | (go_at_call 41; refine (yield_not _ _ ua i c5 i uc g (scW k W s a) p (HA2.out.mono (bal hC _)) (HU.out.mono (bal (Below.refl _ _) _)) HVP.out hg HAG2.out).mono ?_; rintro e w' ⟨rfl, hb⟩; have HQL := hC.size; have HQ := Lib.hid (FrBx.new hb); obtain ⟨hq0, hq1, hq2, hq3, hq4⟩ := HQ.out.all; replace hC := btr (bal hC _) hb; clear hb))
            all_goals
              first
                | (have HY2 := Lib.hid (HQ.out.put 0 0); have hD := (hC.setCell (p := ⟨_, 0, none⟩) HQL (.int .i64 0)).setCell (p := ⟨_, 1, none⟩) HQL (.int .i64 0))
                | (have HY2 := Lib.hid (show FrBx (w'.alloc (.cells #[.int .i64 0, .int .i64 0] 53)) w'.heap.size 0 0 from new_at _ _); have hD := bal hC (.cells #[.int .i64 0, .int .i64 0] 53))
              replace HZ := Lib.hid (HZ.out.mono hD)
              replace HA := Lib.hid (HA.out.mono hD)
              replace HB := Lib.hid (HB.out.mono hD)
              replace HP := Lib.hid (HP.out.mono hD)
              replace HBX := Lib.hid (HBX.out.mono hD)
              replace HA2 := Lib.hid (HA2.out.mono hD)
              replace HF := Lib.hid (HF.out.mono hD)
              replace HG := Lib.hid (HG.out.mono hD)
              replace HBS := Lib.hid (HBS.out.mono hD)
              replace HQS := Lib.hid (HQS.out.mono hD)
              replace HYB := Lib.hid (HYB.out.mono hD)
              clear hD hC HSX f0 f1 f2
              go_wp2_with fail
              refine (freq_go _ fa ga i fc i gc _ _ HF.out HG.out).mono ?_
              rintro e w38 ⟨rfl, hb⟩
              have hb := drewB hb
              replace HZ := Lib.hid (HZ.out.mono hb)
              replace HA := Lib.hid (HA.out.mono hb)
              replace HB := Lib.hid (HB.out.mono hb)
              replace HP := Lib.hid (HP.out.mono hb)
              replace HBX := Lib.hid (HBX.out.mono hb)
              replace HA2 := Lib.hid (HA2.out.mono hb)
              replace HF := Lib.hid (HF.out.mono hb)
              replace HG := Lib.hid (HG.out.mono hb)
              replace HBS := Lib.hid (HBS.out.mono hb)
              replace HQS := Lib.hid (HQS.out.mono hb)
              replace HYB := Lib.hid (HYB.out.mono hb)
              replace HY2 := Lib.hid (HY2.out.mono hb)
              rw [decide_eq_true (HSC.out.worth HV2.out HV.out).symm]
              clear hb
              go_wp2_with fail
              refine (ieq_go _ ba qa i bc i qc _ _ HBS.out HQS.out).mono ?_
              rintro e w39 ⟨rfl, hb⟩
              have hb := drewB hb
              replace HZ := Lib.hid (HZ.out.mono hb)
              replace HA := Lib.hid (HA.out.mono hb)
              replace HB := Lib.hid (HB.out.mono hb)
              replace HP := Lib.hid (HP.out.mono hb)
              replace HBX := Lib.hid (HBX.out.mono hb)
              replace HA2 := Lib.hid (HA2.out.mono hb)
              replace HF := Lib.hid (HF.out.mono hb)
              replace HG := Lib.hid (HG.out.mono hb)
              replace HBS := Lib.hid (HBS.out.mono hb)
              replace HQS := Lib.hid (HQS.out.mono hb)
              replace HYB := Lib.hid (HYB.out.mono hb)
              replace HY2 := Lib.hid (HY2.out.mono hb)
              rw [decide_eq_true HEQ.out.symm]
              clear hb
              go_wp2_with fail
              refine (freq_nil _ ra rb rd rdd).mono ?_
              rintro e w40 ⟨rfl, hb⟩
              have hb := drewB hb
              replace HZ := Lib.hid (HZ.out.mono hb)
              replace HA := Lib.hid (HA.out.mono hb)
              replace HB := Lib.hid (HB.out.mono hb)
              replace HP := Lib.hid (HP.out.mono hb)
              replace HBX := Lib.hid (HBX.out.mono hb)
              replace HA2 := Lib.hid (HA2.out.mono hb)
              replace HF := Lib.hid (HF.out.mono hb)
              replace HG := Lib.hid (HG.out.mono hb)
              replace HBS := Lib.hid (HBS.out.mono hb)
              replace HQS := Lib.hid (HQS.out.mono hb)
              replace HYB := Lib.hid (HYB.out.mono hb)
              replace HY2 := Lib.hid (HY2.out.mono hb)
              clear hb
              obtain ⟨y0, y1, y2⟩ := HYB.out.cells
              obtain ⟨y3, y4, y5⟩ := HY2.out.cells
              go_wp2_with fail
              refine (awake_go _).mono ?_
              rintro e w41 ⟨rfl, hb⟩
              replace HZ := Lib.hid (HZ.out.mono hb)
              replace HA := Lib.hid (HA.out.mono hb)
              replace HB := Lib.hid (HB.out.mono hb)
              replace HP := Lib.hid (HP.out.mono hb)
              replace HBX := Lib.hid (HBX.out.mono hb)
              replace HA2 := Lib.hid (HA2.out.mono hb)
              replace HF := Lib.hid (HF.out.mono hb)
              replace HG := Lib.hid (HG.out.mono hb)
              replace HBS := Lib.hid (HBS.out.mono hb)
              replace HQS := Lib.hid (HQS.out.mono hb)
              replace HYB := Lib.hid (HYB.out.mono hb)
              replace HY2 := Lib.hid (HY2.out.mono hb)
              clear hb
              go_wp2
              go_ret
              exact ⟨rfl, btr HB0.out HB.out⟩
          | true =>
            have HAG := Lib.hid hag
            have HAG2 := Lib.hid (show agOk (scW k W s a) p g = true by rw [sr_agOk HSC.out.n (HSC.out.rch p)]; exact hag)
            clear hag
            have HRS := Lib.hid (HSC.out.rest HV2.out HV.out HAG.out HGA.out)
            obtain ⟨yn, hyn⟩ : ∃ v, (yF W p g).n = v := ⟨_, rfl⟩
            obtain ⟨yd, hyd⟩ : ∃ v, (yF W p g).d = v := ⟨_, rfl⟩
            have HYN := Lib.hid hyn
            have HYD := Lib.hid hyd
            have HYN2 := Lib.hid (show (yF (scW k W s a) p g).n = yn by rw [HRS.out.2]; exact hyn)
            have HYD2 := Lib.hid (show (yF (scW k W s a) p g).d = yd by rw [HRS.out.2]; exact hyd)
            clear hyn hyd
            go_wp2_with fail
            refine (restU_ok _ x8 ub i cc8 i ud g W p HS8.out HU8.out HV.out hg HAG.out).mono ?_
            rintro e w30 ⟨ra, rd, rfl, hR, hb⟩
            replace HZ := Lib.hid (HZ.out.mono hb)
            replace HA := Lib.hid (HA.out.mono hb)
            replace HB := Lib.hid (HB.out.mono hb)
            replace HP := Lib.hid (HP.out.mono hb)
            replace HBX := Lib.hid (HBX.out.mono hb)
            replace HA2 := Lib.hid (HA2.out.mono hb)
            replace HF := Lib.hid (HF.out.mono hb)
            replace HG := Lib.hid (HG.out.mono hb)
            replace HBS := Lib.hid (HBS.out.mono hb)
            replace HQS := Lib.hid (HQS.out.mono hb)
            replace HS8 := Lib.hid (HS8.out.mono hb)
            replace HU8 := Lib.hid (HU8.out.mono hb)
            have HR := Lib.hid hR
            clear z0 z1 z2 z3
            clear hb
            obtain ⟨z0, z1, z2, z3⟩ := HZ.out.cells
            clear z0 z1 z2 z3
            generalize w30 = U at *
            have HSX := Lib.hid (fun (w' : World) (hb : Below U.heap.size U w') => (show w'.cell? ⟨w5.heap.size, 0, none⟩ = some (.int .i64 W.a) ∧ w'.cell? ⟨w5.heap.size, 1, none⟩ = some (.int .i64 W.b) ∧ w'.cell? ⟨w5.heap.size, 2, none⟩ = some (.slice (some ⟨b1, 0, none⟩) i c5) from (BoxW.cells (persist HBX.out hb)).2))
            have hC : Below U.heap.size U U.drew := (Below.refl _ _).drew
            obtain ⟨f0, f1, f2⟩ := HSX.out _ (Below.refl _ _)
            go_wp2
            go_region_held3 (fun w' => w'.cell? ⟨w5.heap.size, 0, none⟩ = some (.int .i64 W.a) ∧ w'.cell? ⟨w5.heap.size, 1, none⟩ = some (.int .i64 W.b) ∧ w'.cell? ⟨w5.heap.size, 2, none⟩ = some (.slice (some ⟨b1, 0, none⟩) i c5))
              (first | exact HSX.out _ hC | exact HSX.out _ (bal hC _) | go_keep)
              (first
                | (go_at_call 17; refine (list_ok _ y i d W p (HP.out.mono hC) HV.out).mono ?_; rintro e w' ⟨ua, uc, rfl, hl, hb⟩; have HU := Lib.hid hl; replace hC := btr hC hb; clear hl hb)
                | (go_at_call 40; refine (restU_ok _ _ ua i c5 i uc g (scW k W s a) p (HA2.out.mono hC) HU.out HVP.out hg HAG2.out).mono ?_; rintro e w' ⟨rb, rdd, rfl, hR2, hb⟩; replace hC := btr hC hb; clear hb))
            have HR2 := Lib.hid hR2
            clear hR2
            clear f0 f1 f2
            replace HZ := Lib.hid (HZ.out.mono hC)
            replace HA := Lib.hid (HA.out.mono hC)
            replace HB := Lib.hid (HB.out.mono hC)
            replace HP := Lib.hid (HP.out.mono hC)
            replace HBX := Lib.hid (HBX.out.mono hC)
            replace HA2 := Lib.hid (HA2.out.mono hC)
            replace HF := Lib.hid (HF.out.mono hC)
            replace HG := Lib.hid (HG.out.mono hC)
            replace HBS := Lib.hid (HBS.out.mono hC)
            replace HQS := Lib.hid (HQS.out.mono hC)
            replace HR := Lib.hid (HR.out.mono hC)
            clear hC HSX
            generalize w' = w31 at *
            obtain ⟨z0, z1, z2, z3⟩ := HZ.out.cells
            go_wp2_with fail
            refine (of_ok _ _ i c W HA.out HVW.out).mono ?_
            rintro e w32 ⟨x9, cc9, rfl, hs, hb⟩
            replace HZ := Lib.hid (HZ.out.mono hb)
            replace HA := Lib.hid (HA.out.mono hb)
            replace HB := Lib.hid (HB.out.mono hb)
            replace HP := Lib.hid (HP.out.mono hb)
            replace HBX := Lib.hid (HBX.out.mono hb)
            replace HA2 := Lib.hid (HA2.out.mono hb)
            replace HF := Lib.hid (HF.out.mono hb)
            replace HG := Lib.hid (HG.out.mono hb)
            replace HBS := Lib.hid (HBS.out.mono hb)
            replace HQS := Lib.hid (HQS.out.mono hb)
            replace HR := Lib.hid (HR.out.mono hb)
            replace HR2 := Lib.hid (HR2.out.mono hb)
            have HS9 := Lib.hid hs
            clear hs
            clear z0 z1 z2 z3
            clear hb
            obtain ⟨z0, z1, z2, z3⟩ := HZ.out.cells
            go_wp2_with fail
            refine (list_ok _ y i d W p HP.out HV.out).mono ?_
            rintro e w33 ⟨uv, uw, rfl, hl, hb⟩
            replace HZ := Lib.hid (HZ.out.mono hb)
            replace HA := Lib.hid (HA.out.mono hb)
            replace HB := Lib.hid (HB.out.mono hb)
            replace HP := Lib.hid (HP.out.mono hb)
            replace HBX := Lib.hid (HBX.out.mono hb)
            replace HA2 := Lib.hid (HA2.out.mono hb)
            replace HF := Lib.hid (HF.out.mono hb)
            replace HG := Lib.hid (HG.out.mono hb)
            replace HBS := Lib.hid (HBS.out.mono hb)
            replace HQS := Lib.hid (HQS.out.mono hb)
            replace HR := Lib.hid (HR.out.mono hb)
            replace HR2 := Lib.hid (HR2.out.mono hb)
            replace HS9 := Lib.hid (HS9.out.mono hb)
            have HU9 := Lib.hid hl
            clear hl
            clear z0 z1 z2 z3
            clear hb
            obtain ⟨z0, z1, z2, z3⟩ := HZ.out.cells
            go_wp2_with fail
            refine (yield_ok _ x9 uv i cc9 i uw g W p HS9.out HU9.out HV.out hg HAG.out HYN.out HYD.out).mono ?_
            rintro e w34 ⟨rfl, hb⟩
            replace HZ := Lib.hid (HZ.out.mono hb)
            replace HA := Lib.hid (HA.out.mono hb)
            replace HB := Lib.hid (HB.out.mono hb)
            replace HP := Lib.hid (HP.out.mono hb)
            replace HBX := Lib.hid (HBX.out.mono hb)
            replace HA2 := Lib.hid (HA2.out.mono hb)
            replace HF := Lib.hid (HF.out.mono hb)
            replace HG := Lib.hid (HG.out.mono hb)
            replace HBS := Lib.hid (HBS.out.mono hb)
            replace HQS := Lib.hid (HQS.out.mono hb)
            replace HR := Lib.hid (HR.out.mono hb)
            replace HR2 := Lib.hid (HR2.out.mono hb)
            replace HS9 := Lib.hid (HS9.out.mono hb)
            replace HU9 := Lib.hid (HU9.out.mono hb)
            clear hb z0 z1 z2 z3
            replace HZ := Lib.hid (HZ.out.mono (bal (Below.refl _ _) (.cells #[.int .i64 yn, .int .i64 yd] 53)))
            replace HA := Lib.hid (HA.out.mono (bal (Below.refl _ _) (.cells #[.int .i64 yn, .int .i64 yd] 53)))
            replace HB := Lib.hid (HB.out.mono (bal (Below.refl _ _) (.cells #[.int .i64 yn, .int .i64 yd] 53)))
            replace HP := Lib.hid (HP.out.mono (bal (Below.refl _ _) (.cells #[.int .i64 yn, .int .i64 yd] 53)))
            replace HBX := Lib.hid (HBX.out.mono (bal (Below.refl _ _) (.cells #[.int .i64 yn, .int .i64 yd] 53)))
            replace HA2 := Lib.hid (HA2.out.mono (bal (Below.refl _ _) (.cells #[.int .i64 yn, .int .i64 yd] 53)))
            replace HF := Lib.hid (HF.out.mono (bal (Below.refl _ _) (.cells #[.int .i64 yn, .int .i64 yd] 53)))
            replace HG := Lib.hid (HG.out.mono (bal (Below.refl _ _) (.cells #[.int .i64 yn, .int .i64 yd] 53)))
            replace HBS := Lib.hid (HBS.out.mono (bal (Below.refl _ _) (.cells #[.int .i64 yn, .int .i64 yd] 53)))
            replace HQS := Lib.hid (HQS.out.mono (bal (Below.refl _ _) (.cells #[.int .i64 yn, .int .i64 yd] 53)))
            replace HR := Lib.hid (HR.out.mono (bal (Below.refl _ _) (.cells #[.int .i64 yn, .int .i64 yd] 53)))
            replace HR2 := Lib.hid (HR2.out.mono (bal (Below.refl _ _) (.cells #[.int .i64 yn, .int .i64 yd] 53)))
            replace HS9 := Lib.hid (HS9.out.mono (bal (Below.refl _ _) (.cells #[.int .i64 yn, .int .i64 yd] 53)))
            replace HU9 := Lib.hid (HU9.out.mono (bal (Below.refl _ _) (.cells #[.int .i64 yn, .int .i64 yd] 53)))
            have HYB := Lib.hid (show FrBx (w34.alloc (.cells #[.int .i64 yn, .int .i64 yd] 53)) w34.heap.size yn yd from new_at w34 (.cells #[.int .i64 yn, .int .i64 yd] 53))
            go_wp2
            generalize hUe : w34.alloc (.cells #[.int .i64 yn, .int .i64 yd] 53) = U at *
            have HSX := Lib.hid (fun (w' : World) (hb : Below U.heap.size U w') => (show w'.cell? ⟨w5.heap.size, 0, none⟩ = some (.int .i64 W.a) ∧ w'.cell? ⟨w5.heap.size, 1, none⟩ = some (.int .i64 W.b) ∧ w'.cell? ⟨w5.heap.size, 2, none⟩ = some (.slice (some ⟨b1, 0, none⟩) i c5) from (BoxW.cells (persist HBX.out hb)).2))
            have hC : Below U.heap.size U U.drew := (Below.refl _ _).drew
            obtain ⟨f0, f1, f2⟩ := HSX.out _ (Below.refl _ _)
            clear hUe
            go_region_held3 (fun w' => w'.cell? ⟨w5.heap.size, 0, none⟩ = some (.int .i64 W.a) ∧ w'.cell? ⟨w5.heap.size, 1, none⟩ = some (.int .i64 W.b) ∧ w'.cell? ⟨w5.heap.size, 2, none⟩ = some (.slice (some ⟨b1, 0, none⟩) i c5))
              (first | exact HSX.out _ hC | exact HSX.out _ (bal hC _) | exact HSX.out _ ((hC.setCell HQL _).setCell HQL _) | exact HSX.out _ (((bal hC _).setCell hC.size _).setCell hC.size _) | go_keep)
              (first
                | (go_at_call 17; refine (list_ok _ y i d W p (HP.out.mono hC) HV.out).mono ?_; rintro e w' ⟨ua, uc, rfl, hl, hb⟩; have HU := Lib.hid hl; replace hC := btr hC hb; clear hl hb)
                | (go_at_call 17; refine (list_ok _ y i d W p (HP.out.mono (bal hC _)) HV.out).mono ?_; rintro e w' ⟨ua, uc, rfl, hl, hb⟩; have HU := Lib.hid hl; have HQL := Nat.le_refl U.heap.size; have HQ0 := FrBx.new hb; have HQ := Lib.hid (show FrBx w' U.heap.size 0 0 from HQ0); clear HQ0; replace hC := btr (bal hC _) hb; clear hl hb)
                | (go_at_call 41; refine (yield_ok _ _ ua i c5 i uc g (scW k W s a) p (HA2.out.mono hC) HU.out HVP.out hg HAG2.out HYN2.out HYD2.out).mono ?_; rintro e w' ⟨rfl, hb⟩; (try replace HQ := Lib.hid (HQ.out.mono hb)); (try obtain ⟨hq0, hq1, hq2, hq3, hq4⟩ := HQ.out.all); replace hC := btr hC hb; clear hb)
                | (go_at_call 41; refine (yield_ok _ _ ua i c5 i uc g (scW k W s a) p (HA2.out.mono (bal hC _)) (HU.out.mono (bal (Below.refl _ _) _)) HVP.out hg HAG2.out HYN2.out HYD2.out).mono ?_; rintro e w' ⟨rfl, hb⟩; have HQL := hC.size; have HQ := Lib.hid (FrBx.new hb); obtain ⟨hq0, hq1, hq2, hq3, hq4⟩ := HQ.out.all; replace hC := btr (bal hC _) hb; clear hb))
            all_goals
              first
                | (have HY2 := Lib.hid (HQ.out.put yn yd); have hD := (hC.setCell (p := ⟨_, 0, none⟩) HQL (.int .i64 yn)).setCell (p := ⟨_, 1, none⟩) HQL (.int .i64 yd))
                | (have HY2 := Lib.hid (show FrBx (w'.alloc (.cells #[.int .i64 yn, .int .i64 yd] 53)) w'.heap.size yn yd from new_at _ _); have hD := bal hC (.cells #[.int .i64 yn, .int .i64 yd] 53))
              replace HZ := Lib.hid (HZ.out.mono hD)
              replace HA := Lib.hid (HA.out.mono hD)
              replace HB := Lib.hid (HB.out.mono hD)
              replace HP := Lib.hid (HP.out.mono hD)
              replace HBX := Lib.hid (HBX.out.mono hD)
              replace HA2 := Lib.hid (HA2.out.mono hD)
              replace HF := Lib.hid (HF.out.mono hD)
              replace HG := Lib.hid (HG.out.mono hD)
              replace HBS := Lib.hid (HBS.out.mono hD)
              replace HQS := Lib.hid (HQS.out.mono hD)
              replace HR := Lib.hid (HR.out.mono hD)
              replace HR2 := Lib.hid (HR2.out.mono hD)
              replace HYB := Lib.hid (HYB.out.mono hD)
              clear hD hC HSX f0 f1 f2
              go_wp2_with fail
              refine (freq_go _ fa ga i fc i gc _ _ HF.out HG.out).mono ?_
              rintro e w38 ⟨rfl, hb⟩
              have hb := drewB hb
              replace HZ := Lib.hid (HZ.out.mono hb)
              replace HA := Lib.hid (HA.out.mono hb)
              replace HB := Lib.hid (HB.out.mono hb)
              replace HP := Lib.hid (HP.out.mono hb)
              replace HBX := Lib.hid (HBX.out.mono hb)
              replace HA2 := Lib.hid (HA2.out.mono hb)
              replace HF := Lib.hid (HF.out.mono hb)
              replace HG := Lib.hid (HG.out.mono hb)
              replace HBS := Lib.hid (HBS.out.mono hb)
              replace HQS := Lib.hid (HQS.out.mono hb)
              replace HR := Lib.hid (HR.out.mono hb)
              replace HR2 := Lib.hid (HR2.out.mono hb)
              replace HYB := Lib.hid (HYB.out.mono hb)
              replace HY2 := Lib.hid (HY2.out.mono hb)
              rw [decide_eq_true (HSC.out.worth HV2.out HV.out).symm]
              clear hb
              go_wp2_with fail
              refine (ieq_go _ ba qa i bc i qc _ _ HBS.out HQS.out).mono ?_
              rintro e w39 ⟨rfl, hb⟩
              have hb := drewB hb
              replace HZ := Lib.hid (HZ.out.mono hb)
              replace HA := Lib.hid (HA.out.mono hb)
              replace HB := Lib.hid (HB.out.mono hb)
              replace HP := Lib.hid (HP.out.mono hb)
              replace HBX := Lib.hid (HBX.out.mono hb)
              replace HA2 := Lib.hid (HA2.out.mono hb)
              replace HF := Lib.hid (HF.out.mono hb)
              replace HG := Lib.hid (HG.out.mono hb)
              replace HBS := Lib.hid (HBS.out.mono hb)
              replace HQS := Lib.hid (HQS.out.mono hb)
              replace HR := Lib.hid (HR.out.mono hb)
              replace HR2 := Lib.hid (HR2.out.mono hb)
              replace HYB := Lib.hid (HYB.out.mono hb)
              replace HY2 := Lib.hid (HY2.out.mono hb)
              rw [decide_eq_true HEQ.out.symm]
              clear hb
              go_wp2_with fail
              refine (freq_go _ ra rb i rd i rdd _ _ HR.out HR2.out).mono ?_
              rintro e w40 ⟨rfl, hb⟩
              have hb := drewB hb
              replace HZ := Lib.hid (HZ.out.mono hb)
              replace HA := Lib.hid (HA.out.mono hb)
              replace HB := Lib.hid (HB.out.mono hb)
              replace HP := Lib.hid (HP.out.mono hb)
              replace HBX := Lib.hid (HBX.out.mono hb)
              replace HA2 := Lib.hid (HA2.out.mono hb)
              replace HF := Lib.hid (HF.out.mono hb)
              replace HG := Lib.hid (HG.out.mono hb)
              replace HBS := Lib.hid (HBS.out.mono hb)
              replace HQS := Lib.hid (HQS.out.mono hb)
              replace HR := Lib.hid (HR.out.mono hb)
              replace HR2 := Lib.hid (HR2.out.mono hb)
              replace HYB := Lib.hid (HYB.out.mono hb)
              replace HY2 := Lib.hid (HY2.out.mono hb)
              rw [decide_eq_true HRS.out.1.symm]
              clear hb
              obtain ⟨y0, y1, y2⟩ := HYB.out.cells
              obtain ⟨y3, y4, y5⟩ := HY2.out.cells
              go_wp2_with fail
              refine (awake_go _).mono ?_
              rintro e w41 ⟨rfl, hb⟩
              replace HZ := Lib.hid (HZ.out.mono hb)
              replace HA := Lib.hid (HA.out.mono hb)
              replace HB := Lib.hid (HB.out.mono hb)
              replace HP := Lib.hid (HP.out.mono hb)
              replace HBX := Lib.hid (HBX.out.mono hb)
              replace HA2 := Lib.hid (HA2.out.mono hb)
              replace HF := Lib.hid (HF.out.mono hb)
              replace HG := Lib.hid (HG.out.mono hb)
              replace HBS := Lib.hid (HBS.out.mono hb)
              replace HQS := Lib.hid (HQS.out.mono hb)
              replace HR := Lib.hid (HR.out.mono hb)
              replace HR2 := Lib.hid (HR2.out.mono hb)
              replace HYB := Lib.hid (HYB.out.mono hb)
              replace HY2 := Lib.hid (HY2.out.mono hb)
              clear hb
              go_wp2
              go_ret
              exact ⟨rfl, btr HB0.out HB.out⟩
end Go.Proofs.Ytcmakddnjmeklaa
