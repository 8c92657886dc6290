/- Chapter 9: StemsMore's walk. -/
import Derived.Test.YtcmakddnjmeklaaWj
import Derived.Test.YtcmakddnjmeklaaWo
import Derived.Deep.DeepCutAuto
import Derived.Deep.RegionHeld3
namespace Go.Proofs.Ytcmakddnjmeklaa
open Go.RowKit
set_option linter.unusedSimpArgs false

def moreW (W : Wd) (s : Nat) (x : Ac) : Wd := ⟨W.a, W.b, W.acts.set s (acl W.acts s ++ [x])⟩
theorem fr_lt {W1 W2 : Wd} {p q : List Int} (h1 : isPlanB W1 p = true) (h2 : isPlanB W2 q = true) {s t : Nat} (hs : s < W1.acts.length) (ht : t < W2.acts.length) :
    ((fr (worthF W1 p) s).n * (fr (worthF W2 q) t).d < (fr (worthF W2 q) t).n * (fr (worthF W1 p) s).d) ↔
    wN W1.a W1.b (planActs W1.acts p) s * wD W2.a W2.b (planActs W2.acts q) < wN W2.a W2.b (planActs W2.acts q) t * wD W1.a W1.b (planActs W1.acts p) := by
  have hl1 := planActs_len W1.acts p
  have hl2 := planActs_len W2.acts q
  have d1 := (wD_pos (okX_plan h1)).1
  have d2 := (wD_pos (okX_plan h2)).1
  unfold worthF
  rw [fracsL_at (by rw [wNs_len, hl1]; exact hs), wNs_at (by rw [hl1]; exact hs), fracsL_at (by rw [wNs_len, hl2]; exact ht), wNs_at (by rw [hl2]; exact ht)]
  generalize wN W1.a W1.b (planActs W1.acts p) s = N1 at *
  generalize wN W2.a W2.b (planActs W2.acts q) t = N2 at *
  generalize wD W1.a W1.b (planActs W1.acts p) = D1 at *
  generalize wD W2.a W2.b (planActs W2.acts q) = D2 at *
  have e1 := frq_mul (a := N1) d1
  have e2 := frq_mul (a := N2) d2
  have p1 := frq_pos ((N1 : Rat) / (D1 : Rat))
  have p2 := frq_pos ((N2 : Rat) / (D2 : Rat))
  generalize toFr ((N1 : Rat) / (D1 : Rat)) = x at *
  generalize toFr ((N2 : Rat) / (D2 : Rat)) = y at *
  have hD : 0 < D1 * D2 := Int.mul_pos d1 d2
  have hd : 0 < x.d * y.d := Int.mul_pos (by omega) (by omega)
  have k1 : (x.n * y.d) * (D1 * D2) = (N1 * D2) * (x.d * y.d) := by grind
  have k2 : (y.n * x.d) * (D1 * D2) = (N2 * D1) * (x.d * y.d) := by grind
  constructor
  · intro h
    have := Int.mul_lt_mul_of_pos_right h hD
    rw [k1, k2] at this
    exact Int.lt_of_mul_lt_mul_right this (Int.le_of_lt hd)
  · intro h
    have := Int.mul_lt_mul_of_pos_right h hd
    rw [← k1, ← k2] at this
    exact Int.lt_of_mul_lt_mul_right this (Int.le_of_lt hD)
theorem ac_pre {A : List Ac} {x : Ac} {i : Nat} (hi : i < A.length) : ac (A ++ [x]) i = ac A i := by rw [ac_app, if_pos hi]
theorem more_plan {W : Wd} {p : List Int} {s : Nat} {x : Ac} (h : isPlanB W p = true) (_hs : s < W.acts.length) (hv : vWd (moreW W s x) = true) : isPlanB (moreW W s x) p = true ∧ planActs (moreW W s x).acts p = planActs W.acts p := by
  obtain ⟨_, hl, hp, _⟩ := plan_parts h
  have hml : (moreW W s x).acts.length = W.acts.length := by simp [moreW]
  have hac : ∀ i, i < W.acts.length → acl (moreW W s x).acts i = if s = i then acl W.acts s ++ [x] else acl W.acts i := fun i hi => acl_set hi
  constructor
  · unfold isPlanB
    rw [hv, Bool.true_and]
    refine planOk_yes (by rw [hml]; exact hl) fun i hi => ?_
    rw [hml] at hi
    have := hp i hi
    rw [hac i hi]
    split
    · rename_i e; subst e; rw [List.length_append]; simp; omega
    · exact this
  · unfold planActs
    rw [hml]
    refine List.map_congr_left fun i hi => ?_
    have hi := List.mem_range.1 hi
    have := hp i hi
    unfold pact
    rw [hac i hi]
    split
    · rename_i e; subst e; rw [ac_pre (by omega)]
    · rfl
/-- One act more makes no element less. -/
theorem more_ge {W : Wd} {p q : List Int} {s : Nat} {x : Ac} (h : isPlanB W p = true) (hs : s < W.acts.length) (hq : isPlanB (moreW W s x) q = true) (ho : Opt (moreW W s x) q) {i : Nat} (hi : i < W.acts.length) :
    decide ((fr (worthF (moreW W s x) q) i).n * (fr (worthF W p) i).d < (fr (worthF W p) i).n * (fr (worthF (moreW W s x) q) i).d) = false := by
  obtain ⟨h1, h2⟩ := more_plan h hs (plan_parts hq).1
  have hml : (moreW W s x).acts.length = W.acts.length := by simp [moreW]
  refine decide_eq_false fun hl => ?_
  rw [fr_lt hq h (by rw [hml]; exact hi) hi] at hl
  have := opt_ge hq h1 ho i (by rw [hml]; exact hi)
  rw [h2] at this
  have e1 : (moreW W s x).a = W.a := rfl
  have e2 : (moreW W s x).b = W.b := rfl
  rw [e1, e2] at this hl
  omega
theorem trAc_more {W : Wd} {s : Nat} {x : Ac} : moreW W s (trAc x) = ⟨W.a, W.b, W.acts.set s (acl W.acts s ++ [trAc x])⟩ := rfl

theorem uint_mod {st : Int} {n : Nat} (h1 : 1 ≤ n) (h4 : n ≤ 1000) : ∃ s : Nat, wrap64 ((IntKind.u64.wrap st).tmod (n : Int)) = (s : Int) ∧ s < n := by
  have h0 : 0 ≤ IntKind.u64.wrap st := by
    show 0 ≤ st % 18446744073709551616
    exact Int.emod_nonneg _ (by decide)
  have h2 : 0 ≤ (IntKind.u64.wrap st).tmod (n : Int) := Int.tmod_nonneg _ h0
  have h3 : (IntKind.u64.wrap st).tmod (n : Int) < n := Int.tmod_lt_of_pos _ (by omega)
  generalize (IntKind.u64.wrap st).tmod (n : Int) = z at *
  refine ⟨z.toNat, ?_, by omega⟩
  rw [IntWalk.wrap64_in _ (by omega)]
  omega
def MoreAt (w wx : World) (g0 s lo n : Nat) (row : Option Nat) (pre : List Value) (g : Int) (L : List Int) : Prop :=
  ∃ (w1 w2 : World) (ob : Obj) (va : Option Addr) (vc : Nat) (o' : Value), Below w.heap.size w w1 ∧ w1.ownsRow w.heap.size 3 1 o' L.length (L.map (Value.int .i64)) ∧ w2.ownsRow lo 50 2 (.slice va (n + 1) vc) (n + 1) (pre ++ [.int .i64 g, o']) ∧ (w1.alloc ob).grownBy w2 row ∧ wx = w2.setCell ⟨g0, s, none⟩ (.slice va (n + 1) vc)

theorem ActsTr.monoT {w w' : World} {lo hi : Nat} {v : Value} {A : List Ac} {E : Nat → Value} {D : Nat → Nat} (h : ActsTr w lo hi v A E D) (hb : Below w.heap.size w w') : ActsTr w' lo hi v A E D :=
  ⟨h.1.mono hb, h.2.1, h.2.2.1, h.2.2.2.1, fun i hi => (h.2.2.2.2 i hi).mono hb⟩
theorem Acts2Tr.monoT {w w' : World} {lo hi hi' : Nat} {v : Value} {A : List (List Ac)} {E : Nat → Value} {D : Nat → Nat} (h : Acts2Tr w lo hi v A E D) (hb : Below w.heap.size w w') (hh : hi ≤ hi') : Acts2Tr w' lo hi' v A E D :=
  ⟨(h.1.mono hb).wide hh, h.2.1, h.2.2.1, Nat.le_trans h.2.2.2.1 hh, fun i hi => (h.2.2.2.2 i hi).mono hb⟩
set_option maxRecDepth 100000 in
set_option maxHeartbeats 2000000 in
theorem lmore_walk (w : World) (x : Option Addr) (n c : Nat) (W : Wd) (hA : A2Sl w x n c W.acts) (st : Int) (_hst1 : -9223372036854775808 ≤ st) (_hst2 : st ≤ 9223372036854775807) (gg : Int) (y : Option Addr) (m d : Nat) (l : List Int) (hl : Sl w y m d l) (_hg1 : -9223372036854775808 ≤ gg) (_hg2 : gg ≤ 9223372036854775807) :
    Calls Try.prog 4 #[wv W.a W.b x n c, .int .i64 st, av gg y m d] w fun e w' => e = .returned (.bool true) ∧ Below w.heap.size w w' := by
  have hb0 := bal (bal (Below.refl w.heap.size w) (.cells #[.int .i64 W.a, .int .i64 W.b, .slice x n c] 25)) (.cells #[.int .i64 gg, .slice y m d] 42)
  have HZ := Lib.hid (persist (new_at w (.cells #[.int .i64 W.a, .int .i64 W.b, .slice x n c] 25)) (bal (Below.refl _ _) (.cells #[.int .i64 gg, .slice y m d] 42)))
  have HY := Lib.hid (new_at2 w (.cells #[.int .i64 W.a, .int .i64 W.b, .slice x n c] 25) (.cells #[.int .i64 gg, .slice y m d] 42))
  have HA := Lib.hid (hA.mono hb0)
  have HL := Lib.hid (hl.mono hb0)
  have HB0 := Lib.hid hb0
  have HNA := Lib.hid hA.1
  have hcn := hA.2.cap
  unfold maxLen at hcn
  clear hA hl hb0
  cases hok : vWd W with
  | false =>
    have HOK := Lib.hid hok
    clear hok
    go_enter Try.func4, Try.ntmps4
    go_wp2_with fail
    refine (of_go _ x n c W.a W.b W.acts HA.out).mono ?_
    rintro e w2 ⟨x2, n2, c2, rfl, hO, hb2⟩
    obtain ⟨xa, xc, e1, hs2⟩ := hO.sl
    injection e1 with e1 e2 e3
    subst e1 e2 e3
    have HA2 := Lib.hid hs2
    have HB2 := Lib.hid hb2
    clear hO hs2 hb2
    go_wp2_with fail
    refine (bound_no _ _ _ _ (trW W) HA2.out (by rw [vWd_tr]; exact HOK.out)).mono ?_
    rintro e w4 ⟨x4, n4, c4, rfl, hn4, ho4, hb4⟩
    have HB4 := Lib.hid (btr (btr HB0.out HB2.out) hb4)
    clear ho4 hb4
    go_wp2_with fail
    refine (awake_go _).mono ?_
    rintro e w5 ⟨rfl, hb5⟩
    go_wp2
    go_ret
    exact ⟨rfl, btr HB4.out hb5⟩
  | true =>
    obtain ⟨⟨hn1, hn4, hab1, hab2, hab3⟩, hvv⟩ := vWd_parts hok
    rw [HNA.out] at hn1 hn4
    have HOK := Lib.hid hok
    have HVV := Lib.hid hvv
    have HTW := Lib.hid (trW_same hok)
    clear hok hvv
    go_enter Try.func4, Try.ntmps4
    go_wp2_with fail
    refine (of_go _ x n c W.a W.b W.acts HA.out).mono ?_
    rintro e w2 ⟨x2, n2, c2, rfl, hO, hb2⟩
    obtain ⟨xa, xc, e1, hs2⟩ := hO.sl
    injection e1 with e1 e2 e3
    subst e1 e2 e3
    have HA2 := Lib.hid hs2
    have HB2 := Lib.hid hb2
    clear hO hs2 hb2
    go_wp2_with fail
    refine (bound_go _ _ _ _ (trW W) HA2.out (by rw [vWd_tr]; exact HOK.out)).mono ?_
    rintro e w4 ⟨p, hp4, ho4, x4, n4, c4, rfl, hn4', hw4, hb4⟩
    rw [HTW.out] at hp4 ho4 hn4' hw4
    have hq4 : n4 = n := by rw [hn4', worthF_len]; exact HNA.out
    clear hn4'
    subst hq4
    have HP4 := Lib.hid hp4
    have HO4 := Lib.hid ho4
    have HF4 := Lib.hid (own_fr hw4 (by rw [worthF_len]; exact HNA.out.symm))
    have HB4 := Lib.hid (btr HB2.out hb4)
    have hz4 := persist HZ.out HB4.out
    have k0 : w4.cell? ⟨w.heap.size, 0, none⟩ = some (.int .i64 W.a) := by rw [cells_at hz4]; rfl
    have k1 : w4.cell? ⟨w.heap.size, 1, none⟩ = some (.int .i64 W.b) := by rw [cells_at hz4]; rfl
    have k2 : w4.cell? ⟨w.heap.size, 2, none⟩ = some (.slice x n4 c) := by rw [cells_at hz4]; rfl
    have k3 := lt_of_block hz4
    clear hw4 hb4 hz4 hp4 ho4
    go_wp2_with fail
    refine (rvalid_go _ x n4 c W (HA.out.mono HB4.out)).mono ?_
    rintro e w5 ⟨rfl, hb5⟩
    rw [HOK.out]
    have HB5 := Lib.hid (btr HB4.out hb5)
    have HF5 := Lib.hid (HF4.out.mono hb5)
    have hz5 := persist HZ.out HB5.out
    have k0' : w5.cell? ⟨w.heap.size, 0, none⟩ = some (.int .i64 W.a) := by rw [cells_at hz5]; rfl
    have k1' : w5.cell? ⟨w.heap.size, 1, none⟩ = some (.int .i64 W.b) := by rw [cells_at hz5]; rfl
    have k2' : w5.cell? ⟨w.heap.size, 2, none⟩ = some (.slice x n4 c) := by rw [cells_at hz5]; rfl
    have k3' := lt_of_block hz5
    clear hb5 k0 k1 k2 k3 hz5
    go_wp2_with fail
    obtain ⟨s, hse, hsn⟩ := uint_mod (st := st) (n := n4) hn1 (by omega)
    rw [hse]
    clear hse
    refine (of_go _ x n4 c W.a W.b W.acts (HA.out.mono HB5.out)).mono ?_
    rintro e w6 ⟨x6, n6, c6, rfl, hO6, hb6⟩
    have hn6 : n6 = n4 := by
      obtain ⟨xa, xc, e1, _⟩ := hO6.sl
      injection e1 with e1 e2 e3
      rw [e2, trL_length, HNA.out]; omega
    subst hn6
    have hTL : trL W.acts = W.acts := congrArg Wd.acts HTW.out
    rw [hTL] at hO6
    obtain ⟨E, D, hT6⟩ := hO6
    obtain ⟨E', D', hT'⟩ := hT6.2.2.2.2 s (by rw [HNA.out]; exact hsn)
    have hT6' : Acts2Tr w6 w5.heap.size w6.heap.size (.slice x6 n6 c6) W.acts E D := hT6
    obtain ⟨ia, ic, hEs⟩ := own_form hT'.1.1
    have hlen3 := ((HVV.out s (by rw [HNA.out]; exact hsn)).2.1)
    generalize hIL : (acl W.acts s).length = il at *
    have HB6 := Lib.hid (btr HB5.out hb6)
    clear k0' k1' k2' k3' hTL
    have hTT := Lib.hid hT6'
    have hTI := Lib.hid hT'
    have hIown := hT'.1.1
    rw [hIL, hEs] at hIown
    have hTo := hT6'.1.1
    rw [HNA.out] at hTo
    obtain ⟨gx, gxe, hgl, hgz, hgn, hgc, hgcell, _, gcur, hgcur⟩ := own_cells hTo (by omega)
    subst gxe
    unfold maxLen at hgc
    have hcs := hgcell s (E s) (by simp [hsn])
    rw [hEs] at hcs
    have hbm := bal (Below.refl w6.heap.size w6) (.cells #[.int .i64 W.a, .int .i64 W.b, .slice (some ⟨gx, 0, none⟩) n6 c6] 33)
    have hb9 := hbm.drew
    have HB9 := Lib.hid hb9
    have HBX := Lib.hid (new_at w6 (.cells #[.int .i64 W.a, .int .i64 W.b, .slice (some ⟨gx, 0, none⟩) n6 c6] 33))
    have HL9 := Lib.hid (HL.out.mono (btr HB6.out hb9))
    have HIO := Lib.hid (own_mono hIown hb9)
    have HSX := Lib.hid (fun (w' : World) (hb : Below (w6.alloc (.cells #[.int .i64 W.a, .int .i64 W.b, .slice (some ⟨gx, 0, none⟩) n6 c6] 33)).drew.heap.size (w6.alloc (.cells #[.int .i64 W.a, .int .i64 W.b, .slice (some ⟨gx, 0, none⟩) n6 c6] 33)).drew w') =>
      (show w'.cell? ⟨w6.heap.size, 2, none⟩ = some (.slice (some ⟨gx, 0, none⟩) n6 c6) ∧ w'.cell? ⟨gx, s, none⟩ = some (.slice ia il ic) ∧ w'.cell? ⟨w.heap.size + 1, 0, none⟩ = some (.int .i64 gg) ∧ w'.cell? ⟨w.heap.size + 1, 1, none⟩ = some (.slice y m d) ∧ w'.frozen? ⟨gx, s, none⟩ = false ∧ gx < w'.heap.size from
        have q1 := persist (w := (w6.alloc (.cells #[.int .i64 W.a, .int .i64 W.b, .slice (some ⟨gx, 0, none⟩) n6 c6] 33)).drew) HBX.out hb
        have q2 := persist (persist HY.out (btr HB6.out HB9.out)) hb
        have q3 := persist (persist hgcur HB9.out) hb
        ⟨by rw [cells_at q1]; rfl, ((bcell (btr HB9.out hb)).1 _ _ hgz).trans hcs, by rw [cells_at q2]; rfl, by rw [cells_at q2]; rfl, free_at q3 s, lt_of_block q3⟩))
    have HEXT := Lib.hid (show ∀ b, (Value.slice ia il ic).ownBlock = some b → b < (w6.alloc (.cells #[.int .i64 W.a, .int .i64 W.b, .slice (some ⟨gx, 0, none⟩) n6 c6] 33)).drew.heap.size from fun b hb => (HIO.out.lt b hb).2)
    have HSY := Lib.hid (fun (wl wn : World) (hb : Below (w6.alloc (.cells #[.int .i64 W.a, .int .i64 W.b, .slice (some ⟨gx, 0, none⟩) n6 c6] 33)).drew.heap.size (w6.alloc (.cells #[.int .i64 W.a, .int .i64 W.b, .slice (some ⟨gx, 0, none⟩) n6 c6] 33)).drew wl) {ob : Obj} (hg : (wl.alloc ob).grownBy wn (Value.slice ia il ic).ownBlock) =>
      (show (wn.cell? ⟨w6.heap.size, 2, none⟩ = some (.slice (some ⟨gx, 0, none⟩) n6 c6) ∧ wn.cell? ⟨w.heap.size + 1, 0, none⟩ = some (.int .i64 gg) ∧ wn.cell? ⟨w.heap.size + 1, 1, none⟩ = some (.slice y m d)) ∧ wn.cell? ⟨gx, s, none⟩ = some (.slice ia il ic) ∧ wn.frozen? ⟨gx, s, none⟩ = false ∧ gx < wn.heap.size from
        have hk := (app_keep HIO.out hb hg).2.2
        have q1 := (hk _ _ _ (by decide) HBX.out).trans HBX.out
        have q2 := (hk _ _ _ (by decide) (persist HY.out (btr HB6.out HB9.out))).trans (persist HY.out (btr HB6.out HB9.out))
        have q3 := (hk _ _ _ (by decide) (persist hgcur HB9.out)).trans (persist hgcur HB9.out)
        ⟨⟨by rw [cells_at q1]; rfl, by rw [cells_at q2]; rfl, by rw [cells_at q2]; rfl⟩, by rw [cells_at q3, ← cells_at hgcur]; exact hcs, free_at q3 s, lt_of_block q3⟩))
    have HNE := Lib.hid (show gx ≠ w6.heap.size ∧ gx ≠ w.heap.size + 1 from ⟨by omega, fun e => by
      have q2 := persist HY.out HB6.out
      rw [← e, hgcur] at q2
      injection q2 with q2
      injection q2 with _ q2
      exact absurd q2 (by decide)⟩)
    have HSZ := Lib.hid (fun (wl wn : World) (hb : Below (w6.alloc (.cells #[.int .i64 W.a, .int .i64 W.b, .slice (some ⟨gx, 0, none⟩) n6 c6] 33)).drew.heap.size (w6.alloc (.cells #[.int .i64 W.a, .int .i64 W.b, .slice (some ⟨gx, 0, none⟩) n6 c6] 33)).drew wl) {ob : Obj} {v' : Value} (hg : (wl.alloc ob).grownBy wn (Value.slice ia il ic).ownBlock) =>
      (show ((wn.setCell ⟨gx, s, none⟩ v').cell? ⟨w6.heap.size, 2, none⟩ = some (.slice (some ⟨gx, 0, none⟩) n6 c6) ∧ (wn.setCell ⟨gx, s, none⟩ v').cell? ⟨w.heap.size + 1, 0, none⟩ = some (.int .i64 gg) ∧ (wn.setCell ⟨gx, s, none⟩ v').cell? ⟨w.heap.size + 1, 1, none⟩ = some (.slice y m d)) from by
        obtain ⟨⟨h1, h2, h3⟩, _⟩ := HSY.out wl wn hb hg
        exact ⟨by rw [World.cell?_setCell_far _ _ _ _ HNE.out.1]; exact h1, by rw [World.cell?_setCell_far _ _ _ _ HNE.out.2]; exact h2, by rw [World.cell?_setCell_far _ _ _ _ HNE.out.2]; exact h3⟩))
    obtain ⟨f1, f2, f3, f4, f5, f6⟩ := HSX.out _ (Below.refl _ _)
    have hs0 : (0 : Int) ≤ (s : Int) := by omega
    have hsl : (s : Int) < (n6 : Int) := by omega
    have HGC := Lib.hid hgcur
    have hDs : D s ≤ w6.heap.size ∧ w5.heap.size ≤ D s := ⟨by have := mono_le hTT.out.2.2.1 s W.acts.length (by rw [HNA.out]; omega) (Nat.le_refl _); have := hTT.out.2.2.2.1; omega, by have := mono_le hTT.out.2.2.1 0 s (by omega) (by rw [HNA.out]; omega); have := hTT.out.2.1; omega⟩
    have HB56 := Lib.hid hb6
    clear hT6 hT' hT6' hIown hTo hgcell hgcur hcs hbm hb9 hb6
    go_wp2
    go_cut [1] from 40 to 56 (fun v1 wx => v1 = .int .i64 s ∧ MoreAt (w6.alloc (.cells #[.int .i64 W.a, .int .i64 W.b, .slice (some ⟨gx, 0, none⟩) n6 c6] 33)).drew wx gx s (D s) il (Value.slice ia il ic).ownBlock (cells2 (fun i => .int .i64 (ac (acl W.acts s) i).g) E' il) gg (l.take 7))
    case first =>
      refine wp_region_held_drew (S := fun w' => w'.cell? ⟨w6.heap.size, 2, none⟩ = some (.slice (some ⟨gx, 0, none⟩) n6 c6) ∧ w'.cell? ⟨w.heap.size + 1, 0, none⟩ = some (.int .i64 gg) ∧ w'.cell? ⟨w.heap.size + 1, 1, none⟩ = some (.slice y m d)) (by kernel_rfl) ⟨f1, f3, f4⟩ (fun hHeld => ?_)
      refine wpAnyH_take (i := 0) (oi := _) (v := ?_) rfl (by kernel_rfl) (by kernel_rfl) (by kernel_rfl) (fun _ _ _ h => h) (Or.inl ⟨by rfl, ?_⟩) (by assumption) ?_
      rotate_left
      · intro w hSw
        (try dsimp only at hSw)
        go_simp
        all_goals with_reducible rfl
      (try simp only [Act.put, List.setIfInBounds_toArray, List.set_cons_zero, List.set_cons_succ])
      refine wpAnyH_take (i := 1) (oi := _) (v := ?_) rfl (by kernel_rfl) (by kernel_rfl) (by kernel_rfl) (fun _ _ _ h => h) (Or.inl ⟨by rfl, ?_⟩) (by assumption) ?_
      rotate_left
      · intro w hSw
        (try dsimp only at hSw)
        go_simp
        all_goals with_reducible rfl
      (try simp only [Act.put, List.setIfInBounds_toArray, List.set_cons_zero, List.set_cons_succ])
      refine wpAnyH_take (i := 2) (oi := _) (v := ?_) rfl (by kernel_rfl) (by kernel_rfl) (by kernel_rfl) (fun _ _ _ h => h) (Or.inl ⟨by rfl, ?_⟩) (by assumption) ?_
      rotate_left
      · intro w hSw
        (try dsimp only at hSw)
        go_simp
        all_goals with_reducible rfl
      (try simp only [Act.put, List.setIfInBounds_toArray, List.set_cons_zero, List.set_cons_succ])
      refine wpAnyH_take (i := 3) (oi := _) (v := ?_) rfl (by kernel_rfl) (by kernel_rfl) (by kernel_rfl) (fun _ _ _ h => h) (Or.inl ⟨by rfl, ?_⟩) (by assumption) ?_
      rotate_left
      · intro w hSw
        (try dsimp only at hSw)
        go_simp
        all_goals with_reducible rfl
      (try simp only [Act.put, List.setIfInBounds_toArray, List.set_cons_zero, List.set_cons_succ])
      refine wpAnyH_take (i := 4) (oi := _) (v := ?_) rfl (by kernel_rfl) (by kernel_rfl) (by kernel_rfl) (fun _ _ _ h => h) (Or.inl ⟨by rfl, ?_⟩) (by assumption) ?_
      rotate_left
      · intro w hSw
        (try dsimp only at hSw)
        go_simp
        all_goals with_reducible rfl
      (try simp only [Act.put, List.setIfInBounds_toArray, List.set_cons_zero, List.set_cons_succ])
      refine wpAnyH_take (i := 5) (oi := _) (v := ?_) rfl (by kernel_rfl) (by kernel_rfl) (by kernel_rfl) (fun _ _ _ h => h) (Or.inl ⟨by rfl, ?_⟩) (by assumption) ?_
      rotate_left
      · intro w hSw
        (try dsimp only at hSw)
        go_simp
        all_goals with_reducible rfl
      (try simp only [Act.put, List.setIfInBounds_toArray, List.set_cons_zero, List.set_cons_succ])
      refine wpAnyH_take (i := 6) (oi := _) (v := ?_) rfl (by kernel_rfl) (by kernel_rfl) (by kernel_rfl) (fun _ _ _ h => h) (Or.inl ⟨by rfl, ?_⟩) (by assumption) ?_
      rotate_left
      · intro w hSw
        (try dsimp only at hSw)
        go_simp
        all_goals with_reducible rfl
      (try simp only [Act.put, List.setIfInBounds_toArray, List.set_cons_zero, List.set_cons_succ])
      refine wpAnyH_take (i := 8) (oi := _) (v := ?_) rfl (by kernel_rfl) (by kernel_rfl) (by kernel_rfl) (fun _ _ _ h => h) (Or.inl ⟨by rfl, ?_⟩) (by assumption) ?_
      rotate_left
      · intro w hSw
        (try dsimp only at hSw)
        go_simp
        all_goals with_reducible rfl
      (try simp only [Act.put, List.setIfInBounds_toArray, List.set_cons_zero, List.set_cons_succ])
      refine wpAnyH_take (i := 9) (oi := _) (v := ?_) rfl (by kernel_rfl) (by kernel_rfl) (by kernel_rfl) (fun _ _ _ h => h) (Or.inl ⟨by rfl, ?_⟩) (by assumption) ?_
      rotate_left
      · intro w hSw
        (try dsimp only at hSw)
        go_simp
        all_goals with_reducible rfl
      (try simp only [Act.put, List.setIfInBounds_toArray, List.set_cons_zero, List.set_cons_succ])
      refine wpAnyH_take (i := 10) (oi := _) (v := ?_) rfl (by kernel_rfl) (by kernel_rfl) (by kernel_rfl) (fun _ _ _ h => h) (Or.inl ⟨by rfl, ?_⟩) (by assumption) ?_
      rotate_left
      · intro w hSw
        (try dsimp only at hSw)
        go_simp
        all_goals with_reducible rfl
      (try simp only [Act.put, List.setIfInBounds_toArray, List.set_cons_zero, List.set_cons_succ])
      refine wpAnyH_take (i := 11) (oi := _) (v := ?_) rfl (by kernel_rfl) (by kernel_rfl) (by kernel_rfl) (fun _ _ _ h => h) (Or.inl ⟨by rfl, ?_⟩) (by assumption) ?_
      rotate_left
      · intro w hSw
        (try dsimp only at hSw)
        go_simp
        all_goals with_reducible rfl
      (try simp only [Act.put, List.setIfInBounds_toArray, List.set_cons_zero, List.set_cons_succ])
      refine wpAnyH_ready (rs := [7, 12]) (by kernel_rfl) (by simp) ?_
      refine AllReadyH.cons (o := _) rfl (fun K hK => ?_) ?_
      · go_simp
        refine hK.out _ _ (⟨f1, f3, f4⟩) (fun hHeld => ?_)
        clear hK K
        (try simp only [Act.put, List.setIfInBounds_toArray, List.set_cons_zero, List.set_cons_succ])
        refine wpAnyH_ready (rs := [12]) (by kernel_rfl) (by simp) ?_
        refine AllReadyH.cons (o := _) rfl (fun K hK => ?_) ?_
        · go_simp
          go_at_call 17
          refine (list_go _ y m d l HL9.out).mono ?_
          rintro e wl ⟨la, ln, lc, rfl, hE, hbl⟩
          obtain ⟨e1, e2, e3, e4, e5, e6⟩ := HSX.out _ hbl
          have hln := (own_sl hE).len
          have hba := HSX.out _ (bal hbl (.cells #[.int .i64 gg, .slice la ln lc] 50))
          obtain ⟨i1, i2, i3, i4, i5, i6⟩ := hba
          refine hK.out _ _ (⟨e1, e3, e4⟩) (fun hHeld => ?_)
          clear hK K
          (try simp only [Act.put, List.setIfInBounds_toArray, List.set_cons_zero, List.set_cons_succ])
          refine wpAnyH_take (i := 13) (oi := _) (v := ?_) rfl (by kernel_rfl) (by kernel_rfl) (by kernel_rfl) (fun _ _ _ h => h) (Or.inl ⟨by rfl, ?_⟩) (by assumption) ?_
          rotate_left
          · intro w hSw
            (try dsimp only at hSw)
            go_simp
            all_goals with_reducible rfl
          (try simp only [Act.put, List.setIfInBounds_toArray, List.set_cons_zero, List.set_cons_succ])
          refine wpAnyH_ready (rs := [14]) (by kernel_rfl) (by simp) ?_
          refine AllReadyH.cons (o := _) rfl (fun K hK => ?_) ?_
          · go_simp
            refine hK.out _ _ (⟨i1, i3, i4⟩) (fun hHeld => ?_)
            clear hK K
            (try simp only [Act.put, List.setIfInBounds_toArray, List.set_cons_zero, List.set_cons_succ])
            refine wpAnyH_ready (rs := [15]) (by kernel_rfl) (by simp) ?_
            refine AllReadyH.cons (o := _) rfl (fun K hK => ?_) ?_
            · refine step_app1 rfl _ _ 49 rfl Try.underlying49 infoAct rfl (by decide) (D s) (.slice ia il ic) il _ rfl ((own_mono HIO.out hbl).alloc _) wl.heap.size #[.int .i64 gg, .slice la ln lc] rfl (new_at _ _) rfl (by simp [Value.oneCell']) (by omega) (by omega) (by have := hbl.size; have := hDs; simp at *; omega) ?_
              intro v' wn hown' hgrow
              obtain ⟨va, vc, rfl⟩ := own_form hown'
              obtain ⟨hSn, hcn, hfn, hgn⟩ := HSY.out _ _ hbl hgrow
              refine hK.out _ _ (hSn) (fun hHeld => ?_)
              clear hK K
              (try simp only [Act.put, List.setIfInBounds_toArray, List.set_cons_zero, List.set_cons_succ])
              refine wpAnyH_take (i := 16) (oi := _) (v := ?_) rfl (by kernel_rfl) (by kernel_rfl) (by kernel_rfl) (fun _ _ _ h => h) (Or.inl ⟨by rfl, ?_⟩) (by assumption) ?_
              rotate_left
              · intro w hSw
                (try dsimp only at hSw)
                go_simp
                all_goals with_reducible rfl
              (try simp only [Act.put, List.setIfInBounds_toArray, List.set_cons_zero, List.set_cons_succ])
              refine wpAnyH_ready (rs := [17]) (by kernel_rfl) (by simp) ?_
              refine AllReadyH.cons (o := _) rfl (fun K hK => ?_) ?_
              · go_simp
                refine hK.out _ _ (HSZ.out _ _ hbl hgrow) (fun hHeld => ?_)
                clear hK K
                (try simp only [Act.put, List.setIfInBounds_toArray, List.set_cons_zero, List.set_cons_succ])
                refine wpAnyH_done (by kernel_rfl) ?_ _
                go_wp2_with fail
                go_meet
                exact ⟨rfl, wl, wn, _, va, vc, _, hbl, by rw [hln]; exact hE, hown', hgrow, rfl⟩
              exact AllReadyH.nil
            exact AllReadyH.nil
          exact AllReadyH.nil
        exact AllReadyH.nil
      refine AllReadyH.cons (o := _) rfl (fun K hK => ?_) ?_
      · go_simp
        go_at_call 17
        refine (list_go _ y m d l HL9.out).mono ?_
        rintro e wl ⟨la, ln, lc, rfl, hE, hbl⟩
        obtain ⟨e1, e2, e3, e4, e5, e6⟩ := HSX.out _ hbl
        have hln := (own_sl hE).len
        have hba := HSX.out _ (bal hbl (.cells #[.int .i64 gg, .slice la ln lc] 50))
        obtain ⟨i1, i2, i3, i4, i5, i6⟩ := hba
        refine hK.out _ _ (⟨e1, e3, e4⟩) (fun hHeld => ?_)
        clear hK K
        (try simp only [Act.put, List.setIfInBounds_toArray, List.set_cons_zero, List.set_cons_succ])
        refine wpAnyH_take (i := 13) (oi := _) (v := ?_) rfl (by kernel_rfl) (by kernel_rfl) (by kernel_rfl) (fun _ _ _ h => h) (Or.inl ⟨by rfl, ?_⟩) (by assumption) ?_
        rotate_left
        · intro w hSw
          (try dsimp only at hSw)
          go_simp
          all_goals with_reducible rfl
        (try simp only [Act.put, List.setIfInBounds_toArray, List.set_cons_zero, List.set_cons_succ])
        refine wpAnyH_ready (rs := [7, 14]) (by kernel_rfl) (by simp) ?_
        refine AllReadyH.cons (o := _) rfl (fun K hK => ?_) ?_
        · go_simp
          refine hK.out _ _ (⟨e1, e3, e4⟩) (fun hHeld => ?_)
          clear hK K
          (try simp only [Act.put, List.setIfInBounds_toArray, List.set_cons_zero, List.set_cons_succ])
          refine wpAnyH_ready (rs := [14]) (by kernel_rfl) (by simp) ?_
          refine AllReadyH.cons (o := _) rfl (fun K hK => ?_) ?_
          · go_simp
            refine hK.out _ _ (⟨i1, i3, i4⟩) (fun hHeld => ?_)
            clear hK K
            (try simp only [Act.put, List.setIfInBounds_toArray, List.set_cons_zero, List.set_cons_succ])
            refine wpAnyH_ready (rs := [15]) (by kernel_rfl) (by simp) ?_
            refine AllReadyH.cons (o := _) rfl (fun K hK => ?_) ?_
            · refine step_app1 rfl _ _ 49 rfl Try.underlying49 infoAct rfl (by decide) (D s) (.slice ia il ic) il _ rfl ((own_mono HIO.out hbl).alloc _) wl.heap.size #[.int .i64 gg, .slice la ln lc] rfl (new_at _ _) rfl (by simp [Value.oneCell']) (by omega) (by omega) (by have := hbl.size; have := hDs; simp at *; omega) ?_
              intro v' wn hown' hgrow
              obtain ⟨va, vc, rfl⟩ := own_form hown'
              obtain ⟨hSn, hcn, hfn, hgn⟩ := HSY.out _ _ hbl hgrow
              refine hK.out _ _ (hSn) (fun hHeld => ?_)
              clear hK K
              (try simp only [Act.put, List.setIfInBounds_toArray, List.set_cons_zero, List.set_cons_succ])
              refine wpAnyH_take (i := 16) (oi := _) (v := ?_) rfl (by kernel_rfl) (by kernel_rfl) (by kernel_rfl) (fun _ _ _ h => h) (Or.inl ⟨by rfl, ?_⟩) (by assumption) ?_
              rotate_left
              · intro w hSw
                (try dsimp only at hSw)
                go_simp
                all_goals with_reducible rfl
              (try simp only [Act.put, List.setIfInBounds_toArray, List.set_cons_zero, List.set_cons_succ])
              refine wpAnyH_ready (rs := [17]) (by kernel_rfl) (by simp) ?_
              refine AllReadyH.cons (o := _) rfl (fun K hK => ?_) ?_
              · go_simp
                refine hK.out _ _ (HSZ.out _ _ hbl hgrow) (fun hHeld => ?_)
                clear hK K
                (try simp only [Act.put, List.setIfInBounds_toArray, List.set_cons_zero, List.set_cons_succ])
                refine wpAnyH_done (by kernel_rfl) ?_ _
                go_wp2_with fail
                go_meet
                exact ⟨rfl, wl, wn, _, va, vc, _, hbl, by rw [hln]; exact hE, hown', hgrow, rfl⟩
              exact AllReadyH.nil
            exact AllReadyH.nil
          exact AllReadyH.nil
        refine AllReadyH.cons (o := _) rfl (fun K hK => ?_) ?_
        · go_simp
          refine hK.out _ _ (⟨i1, i3, i4⟩) (fun hHeld => ?_)
          clear hK K
          (try simp only [Act.put, List.setIfInBounds_toArray, List.set_cons_zero, List.set_cons_succ])
          refine wpAnyH_ready (rs := [7]) (by kernel_rfl) (by simp) ?_
          refine AllReadyH.cons (o := _) rfl (fun K hK => ?_) ?_
          · go_simp
            refine hK.out _ _ (⟨i1, i3, i4⟩) (fun hHeld => ?_)
            clear hK K
            (try simp only [Act.put, List.setIfInBounds_toArray, List.set_cons_zero, List.set_cons_succ])
            refine wpAnyH_ready (rs := [15]) (by kernel_rfl) (by simp) ?_
            refine AllReadyH.cons (o := _) rfl (fun K hK => ?_) ?_
            · refine step_app1 rfl _ _ 49 rfl Try.underlying49 infoAct rfl (by decide) (D s) (.slice ia il ic) il _ rfl ((own_mono HIO.out hbl).alloc _) wl.heap.size #[.int .i64 gg, .slice la ln lc] rfl (new_at _ _) rfl (by simp [Value.oneCell']) (by omega) (by omega) (by have := hbl.size; have := hDs; simp at *; omega) ?_
              intro v' wn hown' hgrow
              obtain ⟨va, vc, rfl⟩ := own_form hown'
              obtain ⟨hSn, hcn, hfn, hgn⟩ := HSY.out _ _ hbl hgrow
              refine hK.out _ _ (hSn) (fun hHeld => ?_)
              clear hK K
              (try simp only [Act.put, List.setIfInBounds_toArray, List.set_cons_zero, List.set_cons_succ])
              refine wpAnyH_take (i := 16) (oi := _) (v := ?_) rfl (by kernel_rfl) (by kernel_rfl) (by kernel_rfl) (fun _ _ _ h => h) (Or.inl ⟨by rfl, ?_⟩) (by assumption) ?_
              rotate_left
              · intro w hSw
                (try dsimp only at hSw)
                go_simp
                all_goals with_reducible rfl
              (try simp only [Act.put, List.setIfInBounds_toArray, List.set_cons_zero, List.set_cons_succ])
              refine wpAnyH_ready (rs := [17]) (by kernel_rfl) (by simp) ?_
              refine AllReadyH.cons (o := _) rfl (fun K hK => ?_) ?_
              · go_simp
                refine hK.out _ _ (HSZ.out _ _ hbl hgrow) (fun hHeld => ?_)
                clear hK K
                (try simp only [Act.put, List.setIfInBounds_toArray, List.set_cons_zero, List.set_cons_succ])
                refine wpAnyH_done (by kernel_rfl) ?_ _
                go_wp2_with fail
                go_meet
                exact ⟨rfl, wl, wn, _, va, vc, _, hbl, by rw [hln]; exact hE, hown', hgrow, rfl⟩
              exact AllReadyH.nil
            exact AllReadyH.nil
          exact AllReadyH.nil
        exact AllReadyH.nil
      exact AllReadyH.nil
    case rest =>
      obtain ⟨rfl, w1, w2, ob, va, vc, o', hbl, hE, hown, hgrow, rfl⟩ := hcut
      obtain ⟨g0, e0, hlo, hlt, _, _, hA2⟩ := acts2_more (w := (w6.alloc (.cells #[.int .i64 W.a, .int .i64 W.b, .slice (some ⟨gx, 0, none⟩) n6 c6] 33)).drew) (x := ⟨gg, l.take 7⟩) (hTT.out.monoT HB9.out HB9.out.size) (by rw [HNA.out]; exact hsn) (hTI.out.monoT HB9.out) hbl hE (by rw [hIL]; exact hown) (by rw [hEs]; exact hgrow)
      injection e0 with e0
      injection e0 with e0
      subst e0
      have HA9 := Lib.hid (show A2Sl (w2.setCell ⟨gx, s, none⟩ (.slice va (il + 1) vc)) (some ⟨gx, 0, none⟩) n6 c6 (moreW W s ⟨gg, l.take 7⟩).acts from hA2)
      have hq1 := ((app_keep HIO.out hbl hgrow).2.2 _ _ _ (by decide) HBX.out).trans HBX.out
      have hq2 := (Below.heap_setCell w2 ⟨gx, s, none⟩ (.slice va (il + 1) vc) w6.heap.size (fun e => HNE.out.1 e.symm)).trans hq1
      have m0 : (w2.setCell ⟨gx, s, none⟩ (.slice va (il + 1) vc)).cell? ⟨w6.heap.size, 0, none⟩ = some (.int .i64 W.a) := by rw [cells_at hq2]; rfl
      have m1 : (w2.setCell ⟨gx, s, none⟩ (.slice va (il + 1) vc)).cell? ⟨w6.heap.size, 1, none⟩ = some (.int .i64 W.b) := by rw [cells_at hq2]; rfl
      have m2 : (w2.setCell ⟨gx, s, none⟩ (.slice va (il + 1) vc)).cell? ⟨w6.heap.size, 2, none⟩ = some (.slice (some ⟨gx, 0, none⟩) n6 c6) := by rw [cells_at hq2]; rfl
      have m3 := lt_of_block hq2
      have hB56 := HB56.out.size
      have hbl0 := hbl.size
      have HB59 := Lib.hid (show Below w5.heap.size w5 (w2.setCell ⟨gx, s, none⟩ (.slice va (il + 1) vc)) from
        (((btr (btr HB56.out HB9.out) hbl).alloc (by have := HB9.out.size; omega) ob).grown hgrow (by have := HB9.out.size; simp; omega) (fun k hk => by have := (HIO.out.lt k hk).1; omega)).setCell (p := ⟨gx, s, none⟩) (by have := hgl; exact hgl) (.slice va (il + 1) vc))
      clear hA2 hq1 hq2 hE hown hgrow hbl hlt hlo f1 f2 f3 f4 f5 f6 hs0 hsl hlen3 hbl0 hB56 hgl hgz hgn
      generalize w2.setCell ⟨gx, s, none⟩ (.slice va (il + 1) vc) = w9 at *
      have HF9 := Lib.hid (HF5.out.mono HB59.out)
      have HB9' := Lib.hid (btr HB5.out HB59.out)
      have hmw : (moreW W s ⟨gg, l.take 7⟩).acts.length = n6 := by show (W.acts.set s _).length = n6; rw [List.length_set]; exact HNA.out
      have HMW := Lib.hid hmw
      clear hmw
      cases hv : vWd (moreW W s ⟨gg, l.take 7⟩) with
      | false =>
        have HV := Lib.hid hv
        clear hv
        go_wp2_with fail
        refine (bound_no _ _ _ _ (moreW W s ⟨gg, l.take 7⟩) HA9.out HV.out).mono ?_
        rintro e w10 ⟨x10, n10, c10, rfl, hn10, ho10, hb10⟩
        have HB10 := Lib.hid (btr HB9'.out hb10)
        clear ho10 hb10 hn10
        go_wp2_with fail
        refine (awake_go _).mono ?_
        rintro e w11 ⟨rfl, hb11⟩
        go_wp2
        go_ret
        exact ⟨rfl, btr (btr HB0.out HB10.out) hb11⟩
      | true =>
        have HV := Lib.hid hv
        clear hv
        go_wp2_with fail
        refine (bound_go _ _ _ _ (moreW W s ⟨gg, l.take 7⟩) HA9.out HV.out).mono ?_
        rintro e w10 ⟨q, hq10, ho10, x10, n10, c10, rfl, hn10, hw10, hb10⟩
        have hq' : n10 = n6 := by rw [hn10, worthF_len]; exact HMW.out
        clear hn10
        subst hq'
        have HQ := Lib.hid hq10
        have HOQ := Lib.hid ho10
        have HG10 := Lib.hid (own_fr hw10 (by rw [worthF_len]; exact HMW.out.symm))
        have HF10 := Lib.hid (HF9.out.mono hb10)
        have HB10 := Lib.hid (btr HB9'.out hb10)
        have hz10 := persist HZ.out HB10.out
        have k0 : w10.cell? ⟨w.heap.size, 0, none⟩ = some (.int .i64 W.a) := by rw [cells_at hz10]; rfl
        have k1 : w10.cell? ⟨w.heap.size, 1, none⟩ = some (.int .i64 W.b) := by rw [cells_at hz10]; rfl
        have k2 : w10.cell? ⟨w.heap.size, 2, none⟩ = some (.slice x n10 c) := by rw [cells_at hz10]; rfl
        have k3 := lt_of_block hz10
        have HLW := Lib.hid (fun i (hi : i < n10) => worth_low HP4.out (s := i) (by rw [HNA.out]; exact hi))
        have HLQ := Lib.hid (fun i (hi : i < n10) => worth_low HQ.out (s := i) (by rw [HMW.out]; exact hi))
        have HGE := Lib.hid (fun i (hi : i < n10) => more_ge (i := i) HP4.out (by rw [HNA.out]; exact hsn) HQ.out HOQ.out (by rw [HNA.out]; exact hi))
        clear hq10 ho10 hw10 hb10 hz10
        generalize worthF (moreW W s ⟨gg, l.take 7⟩) q = G at *
        generalize worthF W p = F at *
        go_wp2_with fail
        refine (lowest_go _ x4 n10 c4 F HF10.out HLW.out).mono ?_
        rintro e w11 ⟨rfl, hb11⟩
        have HF11 := Lib.hid (HF10.out.mono hb11)
        have HG11 := Lib.hid (HG10.out.mono hb11)
        have HB11 := Lib.hid (btr HB10.out hb11)
        clear hb11 k0 k1 k2 k3
        go_wp2_with fail
        refine (lowest_go _ x10 n10 c10 G HG11.out HLQ.out).mono ?_
        rintro e w12 ⟨rfl, hb12⟩
        have HF12 := Lib.hid (HF11.out.mono hb12)
        have HG12 := Lib.hid (HG11.out.mono hb12)
        have HB12 := Lib.hid (btr HB11.out hb12)
        have hcf := HF12.out.2.cap
        have hcg := HG12.out.2.cap
        unfold maxLen at hcf hcg
        clear hb12
        go_wp2
        go_loopw [94] (fun t wr => ∃ i : Nat, i ≤ n10 ∧ t = .int .i64 i ∧ Below w12.heap.size w12 wr) (fun t _ => n10 - (intOf t).toNat)
        case atStart => exact ⟨0, by omega, rfl, Below.refl _ _⟩
        case round =>
          obtain ⟨i, hi, rfl, hB⟩ := hrel
          by_cases hli : i < n10
          · obtain ⟨bf, of', rfl, hbf, hhf⟩ := (HF12.out.mono hB).at (by omega)
            obtain ⟨bg, og, rfl, hbg, hhg⟩ := (HG12.out.mono hB).at (by omega)
            obtain ⟨p1, p2⟩ := hhf i hli
            obtain ⟨q1, q2⟩ := hhg i hli
            have hge := HGE.out i hli
            have lf := HLW.out i hli
            have lg := HLQ.out i hli
            have hic4 : i < c4 := by omega
            have hic10 : i < c10 := by omega
            have HGE1 := Lib.hid hge
            have HLF := Lib.hid lf
            have HLG := Lib.hid lg
            have hC := hB.drew
            clear hhf hhg hge lf lg
            generalize fr F i = f at *
            generalize fr G i = g at *
            have HSW := Lib.hid (fun (w' : World) (hb : Below wr.drew.heap.size wr.drew w') =>
              (show w'.cell? ⟨bf, of' + i * 2, none⟩ = some (.int .i64 f.n) ∧ w'.cell? ⟨bf, of' + i * 2 + 1, none⟩ = some (.int .i64 f.d) ∧ w'.cell? ⟨bg, og + i * 2, none⟩ = some (.int .i64 g.n) ∧ w'.cell? ⟨bg, og + i * 2 + 1, none⟩ = some (.int .i64 g.d) from
                ⟨((bcell hb).1 _ _ hbf).trans p1, ((bcell hb).1 _ _ hbf).trans p2, ((bcell hb).1 _ _ hbg).trans q1, ((bcell hb).1 _ _ hbg).trans q2⟩))
            obtain ⟨r1, r2, r3, r4⟩ := HSW.out _ (Below.refl _ _)
            go_wp2
            go_region_held3 (fun w' => w'.cell? ⟨bf, of' + i * 2, none⟩ = some (.int .i64 f.n) ∧ w'.cell? ⟨bf, of' + i * 2 + 1, none⟩ = some (.int .i64 f.d) ∧ w'.cell? ⟨bg, og + i * 2, none⟩ = some (.int .i64 g.n) ∧ w'.cell? ⟨bg, og + i * 2 + 1, none⟩ = some (.int .i64 g.d))
              (first | exact HSW.out _ hbz | go_keep)
              ((go_at_call 26; refine (less_go _ g f HLG.out HLF.out).mono ?_; rintro e wz ⟨rfl, hbz⟩; rw [HGE1.out]))
            have hBz := btr hC hbz
            clear r1 r2 r3 r4 hbz p1 p2 q1 q2
            go_wp2
            go_roundw
            case rel => go_light; exact ⟨i + 1, by omega, by go_num, hBz⟩
            case measure => simp [intOf]; omega
          · obtain rfl : i = n10 := by omega
            go_wp2_with fail
            refine (awake_go _).mono ?_
            rintro e w13 ⟨rfl, hb13⟩
            go_wp2
            go_ret
            exact ⟨rfl, btr (btr HB0.out (btr HB12.out hB)) hb13⟩
end Go.Proofs.Ytcmakddnjmeklaa
