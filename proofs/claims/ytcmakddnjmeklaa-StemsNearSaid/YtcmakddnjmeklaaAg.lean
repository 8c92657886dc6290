/- Chapter 9: the program's plus. -/
import Derived.Test.YtcmakddnjmeklaaAp
namespace Go.Proofs.Ytcmakddnjmeklaa
open Go.RowKit
set_option linter.unusedSimpArgs false

theorem plus_val {qn qd rn rd qe re g : Int} (h0 : 0 < g) (h1 : 0 < qe) (h2 : 0 < rd) (e1 : qe * g = qd) (e2 : re * g = rd) :
    ((qn * re + rn * qe : Int) : Rat) / ((qe * rd : Int) : Rat) = ((qn * rd + rn * qd : Int) : Rat) / ((qd * rd : Int) : Rat) := by
  have n0 := ratD_ne h0
  have n1 := ratD_ne (Int.mul_pos h1 h2)
  rw [show qn * rd + rn * qd = (qn * re + rn * qe) * g by rw [← e1, ← e2]; grind, show qd * rd = qe * rd * g by rw [← e1]; grind, Rat.intCast_mul (qn * re + rn * qe) g, Rat.intCast_mul (qe * rd) g]
  generalize ((qn * re + rn * qe : Int) : Rat) = a at *
  generalize ((qe * rd : Int) : Rat) = c at *
  generalize (g : Rat) = f at *
  grind
theorem quo_gcd (p q : Int) (hp : 1 ≤ p) (hq : 1 ≤ q) : ∃ g x y : Int, (Int.gcd p q : Int) = g ∧ 1 ≤ g ∧ p.tdiv g = x ∧ q.tdiv g = y ∧ x * g = p ∧ y * g = q ∧ 1 ≤ x ∧ 1 ≤ y ∧ x ≤ p ∧ y ≤ q := by
  have hg : (Int.gcd p q : Int) ≠ 0 := by
    have : Int.gcd p q ≠ 0 := fun h => by rw [Int.gcd_eq_zero_iff] at h; omega
    omega
  have h1 := Int.tdiv_mul_cancel (Int.gcd_dvd_left (a := p) (b := q))
  have h2 := Int.tdiv_mul_cancel (Int.gcd_dvd_right (a := p) (b := q))
  have hg1 : (1 : Int) ≤ (Int.gcd p q : Int) := by omega
  refine ⟨_, _, _, rfl, hg1, rfl, rfl, h1, h2, ?_⟩
  generalize p.tdiv (Int.gcd p q : Int) = x at *
  generalize q.tdiv (Int.gcd p q : Int) = y at *
  generalize (Int.gcd p q : Int) = g at *
  have h3 : 0 < x := Int.pos_of_mul_pos_left (b := g) (by omega) (by omega)
  have h4 : 0 < y := Int.pos_of_mul_pos_left (b := g) (by omega) (by omega)
  have h5 := Int.mul_le_mul_of_nonneg_left hg1 (Int.le_of_lt h3)
  have h6 := Int.mul_le_mul_of_nonneg_left hg1 (Int.le_of_lt h4)
  omega
set_option maxHeartbeats 2000000 in
theorem pplus_go (w : World) (q r z : Rat) (hz : q + r = z) (hq : (q.den : Int) ≤ 10000000 ∧ -1000000000 ≤ q.num ∧ q.num ≤ 1000000000) (hr : (r.den : Int) ≤ 10000000 ∧ -1000000000 ≤ r.num ∧ r.num ≤ 1000000000) :
    Calls Try.prog 66 #[.agg #[.int .i64 (toFr q).n, .int .i64 (toFr q).d], .agg #[.int .i64 (toFr r).n, .int .i64 (toFr r).d]] w fun e w' => e = .returned (.agg #[.int .i64 (toFr z).n, .int .i64 (toFr z).d]) ∧ Below w.heap.size w w' := by
  have h1 := frd_pos q
  have h2 := frd_pos r
  have HF := Lib.hid (rat_plus q r)
  rw [hz] at HF
  show Calls Try.prog _ #[.agg #[.int .i64 q.num, .int .i64 (q.den : Int)], .agg #[.int .i64 r.num, .int .i64 (r.den : Int)]] w _
  generalize q.num = qn at *
  generalize (q.den : Int) = qd at *
  generalize r.num = rn at *
  generalize (r.den : Int) = rd at *
  obtain ⟨g, x, y, hg, hg1, hx, hy, ex, ey, x1, y1, x2, y2⟩ := quo_gcd qd rd h1 h2
  have m1 := mul_le3 (A := 1000000000) (B := 10000000) hq.2.1 hq.2.2 (show -10000000 ≤ y by omega) (by omega) (by omega)
  have m2 := mul_le3 (A := 1000000000) (B := 10000000) hr.2.1 hr.2.2 (show -10000000 ≤ x by omega) (by omega) (by omega)
  have m3 := mul_le3 (A := 10000000) (B := 10000000) (show -10000000 ≤ x by omega) (by omega) (show -10000000 ≤ rd by omega) hr.1 (by omega)
  have m4 : 0 < x * rd := Int.mul_pos (by omega) (by omega)
  have HV := Lib.hid ((plus_val (qn := qn) (rn := rn) (by omega) (by omega) (by omega) ex ey).trans HF.out)
  have hg0 : g ≠ 0 := by omega
  have HG := Lib.hid hg
  obtain ⟨c1, c2, c3⟩ := box3 w (.cells #[.int .i64 qn, .int .i64 qd] 53) (.cells #[.int .i64 rn, .int .i64 rd] 53) (.cells #[.int .i64 0, .int .i64 0] 53)
  have HX1 := Lib.hid (FrAt.new c1)
  have HX2 := Lib.hid (FrAt.new c2)
  have HX3 := Lib.hid (FrAt.new c3)
  have HB0 := Lib.hid (bal (bal (bal (Below.refl w.heap.size w) (.cells #[.int .i64 qn, .int .i64 qd] 53)) (.cells #[.int .i64 rn, .int .i64 rd] 53)) (.cells #[.int .i64 0, .int .i64 0] 53))
  obtain ⟨pA, hA⟩ : ∃ p, qn * y = p := ⟨_, rfl⟩
  obtain ⟨pB, hB⟩ : ∃ p, rn * x = p := ⟨_, rfl⟩
  obtain ⟨pC, hC⟩ : ∃ p, x * rd = p := ⟨_, rfl⟩
  rw [hA] at m1 HV
  rw [hB] at m2 HV
  rw [hC] at m3 m4 HV
  obtain ⟨zn, hzn⟩ : ∃ zn, z.num = zn := ⟨_, rfl⟩
  obtain ⟨zd, hzd⟩ : ∃ zd, (z.den : Int) = zd := ⟨_, rfl⟩
  have HFC := Lib.hid (fun w' => (show Calls Try.prog 67 #[.int .i64 (pA + pB), .int .i64 pC] w' fun e w'' => e = .returned (.agg #[.int .i64 zn, .int .i64 zd]) ∧ Below w'.heap.size w' w'' from by
    have h9 := frac_go w' (pA + pB) pC (by omega) m4 (by omega)
    rw [HV.out] at h9
    subst hzn hzd
    exact h9))
  have HZ := Lib.hid (show (Value.agg #[.int .i64 (toFr z).n, .int .i64 (toFr z).d]) = .agg #[.int .i64 zn, .int .i64 zd] by subst hzn hzd; rfl)
  rw [HZ.out]
  have k1 : IntKind.i64.wrap x = x := wrap_i64j _ (by omega) (by omega)
  have k2 : IntKind.i64.wrap y = y := wrap_i64j _ (by omega) (by omega)
  have k1' : wrap64 x = x := (IntWalk.i64_left _).symm.trans k1
  have k2' : wrap64 y = y := (IntWalk.i64_left _).symm.trans k2
  have k3 : IntKind.i64.wrap pA = pA := wrap_i64j _ (by omega) (by omega)
  have k4 : IntKind.i64.wrap pB = pB := wrap_i64j _ (by omega) (by omega)
  have k5 : IntKind.i64.wrap (pA + pB) = pA + pB := wrap_i64j _ (by omega) (by omega)
  have k6 : IntKind.i64.wrap pC = pC := wrap_i64j _ (by omega) (by omega)
  clear c1 c2 c3 hz ex ey hzn hzd hg
  go_enter Try.func66, Try.ntmps66
  go_wp2_with fail
  generalize ((w.alloc (.cells #[.int .i64 qn, .int .i64 qd] 53)).alloc (.cells #[.int .i64 rn, .int .i64 rd] 53)).alloc (.cells #[.int .i64 0, .int .i64 0] 53) = V at *
  refine (gcd_go _ qd rd (by omega) (by omega)).mono ?_
  rintro e w2 ⟨rfl, hb⟩
  have hb := drewB hb
  rw [HG.out]
  have HX31 := Lib.hid (HX3.out.mono hb)
  have HB1 := Lib.hid hb
  have HSX := Lib.hid (fun (w' : World) (hb' : Below w2.heap.size w2 w') =>
    (show w'.cell? ⟨w.heap.size, 0, none⟩ = some (.int .i64 qn) ∧ w'.cell? ⟨w.heap.size, 1, none⟩ = some (.int .i64 qd) ∧ w'.cell? ⟨w.heap.size + 1, 0, none⟩ = some (.int .i64 rn) ∧ w'.cell? ⟨w.heap.size + 1, 1, none⟩ = some (.int .i64 rd) from
      have q1 := HX1.out.mono (btr HB1.out hb')
      have q2 := HX2.out.mono (btr HB1.out hb')
      ⟨q1.2.1, q1.2.2.1, q2.2.1, q2.2.2.1⟩))
  have HSY := Lib.hid (fun (w' : World) (hb' : Below w2.heap.size w2 w') (v1 v2 : Value) =>
    (show ((w'.setCell ⟨w.heap.size + 1 + 1, 0, none⟩ v1).setCell ⟨w.heap.size + 1 + 1, 1, none⟩ v2).cell? ⟨w.heap.size, 0, none⟩ = some (.int .i64 qn) ∧ ((w'.setCell ⟨w.heap.size + 1 + 1, 0, none⟩ v1).setCell ⟨w.heap.size + 1 + 1, 1, none⟩ v2).cell? ⟨w.heap.size, 1, none⟩ = some (.int .i64 qd) ∧ ((w'.setCell ⟨w.heap.size + 1 + 1, 0, none⟩ v1).setCell ⟨w.heap.size + 1 + 1, 1, none⟩ v2).cell? ⟨w.heap.size + 1, 0, none⟩ = some (.int .i64 rn) ∧ ((w'.setCell ⟨w.heap.size + 1 + 1, 0, none⟩ v1).setCell ⟨w.heap.size + 1 + 1, 1, none⟩ v2).cell? ⟨w.heap.size + 1, 1, none⟩ = some (.int .i64 rd) from
      have n0 : ∀ i : Nat, w.heap.size ≠ (⟨w.heap.size + 1 + 1, i, none⟩ : Addr).block := fun i => by show w.heap.size ≠ w.heap.size + 1 + 1; omega
      have n1 : ∀ i : Nat, w.heap.size + 1 ≠ (⟨w.heap.size + 1 + 1, i, none⟩ : Addr).block := fun i => by show w.heap.size + 1 ≠ w.heap.size + 1 + 1; omega
      have q1 := (((HX1.out.mono (btr HB1.out hb')).far (n0 0) v1).far (n0 1) v2)
      have q2 := (((HX2.out.mono (btr HB1.out hb')).far (n1 0) v1).far (n1 1) v2)
      ⟨q1.2.1, q1.2.2.1, q2.2.1, q2.2.2.1⟩))
  have hC : Below w2.heap.size w2 w2.drew := (Below.refl _ _).drew
  obtain ⟨r1, r2, r3, r4⟩ := HSX.out _ hC
  have hz1 := HX1.out.mono HB1.out
  have hz2 := HX2.out.mono HB1.out
  have hz3 := hz1.1
  have hz4 := hz2.1
  have hz5 := HX31.out.1
  clear hb hz1 hz2
  go_wp2
  go_region_held3 (fun w' => w'.cell? ⟨w.heap.size, 0, none⟩ = some (.int .i64 qn) ∧ w'.cell? ⟨w.heap.size, 1, none⟩ = some (.int .i64 qd) ∧ w'.cell? ⟨w.heap.size + 1, 0, none⟩ = some (.int .i64 rn) ∧ w'.cell? ⟨w.heap.size + 1, 1, none⟩ = some (.int .i64 rd))
    (first | exact HSX.out _ hC | exact HSY.out _ hC _ _ | go_keep)
    (first
      | ((with_reducible refine (HFC.out _).mono ?_); rintro e w' ⟨rfl, hb⟩; replace hC := btr hC hb; clear hb; obtain ⟨u1, u2, u3, u4, u5⟩ := HX31.out.mono hC))
  obtain ⟨v1, v2, v3, v4, v5⟩ := (HX31.out.mono hC).store ⟨zn, zd⟩
  go_wp2
  exact bodyPost_ret (v := .agg #[.int .i64 zn, .int .i64 zd]) (by simp [results, Try.results66, go_sem, *]) rfl ⟨rfl, ((btr HB0.out (btr HB1.out hC)).setCell (p := ⟨w.heap.size + 1 + 1, 0, none⟩) (show w.heap.size ≤ w.heap.size + 1 + 1 by omega) _).setCell (p := ⟨w.heap.size + 1 + 1, 1, none⟩) (show w.heap.size ≤ w.heap.size + 1 + 1 by omega) _⟩
end Go.Proofs.Ytcmakddnjmeklaa
