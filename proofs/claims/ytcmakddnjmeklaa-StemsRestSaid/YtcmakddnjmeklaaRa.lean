/- Chapter 9, the reference: plus, times, act. -/
import Derived.Test.YtcmakddnjmeklaaRg
namespace Go.Proofs.Ytcmakddnjmeklaa
open Go.RowKit
set_option linter.unusedSimpArgs false

/-! ### fractions as rationals -/
theorem frd_ne (q : Rat) : ((q.den : Int) : Rat) ≠ 0 := by
  intro h
  have h2 : (q.den : Int) = 0 := by exact_mod_cast h
  have := q.den_pos
  omega
theorem fr_val (q : Rat) : q * ((q.den : Int) : Rat) = ((q.num : Int) : Rat) := by
  have h : q = ((q.num : Int) : Rat) / ((q.den : Int) : Rat) := by rw [← Rat.divInt_eq_div, Rat.num_divInt_den]
  have h0 := frd_ne q
  generalize ((q.num : Int) : Rat) = n at *
  generalize ((q.den : Int) : Rat) = d at *
  grind
theorem rat_plus (q r : Rat) : ((q.num * (r.den : Int) + r.num * (q.den : Int) : Int) : Rat) / (((q.den : Int) * (r.den : Int) : Int) : Rat) = q + r := by
  have h1 := fr_val q
  have h2 := fr_val r
  have h3 := frd_ne q
  have h4 := frd_ne r
  rw [Rat.intCast_add, Rat.intCast_mul, Rat.intCast_mul, Rat.intCast_mul]
  generalize ((q.num : Int) : Rat) = n at *
  generalize ((q.den : Int) : Rat) = d at *
  generalize ((r.num : Int) : Rat) = m at *
  generalize ((r.den : Int) : Rat) = e at *
  grind
theorem rat_times (q r : Rat) : ((q.num * r.num : Int) : Rat) / (((q.den : Int) * (r.den : Int) : Int) : Rat) = q * r := by
  have h1 := fr_val q
  have h2 := fr_val r
  have h3 := frd_ne q
  have h4 := frd_ne r
  rw [Rat.intCast_mul, Rat.intCast_mul]
  generalize ((q.num : Int) : Rat) = n at *
  generalize ((q.den : Int) : Rat) = d at *
  generalize ((r.num : Int) : Rat) = m at *
  generalize ((r.den : Int) : Rat) = e at *
  grind
theorem toFr_int (x : Int) : toFr (x : Rat) = ⟨x, 1⟩ := by
  unfold toFr; rw [Rat.num_intCast, Rat.den_intCast]; rfl
theorem frd_pos (q : Rat) : 1 ≤ (q.den : Int) := by have := q.den_pos; omega
def FrAt (w : World) (p : Nat) (x : Fr) : Prop := p < w.heap.size ∧ w.cell? ⟨p, 0, none⟩ = some (.int .i64 x.n) ∧ w.cell? ⟨p, 1, none⟩ = some (.int .i64 x.d) ∧ w.frozen? ⟨p, 0, none⟩ = false ∧ w.frozen? ⟨p, 1, none⟩ = false
theorem FrAt.new {w : World} {p : Nat} {x y : Int} {t : TypeId} (h : w.heap[p]? = some (.cells #[.int .i64 x, .int .i64 y] t (0, 0))) : FrAt w p ⟨x, y⟩ :=
  ⟨lt_of_block h, by rw [cells_at h]; rfl, by rw [cells_at h]; rfl, free_at h 0, free_at h 1⟩
theorem FrAt.mono {w w' : World} {p : Nat} {x : Fr} (h : FrAt w p x) (hb : Below w.heap.size w w') : FrAt w' p x :=
  ⟨Nat.lt_of_lt_of_le h.1 hb.size, (hb.cell (p := ⟨p, 0, none⟩) h.1).trans h.2.1, (hb.cell (p := ⟨p, 1, none⟩) h.1).trans h.2.2.1, (hb.frozen (p := ⟨p, 0, none⟩) h.1).trans h.2.2.2.1, (hb.frozen (p := ⟨p, 1, none⟩) h.1).trans h.2.2.2.2⟩
theorem FrAt.far {w : World} {p : Nat} {x : Fr} (h : FrAt w p x) {a : Addr} (hne : p ≠ a.block) (v : Value) : FrAt (w.setCell a v) p x :=
  ⟨by simpa using h.1, (World.cell?_setCell_other _ _ _ _ (by intro e; subst e; exact hne rfl)).trans h.2.1, (World.cell?_setCell_other _ _ _ _ (by intro e; subst e; exact hne rfl)).trans h.2.2.1, (World.frozen?_setCell ..).trans h.2.2.2.1, (World.frozen?_setCell ..).trans h.2.2.2.2⟩
theorem FrAt.store {w : World} {p : Nat} {x : Fr} (h : FrAt w p x) (y : Fr) : FrAt ((w.setCell ⟨p, 0, none⟩ (.int .i64 y.n)).setCell ⟨p, 1, none⟩ (.int .i64 y.d)) p y :=
  ⟨by simpa using h.1, (World.cell?_setCell_other _ _ _ _ (by simp)).trans (World.cell?_setCell_same _ _ _ h.2.1), World.cell?_setCell_same _ _ _ ((World.cell?_setCell_other _ _ _ _ (by simp)).trans h.2.2.1), ((World.frozen?_setCell ..).trans (World.frozen?_setCell ..)).trans h.2.2.2.1, ((World.frozen?_setCell ..).trans (World.frozen?_setCell ..)).trans h.2.2.2.2⟩
/-! ### plus, times -/
set_option maxHeartbeats 1000000 in
theorem rplus_go (w : World) (q r z : Rat) (hz : q + r = z) (hq : (q.den : Int) ≤ 260000000 ∧ -7500000000 ≤ q.num ∧ q.num ≤ 7500000000) (hr : (r.den : Int) ≤ 260000000 ∧ -7500000000 ≤ r.num ∧ r.num ≤ 7500000000) :
    Calls Try.prog 72 #[fv (toFr q), fv (toFr r)] w fun e w' => e = .returned (fv (toFr z)) ∧ Below w.heap.size w w' := by
  have h1 := frd_pos q
  have h2 := frd_pos r
  have m1 := mul_le3 (A := 7500000000) (B := 260000000) hq.2.1 hq.2.2 (show -260000000 ≤ (r.den : Int) by omega) hr.1 (by omega)
  have m2 := mul_le3 (A := 7500000000) (B := 260000000) hr.2.1 hr.2.2 (show -260000000 ≤ (q.den : Int) by omega) hq.1 (by omega)
  have m3 := mul_le3 (A := 260000000) (B := 260000000) (show -260000000 ≤ (q.den : Int) by omega) hq.1 (show -260000000 ≤ (r.den : Int) by omega) hr.1 (by omega)
  have m4 : 0 < (q.den : Int) * (r.den : Int) := Int.mul_pos (by omega) (by omega)
  have HF := Lib.hid (rat_plus q r)
  rw [hz] at HF
  show Calls Try.prog _ #[.agg #[.int .i64 q.num, .int .i64 (q.den : Int)], .agg #[.int .i64 r.num, .int .i64 (r.den : Int)]] w _
  generalize q.num = qn at *
  generalize (q.den : Int) = qd at *
  generalize r.num = rn at *
  generalize (r.den : Int) = rd at *
  clear hq hr hz
  obtain ⟨x1, x2, x3⟩ := box3 w (.cells #[.int .i64 qn, .int .i64 qd] 53) (.cells #[.int .i64 rn, .int .i64 rd] 53) (.cells #[.int .i64 0, .int .i64 0] 53)
  have HX1 := Lib.hid x1
  have HX2 := Lib.hid x2
  have HX3 := Lib.hid x3
  have HB0 := Lib.hid (bal (bal (bal (Below.refl w.heap.size w) (.cells #[.int .i64 qn, .int .i64 qd] 53)) (.cells #[.int .i64 rn, .int .i64 rd] 53)) (.cells #[.int .i64 0, .int .i64 0] 53))
  clear x1 x2 x3
  generalize hA : qn * rd = pA at *
  generalize hB : rn * qd = pB at *
  generalize hC : qd * rd = pC at *
  go_enter Try.func72, Try.ntmps72
  go_wp2_with fail
  refine (rfrac_go _ (pA + pB) pC (by omega) m4 (by omega)).mono ?_
  rintro e w2 ⟨rfl, hb⟩
  have HB1 := Lib.hid hb
  rw [HF.out]
  obtain ⟨x31, x32, x33, x34, x35⟩ := (FrAt.new (persist HX3.out hb))
  obtain ⟨zn, hzn⟩ : ∃ zn, z.num = zn := ⟨_, rfl⟩
  obtain ⟨zd, hzd⟩ : ∃ zd, (z.den : Int) = zd := ⟨_, rfl⟩
  have HZ := Lib.hid (show fv (toFr z) = .agg #[.int .i64 zn, .int .i64 zd] by rw [← hzn, ← hzd]; rfl)
  rw [HZ.out]
  clear hb hzn hzd
  go_wp2
  exact bodyPost_ret (v := .agg #[.int .i64 zn, .int .i64 zd]) (by simp [results, Try.results72, go_sem, *]) rfl ⟨by rw [HZ.out], ((btr HB0.out HB1.out).setCell (show w.heap.size ≤ w.heap.size + 1 + 1 by omega) _).setCell (show w.heap.size ≤ w.heap.size + 1 + 1 by omega) _⟩
set_option maxHeartbeats 1000000 in
theorem rtimes_go (w : World) (q r z : Rat) (hz : q * r = z) (hq : (q.den : Int) ≤ 260000000 ∧ -2500000000 ≤ q.num ∧ q.num ≤ 2500000000) (hr : (r.den : Int) ≤ 260000000 ∧ -200000000 ≤ r.num ∧ r.num ≤ 200000000) :
    Calls Try.prog 71 #[fv (toFr q), fv (toFr r)] w fun e w' => e = .returned (fv (toFr z)) ∧ Below w.heap.size w w' := by
  have h1 := frd_pos q
  have h2 := frd_pos r
  have m1 := mul_le3 (A := 2500000000) (B := 200000000) hq.2.1 hq.2.2 hr.2.1 hr.2.2 (by omega)
  have m3 := mul_le3 (A := 260000000) (B := 260000000) (show -260000000 ≤ (q.den : Int) by omega) hq.1 (show -260000000 ≤ (r.den : Int) by omega) hr.1 (by omega)
  have m4 : 0 < (q.den : Int) * (r.den : Int) := Int.mul_pos (by omega) (by omega)
  have HF := Lib.hid (rat_times q r)
  rw [hz] at HF
  show Calls Try.prog _ #[.agg #[.int .i64 q.num, .int .i64 (q.den : Int)], .agg #[.int .i64 r.num, .int .i64 (r.den : Int)]] w _
  generalize q.num = qn at *
  generalize (q.den : Int) = qd at *
  generalize r.num = rn at *
  generalize (r.den : Int) = rd at *
  clear hq hr hz
  obtain ⟨x1, x2, x3⟩ := box3 w (.cells #[.int .i64 qn, .int .i64 qd] 53) (.cells #[.int .i64 rn, .int .i64 rd] 53) (.cells #[.int .i64 0, .int .i64 0] 53)
  have HX3 := Lib.hid x3
  have HB0 := Lib.hid (bal (bal (bal (Below.refl w.heap.size w) (.cells #[.int .i64 qn, .int .i64 qd] 53)) (.cells #[.int .i64 rn, .int .i64 rd] 53)) (.cells #[.int .i64 0, .int .i64 0] 53))
  clear x1 x2 x3
  generalize hA : qn * rn = pA at *
  generalize hC : qd * rd = pC at *
  go_enter Try.func71, Try.ntmps71
  go_wp2_with fail
  refine (rfrac_go _ pA pC (by omega) m4 (by omega)).mono ?_
  rintro e w2 ⟨rfl, hb⟩
  have HB1 := Lib.hid hb
  rw [HF.out]
  obtain ⟨x31, x32, x33, x34, x35⟩ := (FrAt.new (persist HX3.out hb))
  obtain ⟨zn, hzn⟩ : ∃ zn, z.num = zn := ⟨_, rfl⟩
  obtain ⟨zd, hzd⟩ : ∃ zd, (z.den : Int) = zd := ⟨_, rfl⟩
  have HZ := Lib.hid (show fv (toFr z) = .agg #[.int .i64 zn, .int .i64 zd] by rw [← hzn, ← hzd]; rfl)
  rw [HZ.out]
  clear hb hzn hzd
  go_wp2
  exact bodyPost_ret (v := .agg #[.int .i64 zn, .int .i64 zd]) (by simp [results, Try.results71, go_sem, *]) rfl ⟨by rw [HZ.out], ((btr HB0.out HB1.out).setCell (show w.heap.size ≤ w.heap.size + 1 + 1 by omega) _).setCell (show w.heap.size ≤ w.heap.size + 1 + 1 by omega) _⟩
/-! ### act, plain -/
def sumQ (o : List Int) (v : Nat → Rat) : Nat → Rat
  | 0 => 0
  | k + 1 => sumQ o v k + ((nth o k : Int) : Rat) * v k
def actQ (a b : Int) (x : Ac) (v : Nat → Rat) : Rat := (x.g : Rat) + sumQ x.o v x.o.length * ((a : Rat) / ((b * isum x.o : Int) : Rat))
/-- A fraction over D, at most Z over D. -/
def Ov (q : Rat) (D Z : Int) : Prop := ∃ z : Int, q = (z : Rat) / (D : Rat) ∧ -Z ≤ z ∧ z ≤ Z
theorem ratD_ne {D : Int} (h : 0 < D) : (D : Rat) ≠ 0 := by
  intro h2
  have : D = 0 := by exact_mod_cast h2
  omega
theorem ov_bd {q : Rat} {D Z : Int} (h : Ov q D Z) (hD : 0 < D) : (q.den : Int) ≤ D ∧ -Z ≤ q.num ∧ q.num ≤ Z := by
  obtain ⟨z, rfl, h1, h2⟩ := h
  have := frq_small (a := z) hD
  omega
theorem Ov.zero {D : Int} (hD : 0 < D) : Ov 0 D 0 := ⟨0, by have := ratD_ne hD; simp [Rat.div_def], by omega, by omega⟩
theorem Ov.wide {q : Rat} {D Z Y : Int} (h : Ov q D Z) (hZ : Z ≤ Y) : Ov q D Y := by
  obtain ⟨z, h0, h1, h2⟩ := h
  exact ⟨z, h0, by omega, by omega⟩
theorem Ov.add {q r : Rat} {D Z Y : Int} (h : Ov q D Z) (h2 : Ov r D Y) (hD : 0 < D) : Ov (q + r) D (Z + Y) := by
  obtain ⟨z, rfl, h1, h3⟩ := h
  obtain ⟨y, rfl, h4, h5⟩ := h2
  have h0 := ratD_ne hD
  refine ⟨z + y, ?_, by omega, by omega⟩
  rw [Rat.intCast_add]
  generalize (z : Rat) = s at *
  generalize (y : Rat) = t at *
  generalize (D : Rat) = e at *
  grind
theorem Ov.smul {q : Rat} {D Z : Int} {x : Int} (h : Ov q D Z) (hD : 0 < D) (hx : 0 ≤ x ∧ x ≤ 3) (_hZ : 0 ≤ Z) : Ov ((x : Rat) * q) D (3 * Z) := by
  obtain ⟨z, rfl, h1, h3⟩ := h
  have h0 := ratD_ne hD
  have hm := mul_le3 (A := 3) (B := Z) (show -3 ≤ x by omega) hx.2 h1 h3 (by omega)
  refine ⟨x * z, ?_, by omega, by omega⟩
  rw [Rat.intCast_mul]
  generalize (z : Rat) = s at *
  generalize (x : Rat) = t at *
  generalize (D : Rat) = e at *
  grind
theorem Ov.frac {q : Rat} {D Z a c : Int} (h : Ov q D Z) (hD : 0 < D) (ha : 1 ≤ a ∧ a ≤ 3) (hc : 0 < c) (_hZ : 0 ≤ Z) : Ov (q * ((a : Rat) / (c : Rat))) (D * c) (3 * Z) := by
  obtain ⟨z, rfl, h1, h3⟩ := h
  have h0 := ratD_ne hD
  have h2 := ratD_ne hc
  have hm := mul_le3 (A := 3) (B := Z) (show -3 ≤ a by omega) ha.2 h1 h3 (by omega)
  refine ⟨a * z, ?_, by omega, by omega⟩
  rw [Rat.intCast_mul, Rat.intCast_mul]
  generalize (z : Rat) = s at *
  generalize (a : Rat) = t at *
  generalize (D : Rat) = e at *
  generalize (c : Rat) = f at *
  grind
theorem Ov.int {x D : Int} (hD : 0 < D) (hx : -9 ≤ x ∧ x ≤ 9) : Ov (x : Rat) D (9 * D) := by
  have h0 := ratD_ne hD
  have hm := mul_le3 (A := 9) (B := D) hx.1 hx.2 (show -D ≤ D by omega) (Int.le_refl _) (by omega)
  refine ⟨x * D, ?_, by omega, by omega⟩
  rw [Rat.intCast_mul]
  generalize (x : Rat) = t at *
  generalize (D : Rat) = e at *
  grind
theorem ov_sum {o : List Int} {v : Nat → Rat} {D Z : Int} (hD : 0 < D) (hZ : 0 ≤ Z) (ho : ∀ x ∈ o, 0 ≤ x ∧ x ≤ 3) : ∀ k, k ≤ o.length → (∀ i, i < k → Ov (v i) D Z) → Ov (sumQ o v k) D (3 * k * Z) := by
  intro k; induction k with
  | zero => intro _ _; have := Ov.zero hD; simpa [sumQ] using this
  | succ k ih =>
    intro hk hv
    have h1 := ih (by omega) fun i hi => hv i (by omega)
    have h2 := (hv k (by omega)).smul hD (ho _ (nth_mem (l := o) (k := k) (by omega))) hZ
    have h3 := h1.add h2 hD
    have e : 3 * (k : Int) * Z + 3 * Z = 3 * ((k + 1 : Nat) : Int) * Z := by rw [Int.natCast_succ]; grind
    rw [e] at h3
    exact h3
theorem ov_act {a b : Int} {x : Ac} {v : Nat → Rat} {D Z : Int} (hD : 0 < D) (hZ : 0 ≤ Z) (ha : 1 ≤ a ∧ a ≤ 3) (hc : 0 < b * isum x.o) (hg : -9 ≤ x.g ∧ x.g ≤ 9) (ho : ∀ y ∈ x.o, 0 ≤ y ∧ y ≤ 3) (hv : ∀ i, i < x.o.length → Ov (v i) D Z) :
    Ov (actQ a b x v) (D * (b * isum x.o)) (9 * (D * (b * isum x.o)) + 3 * (3 * x.o.length * Z)) := by
  have h1 := (ov_sum hD hZ ho x.o.length (Nat.le_refl _) hv).frac hD ha hc (Int.mul_nonneg (by omega) hZ)
  have h2 := Ov.int (x := x.g) (Int.mul_pos hD hc) hg
  exact h2.add h1 (Int.mul_pos hD hc)
/-! ### act, the walk -/
def ActR (w : World) (p : Nat) (g : Int) (z : Option Addr) (k q : Nat) : Prop := w.heap[p]? = some (.cells #[.int .i64 g, .slice z k q] 42 (0, 0))
theorem ActR.mono {w w' : World} {p : Nat} {g : Int} {z : Option Addr} {k q : Nat} (h : ActR w p g z k q) (hb : Below w.heap.size w w') : ActR w' p g z k q := persist h hb
theorem ActR.cells {w : World} {p : Nat} {g : Int} {z : Option Addr} {k q : Nat} (h : ActR w p g z k q) : p < w.heap.size ∧ w.cell? ⟨p, 0, none⟩ = some (.int .i64 g) ∧ w.cell? ⟨p, 1, none⟩ = some (.slice z k q) :=
  ⟨lt_of_block h, by rw [cells_at h]; rfl, by rw [cells_at h]; rfl⟩
theorem ActR.far {w : World} {p : Nat} {g : Int} {z : Option Addr} {k q : Nat} (h : ActR w p g z k q) {a : Addr} (hne : p ≠ a.block) (v : Value) : ActR (w.setCell a v) p g z k q := (Below.heap_setCell w a v p hne).trans h
theorem BoxR.far {w : World} {p : Nat} {a b : Int} {x : Option Addr} {n c : Nat} (h : BoxR w p a b x n c) {d : Addr} (hne : p ≠ d.block) (v : Value) : BoxR (w.setCell d v) p a b x n c := (Below.heap_setCell w d v p hne).trans h
theorem new_at4 (w : World) (o p q r : Obj) : ((((w.alloc o).alloc p).alloc q).alloc r).heap[w.heap.size + 1 + 1 + 1]? = some r := by
  have := new_at (((w.alloc o).alloc p).alloc q) r
  simpa using this
theorem rtimes_int (w : World) (x : Int) (r z : Rat) (hz : (x : Rat) * r = z) (hx : -9 ≤ x ∧ x ≤ 9) (hr : (r.den : Int) ≤ 260000000 ∧ -200000000 ≤ r.num ∧ r.num ≤ 200000000) :
    Calls Try.prog 71 #[.agg #[.int .i64 x, .int .i64 1], .agg #[.int .i64 (toFr r).n, .int .i64 (toFr r).d]] w fun e w' => e = .returned (.agg #[.int .i64 (toFr z).n, .int .i64 (toFr z).d]) ∧ Below w.heap.size w w' := by
  have h := rtimes_go w (x : Rat) r z hz (by rw [Rat.den_intCast, Rat.num_intCast]; omega) hr
  rw [toFr_int] at h
  exact h
theorem rplus_int (w : World) (x : Int) (r z : Rat) (hz : (x : Rat) + r = z) (hx : -9 ≤ x ∧ x ≤ 9) (hr : (r.den : Int) ≤ 260000000 ∧ -7500000000 ≤ r.num ∧ r.num ≤ 7500000000) :
    Calls Try.prog 72 #[.agg #[.int .i64 x, .int .i64 1], .agg #[.int .i64 (toFr r).n, .int .i64 (toFr r).d]] w fun e w' => e = .returned (.agg #[.int .i64 (toFr z).n, .int .i64 (toFr z).d]) ∧ Below w.heap.size w w' := by
  have h := rplus_go w (x : Rat) r z hz (by rw [Rat.den_intCast, Rat.num_intCast]; omega) hr
  rw [toFr_int] at h
  exact h
theorem rplus_raw (w : World) (q r z : Rat) (hz : q + r = z) (hq : (q.den : Int) ≤ 260000000 ∧ -7500000000 ≤ q.num ∧ q.num ≤ 7500000000) (hr : (r.den : Int) ≤ 260000000 ∧ -7500000000 ≤ r.num ∧ r.num ≤ 7500000000) :
    Calls Try.prog 72 #[.agg #[.int .i64 (toFr q).n, .int .i64 (toFr q).d], .agg #[.int .i64 (toFr r).n, .int .i64 (toFr r).d]] w fun e w' => e = .returned (.agg #[.int .i64 (toFr z).n, .int .i64 (toFr z).d]) ∧ Below w.heap.size w w' := rplus_go w q r z hz hq hr
theorem rtimes_raw (w : World) (q r z : Rat) (hz : q * r = z) (hq : (q.den : Int) ≤ 260000000 ∧ -2500000000 ≤ q.num ∧ q.num ≤ 2500000000) (hr : (r.den : Int) ≤ 260000000 ∧ -200000000 ≤ r.num ∧ r.num ≤ 200000000) :
    Calls Try.prog 71 #[.agg #[.int .i64 (toFr q).n, .int .i64 (toFr q).d], .agg #[.int .i64 (toFr r).n, .int .i64 (toFr r).d]] w fun e w' => e = .returned (.agg #[.int .i64 (toFr z).n, .int .i64 (toFr z).d]) ∧ Below w.heap.size w w' := rtimes_go w q r z hz hq hr
theorem sum_bd {j : Nat} {k : Nat} {Z : Int} (hj : j ≤ k) (hk : k ≤ 4) (hZ : 0 ≤ Z ∧ Z ≤ 200000000) : 0 ≤ 3 * (j : Int) * Z ∧ 3 * (j : Int) * Z ≤ 2400000000 := by
  have h := Int.mul_le_mul (show 3 * (j : Int) ≤ 12 by omega) hZ.2 hZ.1 (by omega)
  exact ⟨Int.mul_nonneg (by omega) hZ.1, by omega⟩
set_option maxRecDepth 100000 in
set_option maxHeartbeats 4000000 in
theorem ract_go (w : World) (x : Option Addr) (n c : Nat) (a b g : Int) (z : Option Addr) (k q : Nat) (o : List Int) (l : Option Addr) (m d : Nat) (F : List Fr) (v : Nat → Rat) (D Z : Int) (r : Rat)
    (ha : 1 ≤ a ∧ a ≤ 3) (hb : 1 ≤ b ∧ b ≤ 4) (hg : -9 ≤ g ∧ g ≤ 9) (ho : Sl w z k q o) (hk : k ≤ 4) (hkm : k ≤ m) (hor : ∀ y ∈ o, 0 ≤ y ∧ y ≤ 3) (hS : 1 ≤ isum o ∧ isum o ≤ 12) (hF : FrSl w l m d F) (hv : ∀ i, i < k → fr F i = toFr (v i)) (hD : 0 < D ∧ D ≤ 5308416) (hZ : 0 ≤ Z ∧ Z ≤ 200000000) (hO : ∀ i, i < k → Ov (v i) D Z) (hr : actQ a b ⟨g, o⟩ v = r) :
    Calls Try.prog 58 #[wv a b x n c, .agg #[.int .i64 g, .slice z k q], .slice l m d] w fun e w' => e = .returned (fv (toFr r)) ∧ Below w.heap.size w w' := by
  have hb0 := bal (bal (bal (bal (Below.refl w.heap.size w) (.cells #[.int .i64 a, .int .i64 b, .slice x n c] 25)) (.cells #[.int .i64 g, .slice z k q] 42)) (.cells #[.int .i64 0, .int .i64 0] 53)) (.cells #[.int .i64 0, .int .i64 1] 53)
  have HW0 := Lib.hid (persist (boxR_new w a b x n c) (bal (bal (bal (Below.refl _ _) (.cells #[.int .i64 g, .slice z k q] 42)) (.cells #[.int .i64 0, .int .i64 0] 53)) (.cells #[.int .i64 0, .int .i64 1] 53)))
  obtain ⟨_, hx2, hx3⟩ := box3 w (.cells #[.int .i64 a, .int .i64 b, .slice x n c] 25) (.cells #[.int .i64 g, .slice z k q] 42) (.cells #[.int .i64 0, .int .i64 0] 53)
  have HAC0 := Lib.hid (persist hx2 (bal (Below.refl _ _) (.cells #[.int .i64 0, .int .i64 1] 53)))
  have HRE0 := Lib.hid (FrAt.new (persist hx3 (bal (Below.refl _ _) (.cells #[.int .i64 0, .int .i64 1] 53))))
  have HSM0 := Lib.hid (FrAt.new (new_at4 w (.cells #[.int .i64 a, .int .i64 b, .slice x n c] 25) (.cells #[.int .i64 g, .slice z k q] 42) (.cells #[.int .i64 0, .int .i64 0] 53) (.cells #[.int .i64 0, .int .i64 1] 53)))
  have HB0 := Lib.hid hb0
  have HOL := Lib.hid ho.len
  have hq := ho.cap
  have hmd := hF.2.cap
  unfold maxLen at hq hmd
  have HOR := Lib.hid hor
  have HFV := Lib.hid hv
  have HOV := Lib.hid hO
  have HRR := Lib.hid hr
  have HSUM := Lib.hid (fun j (hj : j ≤ k) => ov_sum (o := o) (v := v) hD.1 hZ.1 hor j (by rw [ho.len]; exact hj) fun i hi => hO i (by omega))
  have HO := Lib.hid ho
  have HF := Lib.hid hF
  clear hor hv hO hr ho hF hb0 hx2 hx3
  go_enter Try.func58, Try.ntmps58
  go_wp2
  generalize ((((w.alloc (.cells #[.int .i64 a, .int .i64 b, .slice x n c] 25)).alloc (.cells #[.int .i64 g, .slice z k q] 42)).alloc (.cells #[.int .i64 0, .int .i64 0] 53)).alloc (.cells #[.int .i64 0, .int .i64 1] 53)) = V at *
  go_loopw [14] (fun t wr => ∃ j : Nat, j ≤ k ∧ t = .int .i64 j ∧ Hid (BoxR wr w.heap.size a b x n c) ∧ Hid (ActR wr (w.heap.size + 1) g z k q) ∧ Hid (FrAt wr (w.heap.size + 1 + 1) ⟨0, 0⟩) ∧ Hid (FrAt wr (w.heap.size + 1 + 1 + 1) (toFr (sumQ o v j))) ∧ Hid (Below w.heap.size w wr)) (fun t _ => k - (intOf t).toNat)
  case atStart => exact ⟨0, by omega, rfl, HW0, HAC0, HRE0, HSM0, HB0⟩
  case round =>
    clear HW0 HAC0 HRE0 HSM0 HB0
    obtain ⟨j, hj, rfl, HW, HAC, HRE, HSM, HB⟩ := hrel
    by_cases hlj : j < k
    · obtain ⟨b1, o1, rfl, hb1, hc1⟩ := (HO.out.mono HB.out).at (by omega)
      have e1 := hc1 j hlj
      obtain ⟨b2, o2, rfl, hb2, hc2⟩ := (HF.out.mono HB.out).at (by omega)
      obtain ⟨p1, p2⟩ := hc2 j (by omega)
      rw [HFV.out j hlj] at p1 p2
      have hy := HOR.out _ (nth_mem (l := o) (k := j) (by rw [HOL.out]; exact hlj))
      have hbv := ov_bd (HOV.out j hlj) hD.1
      have hbs := ov_bd (HSUM.out j hj) hD.1
      have hbt := ov_bd ((HOV.out j hlj).smul hD.1 hy hZ.1) hD.1
      have hsb := sum_bd hj hk hZ
      have HE := Lib.hid (show sumQ o v j + ((nth o j : Int) : Rat) * v j = sumQ o v (j + 1) from rfl)
      have HBS := Lib.hid (show (((sumQ o v j).den : Int) ≤ 260000000 ∧ -7500000000 ≤ (sumQ o v j).num ∧ (sumQ o v j).num ≤ 7500000000) by omega)
      have HBV := Lib.hid (show (((v j).den : Int) ≤ 260000000 ∧ -200000000 ≤ (v j).num ∧ (v j).num ≤ 200000000) by omega)
      have HBT := Lib.hid (show (((((nth o j : Int) : Rat) * v j).den : Int) ≤ 260000000 ∧ -7500000000 ≤ (((nth o j : Int) : Rat) * v j).num ∧ (((nth o j : Int) : Rat) * v j).num ≤ 7500000000) by omega)
      have HY := Lib.hid (show -9 ≤ nth o j ∧ nth o j ≤ 9 by omega)
      have hjm : j < m := by omega
      have hjd : j < d := by omega
      have hjq : j < q := by omega
      obtain ⟨s1, s2, s3, s4, s5⟩ := HSM.out
      have s1' : w.heap.size + 1 + 1 + 1 < wr.drew.heap.size := s1
      have s2' : wr.drew.cell? ⟨w.heap.size + 1 + 1 + 1, 0, none⟩ = some (.int .i64 (toFr (sumQ o v j)).n) := s2
      have s3' : wr.drew.cell? ⟨w.heap.size + 1 + 1 + 1, 1, none⟩ = some (.int .i64 (toFr (sumQ o v j)).d) := s3
      have p1' : wr.drew.cell? ⟨b2, o2 + j * 2, none⟩ = some (.int .i64 (toFr (v j)).n) := p1
      have p2' : wr.drew.cell? ⟨b2, o2 + j * 2 + 1, none⟩ = some (.int .i64 (toFr (v j)).d) := p2
      have HC := Lib.hid (show Below wr.heap.size wr wr.drew from (Below.refl _ _).drew)
      have hwz := HB.out.size
      clear hc1 hc2 hbv hbs hbt hy
      go_wp2
      go_region_law (first
        | (go_simp; go_at_call 71; refine (rtimes_int _ (nth o j) (v j) _ rfl HY.out HBV.out).mono ?_; rintro e w1' ⟨rfl, hb1'⟩; have HC1 := Lib.hid (btr HC.out hb1'); obtain ⟨t1, t2, t3, t4, t5⟩ := HSM.out.mono HC1.out; clear hb1')
        | (go_simp; go_at_call 72; refine (rplus_raw _ (sumQ o v j) (((nth o j : Int) : Rat) * v j) _ HE.out HBS.out HBT.out).mono ?_; rintro e w2' ⟨rfl, hb2'⟩; have HC2 := Lib.hid (btr HC1.out hb2'); obtain ⟨u1, u2, u3, u4, u5⟩ := HSM.out.mono HC2.out; clear hb2'))
      all_goals have HSM2 := Lib.hid ((HSM.out.mono HC2.out).store (toFr (sumQ o v (j + 1))))
      all_goals have HRE2 := Lib.hid (((HRE.out.mono HC2.out).far (a := ⟨w.heap.size + 1 + 1 + 1, 0, none⟩) (by show w.heap.size + 1 + 1 ≠ w.heap.size + 1 + 1 + 1; omega) (.int .i64 (toFr (sumQ o v (j + 1))).n)).far (a := ⟨w.heap.size + 1 + 1 + 1, 1, none⟩) (by show w.heap.size + 1 + 1 ≠ w.heap.size + 1 + 1 + 1; omega) (.int .i64 (toFr (sumQ o v (j + 1))).d))
      all_goals have HAC2 := Lib.hid (((HAC.out.mono HC2.out).far (a := ⟨w.heap.size + 1 + 1 + 1, 0, none⟩) (by show w.heap.size + 1 ≠ w.heap.size + 1 + 1 + 1; omega) (.int .i64 (toFr (sumQ o v (j + 1))).n)).far (a := ⟨w.heap.size + 1 + 1 + 1, 1, none⟩) (by show w.heap.size + 1 ≠ w.heap.size + 1 + 1 + 1; omega) (.int .i64 (toFr (sumQ o v (j + 1))).d))
      all_goals have HW2 := Lib.hid (((HW.out.mono HC2.out).far (d := ⟨w.heap.size + 1 + 1 + 1, 0, none⟩) (by show w.heap.size ≠ w.heap.size + 1 + 1 + 1; omega) (.int .i64 (toFr (sumQ o v (j + 1))).n)).far (d := ⟨w.heap.size + 1 + 1 + 1, 1, none⟩) (by show w.heap.size ≠ w.heap.size + 1 + 1 + 1; omega) (.int .i64 (toFr (sumQ o v (j + 1))).d))
      all_goals have HB2 := Lib.hid (((btr HB.out HC2.out).setCell (p := ⟨w.heap.size + 1 + 1 + 1, 0, none⟩) (show w.heap.size ≤ w.heap.size + 1 + 1 + 1 by omega) (.int .i64 (toFr (sumQ o v (j + 1))).n)).setCell (p := ⟨w.heap.size + 1 + 1 + 1, 1, none⟩) (show w.heap.size ≤ w.heap.size + 1 + 1 + 1 by omega) (.int .i64 (toFr (sumQ o v (j + 1))).d))
      all_goals go_wp2
      all_goals go_roundw
      all_goals first
        | (case rel => go_light; exact ⟨j + 1, by omega, by go_num, HW2, HAC2, HRE2, HSM2, HB2⟩)
        | skip
      all_goals (simp [intOf]; omega)
    · obtain rfl : j = k := by omega
      have HOLj := Lib.hid (show j = o.length from HOL.out.symm)
      have hcp : 0 < b * isum o := Int.mul_pos (by omega) (by omega)
      have hcb := mul_le3 (A := 4) (B := 12) (show -4 ≤ b by omega) hb.2 (show -12 ≤ isum o by omega) hS.2 (by omega)
      have hfs := frq_small (a := a) hcp
      have hsb := sum_bd hj hk hZ
      have hbs := ov_bd (HSUM.out j (Nat.le_refl _)) hD.1
      have hbt := ov_bd ((HSUM.out j (Nat.le_refl _)).frac hD.1 ha hcp hsb.1) (Int.mul_pos hD.1 hcp)
      obtain ⟨tt, htt⟩ : ∃ tt : Rat, (a : Rat) / ((b * isum o : Int) : Rat) = tt := ⟨_, rfl⟩
      rw [htt] at hfs hbt
      have hdc : D * (b * isum o) ≤ 5308416 * 48 := Int.mul_le_mul hD.2 (by omega) (by omega) (by omega)
      have HBS := Lib.hid (show (((sumQ o v j).den : Int) ≤ 260000000 ∧ -2500000000 ≤ (sumQ o v j).num ∧ (sumQ o v j).num ≤ 2500000000) by omega)
      have HBF := Lib.hid (show (((tt.den : Int) ≤ 260000000 ∧ -200000000 ≤ tt.num ∧ tt.num ≤ 200000000)) by omega)
      have HBT := Lib.hid (show ((((sumQ o v j * tt).den : Int) ≤ 260000000 ∧ -7500000000 ≤ (sumQ o v j * tt).num ∧ (sumQ o v j * tt).num ≤ 7500000000)) by omega)
      have HE := Lib.hid (show ((g : Int) : Rat) + sumQ o v j * tt = r by rw [← htt, ← HRR.out, HOLj.out]; rfl)
      have HFC := Lib.hid (fun w' => (show Calls Try.prog 80 #[.int .i64 a, .int .i64 (b * isum o)] w' fun e w'' => e = .returned (.agg #[.int .i64 (toFr tt).n, .int .i64 (toFr tt).d]) ∧ Below w'.heap.size w' w'' from by have h9 := rfrac_go w' a (b * isum o) (by omega) hcp (by omega); rw [htt] at h9; exact h9))
      have k1 : IntKind.i64.wrap (b * isum o) = b * isum o := wrap_i64j _ (by omega) (by omega)
      have k1' : wrap64 (b * isum o) = b * isum o := (IntWalk.i64_left _).symm.trans k1
      have HSX := Lib.hid (fun (w' : World) (hb : Below wr.heap.size wr w') =>
        (show w'.cell? ⟨w.heap.size, 0, none⟩ = some (.int .i64 a) ∧ w'.cell? ⟨w.heap.size, 1, none⟩ = some (.int .i64 b) ∧ w'.cell? ⟨w.heap.size + 1, 0, none⟩ = some (.int .i64 g) ∧ w'.cell? ⟨w.heap.size + 1, 1, none⟩ = some (.slice z j q) ∧ w'.cell? ⟨w.heap.size + 1 + 1 + 1, 0, none⟩ = some (.int .i64 (toFr (sumQ o v j)).n) ∧ w'.cell? ⟨w.heap.size + 1 + 1 + 1, 1, none⟩ = some (.int .i64 (toFr (sumQ o v j)).d) from
          ⟨(HW.out.mono hb).cells.2.1, (HW.out.mono hb).cells.2.2.1, (HAC.out.mono hb).cells.2.1, (HAC.out.mono hb).cells.2.2, (HSM.out.mono hb).2.1, (HSM.out.mono hb).2.2.1⟩))
      have HSY := Lib.hid (fun (w' : World) (hb : Below wr.heap.size wr w') (v1 v2 : Value) =>
        (show ((w'.setCell ⟨w.heap.size + 1 + 1, 0, none⟩ v1).setCell ⟨w.heap.size + 1 + 1, 1, none⟩ v2).cell? ⟨w.heap.size, 0, none⟩ = some (.int .i64 a) ∧ ((w'.setCell ⟨w.heap.size + 1 + 1, 0, none⟩ v1).setCell ⟨w.heap.size + 1 + 1, 1, none⟩ v2).cell? ⟨w.heap.size, 1, none⟩ = some (.int .i64 b) ∧ ((w'.setCell ⟨w.heap.size + 1 + 1, 0, none⟩ v1).setCell ⟨w.heap.size + 1 + 1, 1, none⟩ v2).cell? ⟨w.heap.size + 1, 0, none⟩ = some (.int .i64 g) ∧ ((w'.setCell ⟨w.heap.size + 1 + 1, 0, none⟩ v1).setCell ⟨w.heap.size + 1 + 1, 1, none⟩ v2).cell? ⟨w.heap.size + 1, 1, none⟩ = some (.slice z j q) ∧ ((w'.setCell ⟨w.heap.size + 1 + 1, 0, none⟩ v1).setCell ⟨w.heap.size + 1 + 1, 1, none⟩ v2).cell? ⟨w.heap.size + 1 + 1 + 1, 0, none⟩ = some (.int .i64 (toFr (sumQ o v j)).n) ∧ ((w'.setCell ⟨w.heap.size + 1 + 1, 0, none⟩ v1).setCell ⟨w.heap.size + 1 + 1, 1, none⟩ v2).cell? ⟨w.heap.size + 1 + 1 + 1, 1, none⟩ = some (.int .i64 (toFr (sumQ o v j)).d) from
          have n0 : ∀ i : Nat, w.heap.size ≠ (⟨w.heap.size + 1 + 1, i, none⟩ : Addr).block := fun i => by show w.heap.size ≠ w.heap.size + 1 + 1; omega
          have n1 : ∀ i : Nat, w.heap.size + 1 ≠ (⟨w.heap.size + 1 + 1, i, none⟩ : Addr).block := fun i => by show w.heap.size + 1 ≠ w.heap.size + 1 + 1; omega
          have n3 : ∀ i : Nat, w.heap.size + 1 + 1 + 1 ≠ (⟨w.heap.size + 1 + 1, i, none⟩ : Addr).block := fun i => by show w.heap.size + 1 + 1 + 1 ≠ w.heap.size + 1 + 1; omega
          have q1 := (((HW.out.mono hb).far (n0 0) v1).far (n0 1) v2).cells
          have q2 := (((HAC.out.mono hb).far (n1 0) v1).far (n1 1) v2).cells
          have q3 := (((HSM.out.mono hb).far (n3 0) v1).far (n3 1) v2)
          ⟨q1.2.1, q1.2.2.1, q2.2.1, q2.2.2, q3.2.1, q3.2.2.1⟩))
      have hC : Below wr.heap.size wr wr.drew := (Below.refl _ _).drew
      obtain ⟨r1, r2, r3, r4, r5, r6⟩ := HSX.out _ hC
      have hz1 := HW.out.cells.1
      have hz2 := HAC.out.cells.1
      have hz3 := HSM.out.1
      clear htt hfs hbs hbt hdc hsb
      go_wp2
      go_region_held3 (fun w' => w'.cell? ⟨w.heap.size, 0, none⟩ = some (.int .i64 a) ∧ w'.cell? ⟨w.heap.size, 1, none⟩ = some (.int .i64 b) ∧ w'.cell? ⟨w.heap.size + 1, 0, none⟩ = some (.int .i64 g) ∧ w'.cell? ⟨w.heap.size + 1, 1, none⟩ = some (.slice z j q) ∧ w'.cell? ⟨w.heap.size + 1 + 1 + 1, 0, none⟩ = some (.int .i64 (toFr (sumQ o v j)).n) ∧ w'.cell? ⟨w.heap.size + 1 + 1 + 1, 1, none⟩ = some (.int .i64 (toFr (sumQ o v j)).d))
        (first | exact HSX.out _ hC | exact HSY.out _ hC _ _ | go_keep)
        (first
          | ((with_reducible refine (rsum_go _ z j q o (HO.out.mono (btr HB.out hC)) (by omega) HOR.out).mono ?_); rintro e w' ⟨rfl, hb⟩; subst hb)
          | ((with_reducible refine (HFC.out _).mono ?_); rintro e w' ⟨rfl, hb⟩; replace hC := btr hC hb; clear hb)
          | ((with_reducible refine (rtimes_raw _ (sumQ o v j) tt (sumQ o v j * tt) rfl HBS.out HBF.out).mono ?_); rintro e w' ⟨rfl, hb⟩; replace hC := btr hC hb; clear hb)
          | ((with_reducible refine (rplus_int _ g _ r HE.out hg HBT.out).mono ?_); rintro e w' ⟨rfl, hb⟩; replace hC := btr hC hb; clear hb; obtain ⟨u1, u2, u3, u4, u5⟩ := HRE.out.mono hC))
      obtain ⟨v1, v2, v3, v4, v5⟩ := (HRE.out.mono hC).store (toFr r)
      go_wp2
      exact bodyPost_ret (v := .agg #[.int .i64 (toFr r).n, .int .i64 (toFr r).d]) (by simp [results, Try.results58, go_sem, *]) rfl ⟨rfl, ((btr HB.out hC).setCell (p := ⟨w.heap.size + 1 + 1, 0, none⟩) (show w.heap.size ≤ w.heap.size + 1 + 1 by omega) _).setCell (p := ⟨w.heap.size + 1 + 1, 1, none⟩) (show w.heap.size ≤ w.heap.size + 1 + 1 by omega) _⟩
end Go.Proofs.Ytcmakddnjmeklaa
