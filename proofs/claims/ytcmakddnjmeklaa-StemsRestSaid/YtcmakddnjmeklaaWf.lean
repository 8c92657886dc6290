/- Chapter 9, walks: told, more. -/
import Derived.Test.YtcmakddnjmeklaaWe
namespace Go.Proofs.Ytcmakddnjmeklaa
open Go.RowKit

theorem new_at3 (w : World) (o p q : Obj) : (((w.alloc o).alloc p).alloc q).heap[w.heap.size + 1 + 1]? = some q := by
  have := new_at ((w.alloc o).alloc p) q
  simpa using this
theorem box3 (w : World) (o p q : Obj) : (((w.alloc o).alloc p).alloc q).heap[w.heap.size]? = some o ∧ (((w.alloc o).alloc p).alloc q).heap[w.heap.size + 1]? = some p ∧ (((w.alloc o).alloc p).alloc q).heap[w.heap.size + 1 + 1]? = some q :=
  ⟨persist (persist (new_at w o) (bal (Below.refl _ _) p)) (bal (Below.refl _ _) q), persist (new_at2 w o p) (bal (Below.refl _ _) q), new_at3 w o p q⟩
set_option maxRecDepth 100000 in
set_option maxHeartbeats 1000000 in
theorem told_go (w : World) (a b g : Int) (x z y : Option Addr) (n c k q m d : Nat) (o l : List Int) (dv : Int) (ho : Sl w z k q o) (hl : Sl w y m d l) (hv : vAc k ⟨g, o⟩ = true) (hk : k ≤ 4) (hkm : k ≤ m) (ha : 1 ≤ a) (hab : a < b) (hb : b ≤ 4)
    (hlb : ∀ e ∈ l, -1000000000000 ≤ e ∧ e ≤ 1000000000000) (hd : 0 ≤ dv ∧ dv ≤ 1000000000) :
    Calls Try.prog 53 #[wv a b x n c, pv y m d dv, av g z k q] w fun e w' => e = .returned (.int .i64 (tel a b ⟨g, o⟩ (nth l) dv)) ∧ Below w.heap.size w w' := by
  have hb0 := bal (bal (bal (Below.refl w.heap.size w) (.cells #[.int .i64 a, .int .i64 b, .slice x n c] 33)) (.cells #[.slice y m d, .int .i64 dv] 80)) (.cells #[.int .i64 g, .slice z k q] 50)
  have HX3 := Lib.hid (box3 w (.cells #[.int .i64 a, .int .i64 b, .slice x n c] 33) (.cells #[.slice y m d, .int .i64 dv] 80) (.cells #[.int .i64 g, .slice z k q] 50))
  have HB0 := Lib.hid hb0
  have HS := Lib.hid (ho.mono hb0)
  have HL := Lib.hid (hl.mono hb0)
  obtain ⟨hg1, hg2, hol, hor, hS1, hS2⟩ := vAc_at hv
  have hol : o.length = k := hol
  have hor : ∀ y ∈ o, 0 ≤ y ∧ y ≤ 3 := hor
  have hg1 : -9 ≤ g := hg1
  have hg2 : g ≤ 9 := hg2
  have hS1 : 1 ≤ isum o := hS1
  have hS2 : isum o ≤ 3 * k := hS2
  have HOR := Lib.hid hor
  have hml := hl.len
  have HLB := Lib.hid (fun j (hj : j < k) => hlb _ (nth_mem (l := l) (k := j) (by omega)))
  have HDB := Lib.hid (dot_bound (o := o) (l := l) (B := 1000000000000) (by omega) hor hlb (by omega))
  have HOB := Lib.hid (fun j (hj : j < k) => hor _ (nth_mem (l := o) (k := j) (by omega)))
  have HT := Lib.hid (tel_dot a b ⟨g, o⟩ l dv)
  have HOL := Lib.hid hol
  have c1 := ho.cap
  have c2 := hl.cap
  unfold maxLen at c1 c2
  clear ho hl hv hlb hor hb0 hml hol
  generalize hW : ((w.alloc (.cells #[.int .i64 a, .int .i64 b, .slice x n c] 33)).alloc (.cells #[.slice y m d, .int .i64 dv] 80)).alloc (.cells #[.int .i64 g, .slice z k q] 50) = W at *
  have HSX := Lib.hid (fun (w' : World) (hb : Below W.heap.size W w') =>
    (show w'.cell? ⟨w.heap.size, 0, none⟩ = some (.int .i64 a) ∧ w'.cell? ⟨w.heap.size, 1, none⟩ = some (.int .i64 b) ∧ w'.cell? ⟨w.heap.size + 1, 0, none⟩ = some (.slice y m d) ∧ w'.cell? ⟨w.heap.size + 1, 1, none⟩ = some (.int .i64 dv) ∧ w'.cell? ⟨w.heap.size + 1 + 1, 0, none⟩ = some (.int .i64 g) ∧ w'.cell? ⟨w.heap.size + 1 + 1, 1, none⟩ = some (.slice z k q) from
      have q1 := persist HX3.out.1 hb
      have q2 := persist HX3.out.2.1 hb
      have q3 := persist HX3.out.2.2 hb
      ⟨by rw [cells_at q1]; rfl, by rw [cells_at q1]; rfl, by rw [cells_at q2]; rfl, by rw [cells_at q2]; rfl, by rw [cells_at q3]; rfl, by rw [cells_at q3]; rfl⟩))
  have hzW := lt_of_block HX3.out.2.2
  have HWW := Lib.hid hW
  clear hW
  have m1 := mul_le3 (A := 4) (B := 12) (show -4 ≤ b by omega) hb (show -12 ≤ isum o by omega) (by omega) (by omega)
  have m2 := mul_le3 (A := 48) (B := 1000000000) m1.1 m1.2 (show -1000000000 ≤ dv by omega) hd.2 (by omega)
  have m3 := mul_le3 (A := 48000000000) (B := 9) m2.1 m2.2 (show -9 ≤ g by omega) hg2 (by omega)
  have w1 : IntKind.i64.wrap (b * isum o) = b * isum o := wrap_i64j _ (by omega) (by omega)
  have w2 : IntKind.i64.wrap (b * isum o * dv) = b * isum o * dv := wrap_i64j _ (by omega) (by omega)
  have w3 : IntKind.i64.wrap (b * isum o * dv * g) = b * isum o * dv * g := wrap_i64j _ (by omega) (by omega)
  have hBd := (Below.refl W.heap.size W).drew
  have HS1 := Lib.hid (HS.out.mono hBd)
  clear hBd m1 m2
  go_enter Try.func53, Try.ntmps53
  go_wp2
  rw [HWW.out]
  obtain ⟨f0, f1, f2, f3, f4, f5⟩ := HSX.out W (Below.refl _ _)
  go_region_held3 (fun w' => w'.cell? ⟨w.heap.size, 1, none⟩ = some (.int .i64 b) ∧ w'.cell? ⟨w.heap.size + 1, 1, none⟩ = some (.int .i64 dv) ∧ w'.cell? ⟨w.heap.size + 1 + 1, 0, none⟩ = some (.int .i64 g) ∧ w'.cell? ⟨w.heap.size + 1 + 1, 1, none⟩ = some (.slice z k q))
    (first | (have hb9 := HSX.out _ (btr (Below.refl W.heap.size W).drew hb2); exact ⟨hb9.2.1, hb9.2.2.2.1, hb9.2.2.2.2.1, hb9.2.2.2.2.2⟩) | go_keep)
    ((go_at_call 54; refine (sum_go _ g z k q o HS1.out (by omega) HOR.out).mono ?_; rintro e w2 ⟨rfl, hb2⟩))
  have HB2 := Lib.hid (btr (Below.refl W.heap.size W).drew hb2)
  obtain ⟨e0, e1, e2, e3, e4, e5⟩ := HSX.out _ HB2.out
  have hz2 := HB2.out.size
  clear f0 f1 f2 f3 f4 f5 hb2
  go_wp2
  go_loopw [7, 25] (fun s t wr => ∃ j : Nat, j ≤ k ∧ t = .int .i64 j ∧ s = .int .i64 (b * isum o * dv * g + a * dotTo o l j) ∧ Hid (Below W.heap.size W wr)) (fun _ t _ => k - (intOf t).toNat)
  case atStart => exact ⟨0, by omega, rfl, by simp [dotTo, sumN], HB2⟩
  case round =>
    clear e0 e1 e2 e3 e4 e5
    obtain ⟨j, hj, rfl, rfl, HB⟩ := hrel
    by_cases hlt : j < k
    · obtain ⟨b1, o1, rfl, hb1, hc1⟩ := (HS.out.mono HB.out).at (by omega)
      obtain ⟨b2, o2, rfl, hb2, hc2⟩ := (HL.out.mono HB.out).at (by omega)
      have e1 := hc1 j hlt
      have e2 := hc2 j (by omega)
      obtain ⟨q0, q1, q2, q3, q4, q5⟩ := HSX.out _ HB.out
      have hzr := HB.out.size
      have h1 := HDB.out j (by rw [HOL.out]; exact hj)
      have h2 := HLB.out j hlt
      have h3 := HOB.out j hlt
      have h4 := mul_le3 (A := 3) (B := 3) (show -3 ≤ a by omega) (by omega) (show -3 ≤ nth o j by omega) h3.2 (by omega)
      have h5 := mul_le3 (A := 9) (B := 1000000000000) h4.1 h4.2 h2.1 h2.2 (by omega)
      have h6 := mul_le3 (A := 3) (B := 12000000000000) (show -3 ≤ a by omega) (by omega) (show -12000000000000 ≤ dotTo o l j by omega) (by omega) (by omega)
      have HN := Lib.hid (show b * isum o * dv * g + a * dotTo o l (j + 1) = b * isum o * dv * g + a * dotTo o l j + a * nth o j * nth l j by
        show _ + a * (dotTo o l j + nth o j * nth l j) = _
        grind)
      have hjm : j < m := by omega
      clear hc1 hc2
      generalize b * isum o * dv * g = bs at *
      generalize a * dotTo o l j = s0 at *
      generalize nth o j = oj at *
      generalize nth l j = lj at *
      generalize hpr : a * oj = pr at *
      generalize hpq : pr * lj = pq at *
      have w4 : IntKind.i64.wrap pr = pr := wrap_i64j _ (by omega) (by omega)
      have w5 : IntKind.i64.wrap pq = pq := wrap_i64j _ (by omega) (by omega)
      have w6 : IntKind.i64.wrap (bs + s0 + pq) = bs + s0 + pq := wrap_i64j _ (by omega) (by omega)
      go_wp2
      go_quiet (fail)
      go_wp2
      go_roundw
      case rel => go_light; exact ⟨j + 1, by omega, by go_num, by rw [HN.out], Lib.hid (drewN_below HB.out)⟩
      case measure => simp [intOf]; omega
    · obtain rfl : j = k := by omega
      have HE := Lib.hid (show b * isum o * dv * g + a * dotTo o l j = tel a b ⟨g, o⟩ (nth l) dv by rw [HT.out]; show _ = b * isum o * dv * g + a * dotTo o l o.length; rw [HOL.out])
      go_wp2
      go_ret
      rw [HE.out]
      refine ⟨rfl, ?_⟩
      have := HB0.out
      exact btr this HB.out

/-! ### more -/
/-- Boxed prices. -/
def BoxP (w : World) (p : Nat) (y : Option Addr) (m d : Nat) (dv : Int) : Prop := w.heap[p]? = some (.cells #[.slice y m d, .int .i64 dv] 80 (0, 0))
theorem BoxP.cells {w : World} {p : Nat} {y : Option Addr} {m d : Nat} {dv : Int} (h : BoxP w p y m d dv) : p < w.heap.size ∧ w.cell? ⟨p, 0, none⟩ = some (.slice y m d) ∧ w.cell? ⟨p, 1, none⟩ = some (.int .i64 dv) :=
  ⟨lt_of_block h, by rw [cells_at h]; rfl, by rw [cells_at h]; rfl⟩
theorem dB_tel {a b : Int} {k : Nat} {x : Ac} {l : List Int} {dv : Int} (hv : vAc k x = true) (hk : k ≤ 4) (hkm : k ≤ l.length) (ha : 1 ≤ a) (hab : a < b) (hb : b ≤ 4)
    (hlb : ∀ e ∈ l, -1000000000000 ≤ e ∧ e ≤ 1000000000000) (hd : 0 ≤ dv ∧ dv ≤ 1000000000) : -600000000000000 ≤ tel a b x (nth l) dv ∧ tel a b x (nth l) dv ≤ 600000000000000 := by
  obtain ⟨hg1, hg2, hol, hor, hS1, hS2⟩ := vAc_at hv
  have h1 := dot_bound (o := x.o) (l := l) (B := 1000000000000) (by omega) hor hlb (by omega) x.o.length (Nat.le_refl _)
  rw [tel_dot]
  rw [hol] at h1 ⊢
  have m1 := mul_le3 (A := 4) (B := 12) (show -4 ≤ b by omega) hb (show -12 ≤ isum x.o by omega) (by omega) (by omega)
  have m2 := mul_le3 (A := 48) (B := 1000000000) m1.1 m1.2 (show -1000000000 ≤ dv by omega) hd.2 (by omega)
  have m3 := mul_le3 (A := 48000000000) (B := 9) m2.1 m2.2 (show -9 ≤ x.g by omega) hg2 (by omega)
  have m4 := mul_le3 (A := 3) (B := 12000000000000) (show -3 ≤ a by omega) (by omega) (show -12000000000000 ≤ dotTo x.o l k by omega) (by omega) (by omega)
  omega
set_option maxRecDepth 100000 in
set_option maxHeartbeats 1000000 in
theorem more_go (w : World) (a b : Int) (pw pp n c k q1 q2 m d : Nat) (x y z1 z2 : Option Addr) (X1 X2 : Ac) (l : List Int) (dv : Int) (hw : BoxW w pw a b x n c) (hpp : BoxP w pp y m d dv) (h1 : Sl w z1 k q1 X1.o) (h2 : Sl w z2 k q2 X2.o) (hl : Sl w y m d l)
    (hv1 : vAc k X1 = true) (hv2 : vAc k X2 = true) (hk : k ≤ 4) (hkm : k ≤ m) (ha : 1 ≤ a) (hab : a < b) (hb : b ≤ 4)
    (hlb : ∀ e ∈ l, -1000000000000 ≤ e ∧ e ≤ 1000000000000) (hd : 0 ≤ dv ∧ dv ≤ 1000000000) :
    Calls Try.prog 79 #[av X1.g z1 k q1, av X2.g z2 k q2, .pointer (some ⟨pw, 0, none⟩), .pointer (some ⟨pp, 0, none⟩)] w fun e w' => e = .returned (.bool (decide (tel a b X2 (nth l) dv * isum X1.o < tel a b X1 (nth l) dv * isum X2.o))) ∧ Below w.heap.size w w' := by
  have hml := hl.len
  have t1 := dB_tel (l := l) hv1 hk (by omega) ha hab hb hlb hd
  have t2 := dB_tel (l := l) hv2 hk (by omega) ha hab hb hlb hd
  obtain ⟨_, _, _, hor1, s11, s12⟩ := vAc_at hv1
  obtain ⟨_, _, _, hor2, s21, s22⟩ := vAc_at hv2
  have HO1 := Lib.hid hor1
  have HO2 := Lib.hid hor2
  obtain ⟨g1, o1⟩ := X1
  obtain ⟨g2, o2⟩ := X2
  have hb0 := bal (bal (Below.refl w.heap.size w) (.cells #[.int .i64 g1, .slice z1 k q1] 50)) (.cells #[.int .i64 g2, .slice z2 k q2] 50)
  have HB0 := Lib.hid hb0
  have HX1 := Lib.hid (persist (new_at w (.cells #[.int .i64 g1, .slice z1 k q1] 50)) (bal (Below.refl _ _) (.cells #[.int .i64 g2, .slice z2 k q2] 50)))
  have HX2 := Lib.hid (new_at2 w (.cells #[.int .i64 g1, .slice z1 k q1] 50) (.cells #[.int .i64 g2, .slice z2 k q2] 50))
  have HS1 := Lib.hid (h1.mono hb0)
  have HS2 := Lib.hid (h2.mono hb0)
  have HL := Lib.hid (hl.mono hb0)
  have HW0 := Lib.hid (persist hw hb0)
  have HP0 := Lib.hid (persist hpp hb0)
  have HV1 := Lib.hid hv1
  have HV2 := Lib.hid hv2
  have HLB := Lib.hid hlb
  have s11 : 1 ≤ isum o1 := s11
  have s12 : isum o1 ≤ 3 * k := s12
  have s21 : 1 ≤ isum o2 := s21
  have s22 : isum o2 ≤ 3 * k := s22
  clear hw hpp h1 h2 hl hv1 hv2 hlb hor1 hor2 hb0 hml
  generalize hWe : (w.alloc (.cells #[.int .i64 g1, .slice z1 k q1] 50)).alloc (.cells #[.int .i64 g2, .slice z2 k q2] 50) = W at *
  have HWW := Lib.hid hWe
  clear hWe
  have HSX := Lib.hid (fun (w' : World) (hb : Below W.heap.size W w') =>
    (show w'.cell? ⟨pw, 0, none⟩ = some (.int .i64 a) ∧ w'.cell? ⟨pw, 1, none⟩ = some (.int .i64 b) ∧ w'.cell? ⟨pw, 2, none⟩ = some (.slice x n c) ∧ w'.cell? ⟨pp, 0, none⟩ = some (.slice y m d) ∧ w'.cell? ⟨pp, 1, none⟩ = some (.int .i64 dv) ∧ w'.cell? ⟨w.heap.size, 0, none⟩ = some (.int .i64 g1) ∧ w'.cell? ⟨w.heap.size, 1, none⟩ = some (.slice z1 k q1) ∧ w'.cell? ⟨w.heap.size + 1, 0, none⟩ = some (.int .i64 g2) ∧ w'.cell? ⟨w.heap.size + 1, 1, none⟩ = some (.slice z2 k q2) from
      have e1 := BoxW.cells (persist HW0.out hb)
      have e2 := BoxP.cells (persist HP0.out hb)
      have e3 := persist HX1.out hb
      have e4 := persist HX2.out hb
      ⟨e1.2.1, e1.2.2.1, e1.2.2.2, e2.2.1, e2.2.2, by rw [cells_at e3]; rfl, by rw [cells_at e3]; rfl, by rw [cells_at e4]; rfl, by rw [cells_at e4]; rfl⟩))
  have hC : Below W.heap.size W W.drew := (Below.refl _ _).drew
  have m1 := mul_le3 (A := 600000000000000) (B := 12) t1.1 t1.2 (show -12 ≤ isum o2 by omega) (by omega) (by omega)
  have m2 := mul_le3 (A := 600000000000000) (B := 12) t2.1 t2.2 (show -12 ≤ isum o1 by omega) (by omega) (by omega)
  have w1 : IntKind.i64.wrap (tel a b ⟨g1, o1⟩ (nth l) dv * isum o2) = tel a b ⟨g1, o1⟩ (nth l) dv * isum o2 := wrap_i64j _ (by omega) (by omega)
  have w2 : IntKind.i64.wrap (tel a b ⟨g2, o2⟩ (nth l) dv * isum o1) = tel a b ⟨g2, o2⟩ (nth l) dv * isum o1 := wrap_i64j _ (by omega) (by omega)
  have z1' := (BoxW.cells HW0.out).1
  have z2' := (BoxP.cells HP0.out).1
  have z3' := lt_of_block HX1.out
  have z4' := lt_of_block HX2.out
  clear m1 m2 t1 t2
  go_enter Try.func79, Try.ntmps79
  go_wp2
  rw [HWW.out]
  go_region_held3 (fun w' => w'.cell? ⟨pw, 0, none⟩ = some (.int .i64 a) ∧ w'.cell? ⟨pw, 1, none⟩ = some (.int .i64 b) ∧ w'.cell? ⟨pw, 2, none⟩ = some (.slice x n c) ∧ w'.cell? ⟨pp, 0, none⟩ = some (.slice y m d) ∧ w'.cell? ⟨pp, 1, none⟩ = some (.int .i64 dv) ∧ w'.cell? ⟨w.heap.size, 0, none⟩ = some (.int .i64 g1) ∧ w'.cell? ⟨w.heap.size, 1, none⟩ = some (.slice z1 k q1) ∧ w'.cell? ⟨w.heap.size + 1, 0, none⟩ = some (.int .i64 g2) ∧ w'.cell? ⟨w.heap.size + 1, 1, none⟩ = some (.slice z2 k q2))
    ((exact HSX.out _ hC))
    (first
      | ((with_reducible refine (told_go _ a b g1 x z1 y n c k q1 m d o1 l dv (HS1.out.mono hC) (HL.out.mono hC) HV1.out hk hkm ha hab hb HLB.out hd).mono ?_); rintro e w' ⟨rfl, hb9⟩; replace hC := btr hC hb9; clear hb9)
      | ((with_reducible refine (told_go _ a b g2 x z2 y n c k q2 m d o2 l dv (HS2.out.mono hC) (HL.out.mono hC) HV2.out hk hkm ha hab hb HLB.out hd).mono ?_); rintro e w' ⟨rfl, hb9⟩; replace hC := btr hC hb9; clear hb9)
      | ((with_reducible refine (sum_go _ g1 z1 k q1 o1 (HS1.out.mono hC) (by omega) HO1.out).mono ?_); rintro e w' ⟨rfl, hb9⟩; replace hC := btr hC hb9; clear hb9)
      | ((with_reducible refine (sum_go _ g2 z2 k q2 o2 (HS2.out.mono hC) (by omega) HO2.out).mono ?_); rintro e w' ⟨rfl, hb9⟩; replace hC := btr hC hb9; clear hb9))
  all_goals go_wp2
  all_goals go_ret
  all_goals exact ⟨rfl, btr HB0.out hC⟩
end Go.Proofs.Ytcmakddnjmeklaa
