/- Chapter 9, walks: stepped; StemsEquations. -/
import Derived.Test.YtcmakddnjmeklaaWd
import Derived.BigQuiet
namespace Go.Proofs.Ytcmakddnjmeklaa
open Go.RowKit

/-! ### stepped -/
def dotTo (o l : List Int) (k : Nat) : Int := sumN (fun i => nth o i * nth l i) k
theorem dot_bound {o l : List Int} {B : Int} (_hB : 0 ≤ B) (ho : ∀ x ∈ o, 0 ≤ x ∧ x ≤ 3) (hl : ∀ x ∈ l, -B ≤ x ∧ x ≤ B) (hln : o.length ≤ l.length) : ∀ k, k ≤ o.length → -(3 * B * k) ≤ dotTo o l k ∧ dotTo o l k ≤ 3 * B * k := by
  intro k; induction k with
  | zero => intro _; simp [dotTo, sumN]
  | succ k ih =>
    intro hk
    have h1 := ih (by omega)
    have h2 := ho _ (nth_mem (l := o) (k := k) (by omega))
    have h3 := hl _ (nth_mem (l := l) (k := k) (by omega))
    have h4 := mul_le3 (A := 3) (B := B) (show -3 ≤ nth o k by omega) h2.2 h3.1 h3.2 (by omega)
    show -(3 * B * ((k : Int) + 1)) ≤ dotTo o l k + nth o k * nth l k ∧ dotTo o l k + nth o k * nth l k ≤ 3 * B * ((k : Int) + 1)
    rw [Int.mul_add, Int.mul_one]
    omega
theorem tel_dot (a b : Int) (x : Ac) (l : List Int) (d : Int) : tel a b x (nth l) d = b * isum x.o * d * x.g + a * dotTo x.o l x.o.length := rfl
set_option maxRecDepth 100000 in
set_option maxHeartbeats 1000000 in
theorem stepped_go (w : World) (a b g : Int) (x z y : Option Addr) (n c k q m d : Nat) (o l : List Int) (dv : Int) (ho : Sl w z k q o) (hl : Sl w y m d l) (hv : vAc k ⟨g, o⟩ = true) (hk : k ≤ 4) (hkm : k ≤ m) (ha : 1 ≤ a) (hab : a < b) (hb : b ≤ 4)
    (hlb : ∀ e ∈ l, -1000000000000000 ≤ e ∧ e ≤ 1000000000000000) (hd : 0 ≤ dv ∧ dv ≤ 1000000000) :
    Calls Try.prog 23 #[wv a b x n c, av g z k q, .slice y m d, .int .i64 dv] w fun e w' => e = .returned (.int .i64 (tel a b ⟨g, o⟩ (nth l) dv)) ∧ Below w.heap.size w w' := by
  have hb0 := bal (bal (Below.refl w.heap.size w) (.cells #[.int .i64 a, .int .i64 b, .slice x n c] 25)) (.cells #[.int .i64 g, .slice z k q] 42)
  have HB0 := Lib.hid hb0
  have HS := Lib.hid (ho.mono hb0)
  have HL := Lib.hid (hl.mono hb0)
  obtain ⟨hg1, hg2, hol, hor, hS1, hS2⟩ := vAc_at hv
  have hol : o.length = k := hol
  have hor : ∀ y ∈ o, 0 ≤ y ∧ y ≤ 3 := hor
  have hg1 : -9 ≤ g := hg1
  have hg2 : g ≤ 9 := hg2
  have hS1 : 1 ≤ isum o := hS1
  have hS2 : isum o ≤ 3 * k := hS2
  have HOR := Lib.hid hor
  have hml := hl.len
  have HLB := Lib.hid (fun j (hj : j < k) => hlb _ (nth_mem (l := l) (k := j) (by omega)))
  have HDB := Lib.hid (dot_bound (o := o) (l := l) (B := 1000000000000000) (by omega) hor hlb (by omega))
  have HOB := Lib.hid (fun j (hj : j < k) => hor _ (nth_mem (l := o) (k := j) (by omega)))
  have HT := Lib.hid (tel_dot a b ⟨g, o⟩ l dv)
  have HOL := Lib.hid hol
  have c1 := ho.cap
  have c2 := hl.cap
  unfold maxLen at c1 c2
  clear ho hl hv hlb hor hb0 hml hol
  go_enter Try.func23, Try.ntmps23
  go_wp2
  go_loop [9, 15] (fun s t => ∃ j : Nat, j ≤ k ∧ t = .int .i64 j ∧ s = .int .i64 (dotTo o l j)) (fun _ t => k - (intOf t).toNat)
  case atStart => exact ⟨0, by omega, rfl, rfl⟩
  case round =>
    obtain ⟨j, hj, rfl, rfl⟩ := hrel
    by_cases hlt : j < k
    · obtain ⟨b1, o1, rfl, hb1, hc1⟩ := HS.out.at (by omega)
      obtain ⟨b2, o2, rfl, hb2, hc2⟩ := HL.out.at (by omega)
      have e1 := hc1 j hlt
      have e2 := hc2 j (by omega)
      have h1 := HDB.out j (by rw [HOL.out]; exact hj)
      have h2 := HLB.out j hlt
      have h3 := HOB.out j hlt
      have h4 := mul_le3 (A := 3) (B := 1000000000000000) (show -3 ≤ nth o j by omega) h3.2 h2.1 h2.2 (by omega)
      have HN := Lib.hid (show dotTo o l (j + 1) = dotTo o l j + nth o j * nth l j from rfl)
      have hjm : j < m := by omega
      clear hc1 hc2
      generalize dotTo o l j = s0 at *
      generalize nth o j = oj at *
      generalize nth l j = lj at *
      generalize hpr : oj * lj = pr at *
      go_wp2
      go_round
      case rel => exact ⟨j + 1, by omega, by go_num, by rw [HN.out]⟩
      case measure => simp [intOf]; omega
    · obtain rfl : j = k := by omega
      have h1 := HDB.out j (by rw [HOL.out]; exact hj)
      have hz := new_at2 w (.cells #[.int .i64 a, .int .i64 b, .slice x n c] 25) (.cells #[.int .i64 g, .slice z j q] 42)
      have m1 := mul_le3 (A := 1000000000) (B := 9) (show -1000000000 ≤ dv by omega) hd.2 (show -9 ≤ g by omega) hg2 (by omega)
      have m2 := mul_le3 (A := 9000000000) (B := 4) (show -9000000000 ≤ dv * g by omega) (by omega) (show -4 ≤ b by omega) hb (by omega)
      have m3 := mul_le3 (A := 36000000000) (B := 12) (show -36000000000 ≤ dv * g * b by omega) (by omega) (show -12 ≤ isum o by omega) (by omega) (by omega)
      have m4 := mul_le3 (A := 3) (B := 12000000000000000) (show -3 ≤ a by omega) (by omega) (show -12000000000000000 ≤ dotTo o l j by omega) (by omega) (by omega)
      have HE := Lib.hid (show dv * g * b * isum o + a * dotTo o l j = tel a b ⟨g, o⟩ (nth l) dv by rw [HT.out]; show _ = b * isum o * dv * g + a * dotTo o l o.length; rw [HOL.out]; grind)
      have w1 : IntKind.i64.wrap (dv * g) = dv * g := wrap_i64j _ (by omega) (by omega)
      have w2 : IntKind.i64.wrap (dv * g * b) = dv * g * b := wrap_i64j _ (by omega) (by omega)
      have w3 : IntKind.i64.wrap (dv * g * b * isum o) = dv * g * b * isum o := wrap_i64j _ (by omega) (by omega)
      have w4 : IntKind.i64.wrap (a * dotTo o l j) = a * dotTo o l j := wrap_i64j _ (by omega) (by omega)
      have w5 : IntKind.i64.wrap (dv * g * b * isum o + a * dotTo o l j) = dv * g * b * isum o + a * dotTo o l j := wrap_i64j _ (by omega) (by omega)
      have q0 : ((w.alloc (.cells #[.int .i64 a, .int .i64 b, .slice x n c] 25)).alloc (.cells #[.int .i64 g, .slice z j q] 42)).cell? ⟨w.heap.size + 1, 0, none⟩ = some (.int .i64 g) := by rw [cells_at hz]; rfl
      clear h1 m1 m2 m3 m4 hz
      go_wp2
      go_quiet ((go_at_call 22; exact Calls.quiet_of_same ((rsum_go _ z j q o (by first | exact HS.out | exact HS.out.mono (Below.refl _ _).drew | exact HS.out.mono (drewN_below (Below.refl _ _))) (by omega) HOR.out).mono fun _ _ ⟨h1, h2⟩ => ⟨h1, h2.symm⟩)))
      go_wp2
      go_ret
      rw [HE.out]
      exact ⟨rfl, drewN_below HB0.out⟩
end Go.Proofs.Ytcmakddnjmeklaa
