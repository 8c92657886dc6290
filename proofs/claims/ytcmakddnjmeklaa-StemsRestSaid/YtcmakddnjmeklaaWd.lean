/- Chapter 9, walks: lowest, whole, stepped. -/
import Derived.Test.YtcmakddnjmeklaaWc
namespace Go.Proofs.Ytcmakddnjmeklaa
open Go.RowKit

/-! ### fractions in lowest terms -/
def FrLow (x : Fr) : Prop := 1 ≤ x.d ∧ x.d ≤ 67108864 ∧ -4294967296 ≤ x.n ∧ x.n ≤ 4294967296 ∧ Int.gcd x.n x.d = 1
theorem toFr_gcd (q : Rat) : Int.gcd (toFr q).n (toFr q).d = 1 := by
  show Int.gcd q.num (q.den : Int) = 1
  have := q.reduced
  unfold Nat.Coprime at this
  simpa [Int.gcd] using this
theorem frq_mul {a b : Int} (hb : 0 < b) : (toFr ((a : Rat) / (b : Rat))).n * b = a * (toFr ((a : Rat) / (b : Rat))).d := by
  show ((a : Rat) / (b : Rat)).num * b = a * (((a : Rat) / (b : Rat)).den : Int)
  rw [← frq_num hb, ← frq_den hb]
  have h1 := Int.gcd_dvd_left a b
  have h2 := Int.gcd_dvd_right a b
  obtain ⟨x, hx⟩ := h1
  obtain ⟨y, hy⟩ := h2
  have hg : (Int.gcd a b : Int) ≠ 0 := by
    have : Int.gcd a b ≠ 0 := fun h => by rw [Int.gcd_eq_zero_iff] at h; omega
    omega
  generalize (Int.gcd a b : Int) = g at *
  subst hx hy
  rw [Int.mul_tdiv_cancel_left _ hg, Int.mul_tdiv_cancel_left _ hg]
  grind
theorem frq_dvd {a b : Int} (hb : 0 < b) : (toFr ((a : Rat) / (b : Rat))).d ∣ b := by
  show (((a : Rat) / (b : Rat)).den : Int) ∣ b
  rw [← frq_den hb]
  have h2 := Int.gcd_dvd_right a b
  have hg : (Int.gcd a b : Int) ≠ 0 := by
    have : Int.gcd a b ≠ 0 := fun h => by rw [Int.gcd_eq_zero_iff] at h; omega
    omega
  obtain ⟨y, hy⟩ := h2
  generalize (Int.gcd a b : Int) = g at *
  subst hy
  rw [Int.mul_tdiv_cancel_left _ hg]
  exact Int.dvd_mul_left ..
theorem frq_pos (q : Rat) : 1 ≤ (toFr q).d := by
  show 1 ≤ (q.den : Int)
  have := q.den_pos
  omega
/-- A quotient that is at most C in size. -/
theorem frq_low {a b C : Int} (hb : 0 < b) (hb2 : b ≤ 67108864) (hC : 0 ≤ C) (hCb : C * b ≤ 4294967296) (ha : -(C * b) ≤ a ∧ a ≤ C * b) : FrLow (toFr ((a : Rat) / (b : Rat))) := by
  have h1 := frq_pos ((a : Rat) / (b : Rat))
  have h2 := frq_mul (a := a) hb
  have h3 := Int.le_of_dvd hb (frq_dvd (a := a) hb)
  have h5 := toFr_gcd ((a : Rat) / (b : Rat))
  generalize toFr ((a : Rat) / (b : Rat)) = x at *
  have h6 : x.n * b ≤ (C * x.d) * b := by
    rw [h2]
    have := Int.mul_le_mul_of_nonneg_right ha.2 (show 0 ≤ x.d by omega)
    grind
  have h7 : (-(C * x.d)) * b ≤ x.n * b := by
    rw [h2]
    have := Int.mul_le_mul_of_nonneg_right ha.1 (show 0 ≤ x.d by omega)
    grind
  have h8 := Int.le_of_mul_le_mul_right h6 hb
  have h9 := Int.le_of_mul_le_mul_right h7 hb
  have h10 := Int.mul_le_mul_of_nonneg_left h3 hC
  exact ⟨h1, by omega, by omega, by omega, h5⟩
theorem fracsL_len {l : List Int} {d : Int} : (fracsL l d).length = l.length := by simp [fracsL]
theorem fracsL_at {l : List Int} {d : Int} {i : Nat} (hi : i < l.length) : fr (fracsL l d) i = toFr ((nth l i : Rat) / (d : Rat)) := by
  unfold fr fracsL
  rw [List.getD_eq_getElem?_getD, List.getElem?_map, List.getElem?_eq_getElem hi, nth_of_lt hi]; rfl
theorem worth_low {W : Wd} {p : List Int} (h : isPlanB W p = true) {s : Nat} (hs : s < W.acts.length) : FrLow (fr (worthF W p) s) := by
  have hX := okX_plan h
  have hl := planActs_len W.acts p
  have hD := wD_pos hX
  unfold worthF
  rw [fracsL_at (by rw [wNs_len, hl]; exact hs), wNs_at (by rw [hl]; exact hs)]
  have := wN_36 hX (s := s) (by rw [hl]; exact hs)
  exact frq_low (C := 36) hD.1 (by omega) (by omega) (by omega) this
theorem worthF_len {W : Wd} {p : List Int} : (worthF W p).length = W.acts.length := by unfold worthF; rw [fracsL_len, wNs_len, planActs_len]

set_option maxHeartbeats 1000000 in
theorem lowest_go (w : World) (x : Option Addr) (n c : Nat) (F : List Fr) (hF : FrSl w x n c F) (hL : ∀ i, i < n → FrLow (fr F i)) :
    Calls Try.prog 20 #[.slice x n c] w fun e w' => e = .returned (.bool true) ∧ Below w.heap.size w w' := by
  have HF := Lib.hid hF
  have HL := Lib.hid hL
  have hcap := hF.2.cap
  unfold maxLen at hcap
  clear hF hL
  go_enter Try.func20, Try.ntmps20
  go_wp2
  go_loopw [9] (fun t wr => ∃ i : Nat, i ≤ n ∧ t = .int .i64 i ∧ Below w.heap.size w wr) (fun t _ => n - (intOf t).toNat)
  case atStart => exact ⟨0, by omega, rfl, Below.refl _ _⟩
  case round =>
    obtain ⟨i, hi, rfl, hB⟩ := hrel
    by_cases hl : i < n
    · obtain ⟨b1, o1, rfl, hb1, hh⟩ := (HF.out.mono hB).at (by omega)
      obtain ⟨p1, p2⟩ := hh i hl
      obtain ⟨l1, l2, l3, l4, hg⟩ := HL.out i hl
      clear hh
      generalize (fr F i).n = fn at *
      generalize (fr F i).d = fd at *
      have HG := Lib.hid hg
      clear hg
      have hBB := bal hB (.cells #[.int .i64 fn, .int .i64 fd] 53)
      have HBB := Lib.hid hBB
      clear hBB
      by_cases hneg : fn < 0
      · have HG1 := Lib.hid (show Int.gcd (-fn) fd = 1 by rw [Int.neg_gcd]; exact HG.out)
        go_wp2
        go_region
        go_wp2
        go_loopw [5, 6] (fun u v wz => ∃ p q : Int, u = .int .i64 p ∧ v = .int .i64 q ∧ Hid (Int.gcd p q = 1) ∧ (0 ≤ p ∧ p ≤ 4294967296) ∧ (0 ≤ q ∧ q ≤ 4294967296) ∧ Hid (Below w.heap.size w wz)) (fun _ v _ => (intOf v).natAbs)
        case atStart => exact ⟨_, fd, rfl, rfl, HG1, by omega, by omega, Lib.hid HBB.out.drew⟩
        case round =>
          obtain ⟨p, q, rfl, rfl, HG2, hp, hq, HW⟩ := hrel
          by_cases h0 : q = 0
          · subst h0
            clear hq
            have hgp : p = 1 := by have := HG2.out; rw [Int.gcd_zero_right] at this; omega
            subst hgp
            have HW2 := HW.out
            go_wp2
            go_roundw
            case rel => go_light; exact ⟨i + 1, by omega, by go_num, HW2⟩
            case measure => go_light; simp [intOf]; omega
          · have t1 : (q != 0) = true := by simpa using h0
            have hb := tmod_lt p q h0
            have hnn : 0 ≤ p.tmod q := Int.tmod_nonneg q hp.1
            have HG3 := Lib.hid (show Int.gcd q (p.tmod q) = 1 by rw [gcd_step]; exact HG2.out)
            have hmod : p % q = p.tmod q := (Int.tmod_eq_emod_of_nonneg hp.1).symm
            generalize p.tmod q = r at *
            go_wp2
            go_region
            go_wp2
            go_roundw
            case rel =>
              go_light
              exact ⟨q, r, rfl, by first | rfl | rw [hmod], HG3, hq, by omega, Lib.hid HW.out.drew⟩
            case measure => go_light; simp [intOf]; omega
      · have HG1 := Lib.hid (show Int.gcd fn fd = 1 from HG.out)
        go_wp2
        go_region
        go_wp2
        go_loopw [5, 6] (fun u v wz => ∃ p q : Int, u = .int .i64 p ∧ v = .int .i64 q ∧ Hid (Int.gcd p q = 1) ∧ (0 ≤ p ∧ p ≤ 4294967296) ∧ (0 ≤ q ∧ q ≤ 4294967296) ∧ Hid (Below w.heap.size w wz)) (fun _ v _ => (intOf v).natAbs)
        case atStart => exact ⟨_, fd, rfl, rfl, HG1, by omega, by omega, Lib.hid HBB.out.drew⟩
        case round =>
          obtain ⟨p, q, rfl, rfl, HG2, hp, hq, HW⟩ := hrel
          by_cases h0 : q = 0
          · subst h0
            clear hq
            have hgp : p = 1 := by have := HG2.out; rw [Int.gcd_zero_right] at this; omega
            subst hgp
            have HW2 := HW.out
            go_wp2
            go_roundw
            case rel => go_light; exact ⟨i + 1, by omega, by go_num, HW2⟩
            case measure => go_light; simp [intOf]; omega
          · have t1 : (q != 0) = true := by simpa using h0
            have hb := tmod_lt p q h0
            have hnn : 0 ≤ p.tmod q := Int.tmod_nonneg q hp.1
            have HG3 := Lib.hid (show Int.gcd q (p.tmod q) = 1 by rw [gcd_step]; exact HG2.out)
            have hmod : p % q = p.tmod q := (Int.tmod_eq_emod_of_nonneg hp.1).symm
            generalize p.tmod q = r at *
            go_wp2
            go_region
            go_wp2
            go_roundw
            case rel =>
              go_light
              exact ⟨q, r, rfl, by first | rfl | rw [hmod], HG3, hq, by omega, Lib.hid HW.out.drew⟩
            case measure => go_light; simp [intOf]; omega
    · obtain rfl : i = n := by omega
      go_wp2
      go_ret
      exact ⟨rfl, hB⟩

/-! ### whole -/
theorem lcm_step {e den D : Int} (he : 0 < e) (hd : 0 < den) (h1 : e ∣ D) (h2 : den ∣ D) (hD : 0 < D) :
    0 < e.tdiv (Int.gcd e den) * den ∧ e.tdiv (Int.gcd e den) * den ≤ D ∧ e.tdiv (Int.gcd e den) * den ∣ D ∧ e ∣ e.tdiv (Int.gcd e den) * den ∧ den ∣ e.tdiv (Int.gcd e den) * den ∧ 0 < e.tdiv (Int.gcd e den) ∧ e.tdiv (Int.gcd e den) ≤ e ∧ (0 : Int) < Int.gcd e den := by
  obtain ⟨a, rfl⟩ : ∃ a : Nat, e = (a : Int) := ⟨e.toNat, by omega⟩
  obtain ⟨b, rfl⟩ : ∃ b : Nat, den = (b : Int) := ⟨den.toNat, by omega⟩
  obtain ⟨c, rfl⟩ : ∃ c : Nat, D = (c : Int) := ⟨D.toNat, by omega⟩
  have h1' : a ∣ c := Int.natCast_dvd_natCast.1 h1
  have h2' : b ∣ c := Int.natCast_dvd_natCast.1 h2
  have hg : Int.gcd (a : Int) (b : Int) = Nat.gcd a b := rfl
  have hgp : 0 < Nat.gcd a b := Nat.gcd_pos_of_pos_left _ (by omega)
  obtain ⟨x, hx⟩ := Nat.gcd_dvd_left a b
  have hl := Nat.gcd_mul_lcm a b
  have e1 : (a : Int).tdiv (Int.gcd (a : Int) (b : Int)) = (x : Int) := by
    rw [hg, Int.tdiv_eq_ediv_of_nonneg (by omega), ← Int.natCast_ediv]
    congr 1
    exact Nat.div_eq_of_eq_mul_right hgp hx
  have e2 : Nat.lcm a b = x * b := by
    refine Nat.eq_of_mul_eq_mul_left hgp ?_
    rw [hl, ← Nat.mul_assoc, ← hx]
  rw [e1, show (x : Int) * (b : Int) = ((x * b : Nat) : Int) by simp, ← e2]
  have hx0 : 0 < x := by
    rcases Nat.eq_zero_or_pos x with q | q
    · rw [q, Nat.mul_zero] at hx; omega
    · exact q
  have hla := Nat.lcm_dvd h1' h2'
  have hlp : 0 < Nat.lcm a b := Nat.lcm_pos (by omega) (by omega)
  have hxa : x ≤ a := Nat.le_of_dvd (by omega) ⟨Nat.gcd a b, by rw [Nat.mul_comm]; exact hx⟩
  exact ⟨by omega, by have := Nat.le_of_dvd (by omega) hla; omega, Int.natCast_dvd_natCast.2 hla, Int.natCast_dvd_natCast.2 (Nat.dvd_lcm_left a b), Int.natCast_dvd_natCast.2 (Nat.dvd_lcm_right a b), by omega, by omega, by rw [hg]; omega⟩
/-- Fractions as numbers over one divisor. -/
def WholeOf (F : List Fr) (D : Int) (l : List Int) (d : Int) : Prop := 0 < d ∧ d ∣ D ∧ l.length = F.length ∧ ∀ i, i < F.length → nth l i * (fr F i).d = (fr F i).n * d
def wholeL (F : List Fr) (d : Int) : List Int := F.map fun f => f.n * d.tdiv f.d
theorem wholeL_snoc {F : List Fr} {d : Int} {k : Nat} (h : k < F.length) : wholeL (F.take (k + 1)) d = wholeL (F.take k) d ++ [(fr F k).n * d.tdiv (fr F k).d] := by
  unfold wholeL
  rw [List.take_succ_eq_append_getElem h, List.map_append]
  simp [fr, h]
theorem wholeL_at {F : List Fr} {d : Int} {k : Nat} (h : k < F.length) : nth (wholeL F d) k = (fr F k).n * d.tdiv (fr F k).d := by
  unfold wholeL nth
  rw [List.getD_eq_getElem?_getD, List.getElem?_map, List.getElem?_eq_getElem h]
  simp [fr, h]
theorem wholeL_of {F : List Fr} {D d : Int} (h0 : 0 < d) (h1 : d ∣ D) (hd : ∀ i, i < F.length → (fr F i).d ∣ d) : WholeOf F D (wholeL F d) d :=
  ⟨h0, h1, by simp [wholeL], fun i hi => by
    rw [wholeL_at hi, Int.mul_assoc, Int.tdiv_mul_cancel (hd i hi)]⟩
def GivesWh (F : List Fr) (D : Int) (w : World) (e : Ending) (w' : World) : Prop := ∃ a n c l d, e = .returned (.tuple #[.slice a n c, .int .i64 d, .bool true]) ∧ WholeOf F D l d ∧ Sl w' a n c l ∧ Below w.heap.size w w'
set_option maxRecDepth 100000 in
set_option maxHeartbeats 1000000 in
theorem whole_go (w : World) (x : Option Addr) (n c : Nat) (F : List Fr) (D : Int) (hF : FrSl w x n c F) (hn : n ≤ 16) (hD : 0 < D) (hD2 : D ≤ 1000000000) (hL : ∀ i, i < n → FrLow (fr F i)) (hdv : ∀ i, i < n → (fr F i).d ∣ D) :
    Calls Try.prog 21 #[.slice x n c] w (GivesWh F D w) := by
  have HF := Lib.hid hF
  have HL := Lib.hid hL
  have HD := Lib.hid hdv
  have HN := Lib.hid hF.1
  have hcap := hF.2.cap
  unfold maxLen at hcap
  clear hF hL hdv
  go_enter Try.func21, Try.ntmps21
  go_wp2
  go_loopw [5, 15] (fun v t wr => ∃ (i : Nat) (e : Int), i ≤ n ∧ t = .int .i64 i ∧ v = .int .i64 e ∧ 0 < e ∧ e ≤ D ∧ Hid (e ∣ D) ∧ Hid (∀ j, j < i → (fr F j).d ∣ e) ∧ Below w.heap.size w wr) (fun _ t _ => n - (intOf t).toNat)
  case atStart => exact ⟨0, 1, by omega, rfl, rfl, by omega, by omega, Lib.hid (Int.one_dvd ..), Lib.hid (fun j hj => by omega), Below.refl _ _⟩
  case round =>
    obtain ⟨i, e, hi, rfl, rfl, he, heD, HE, HJ, hB⟩ := hrel
    obtain ⟨v0, rfl⟩ : ∃ v0 : World, v0 = wr := ⟨_, rfl⟩
    by_cases hl : i < n
    · obtain ⟨b1, o1, rfl, hb1, hh⟩ := (HF.out.mono hB).at (by omega)
      obtain ⟨p1, p2⟩ := hh i hl
      obtain ⟨l1, l2, l3, l4, _⟩ := HL.out i hl
      have hdd := HD.out i hl
      obtain ⟨fn, hfn⟩ : ∃ z, (fr F i).n = z := ⟨_, rfl⟩
      obtain ⟨fd, hfd⟩ : ∃ z, (fr F i).d = z := ⟨_, rfl⟩
      rw [hfn] at p1 l3 l4
      rw [hfd] at p2 l1 l2 hdd
      have HFD := Lib.hid hfd
      obtain ⟨g1, g2, g3, g4, g5, g6, g7, g8⟩ := lcm_step he (show 0 < fd by omega) HE.out hdd hD
      have HG3 := Lib.hid g3
      have HG4 := Lib.hid (show ∀ j, j < i + 1 → (fr F j).d ∣ e.tdiv (Int.gcd e fd) * fd from fun j hj => by
        by_cases q : j = i
        · subst q; rw [HFD.out]; exact g5
        · exact Int.dvd_trans (HJ.out j (by omega)) g4)
      have HBB := Lib.hid (bal hB (.cells #[.int .i64 fn, .int .i64 fd] 53))
      have HBX := Lib.hid (new_at v0 (.cells #[.int .i64 fn, .int .i64 fd] 53))
      clear hh g3 g4 g5 hdd hfn hfd
      go_wp2
      go_quiet (fail)
      go_wp2
      go_loopw [8, 9] (fun u v wz => ∃ p q : Int, u = .int .i64 p ∧ v = .int .i64 q ∧ Hid (Int.gcd p q = Int.gcd e fd) ∧ (0 ≤ p ∧ p ≤ 4294967296) ∧ (0 ≤ q ∧ q ≤ 4294967296) ∧ Hid (Below (v0.alloc (.cells #[.int .i64 fn, .int .i64 fd] 53)).heap.size (v0.alloc (.cells #[.int .i64 fn, .int .i64 fd] 53)) wz)) (fun _ v _ => (intOf v).natAbs)
      case atStart => exact ⟨e, fd, rfl, rfl, Lib.hid rfl, by omega, by omega, Lib.hid (drewN_below (Below.refl _ _))⟩
      case round =>
        obtain ⟨p, q, rfl, rfl, HG2, hp, hq, HW⟩ := hrel
        by_cases h0 : q = 0
        · subst h0
          clear hq
          have hgp : p = (Int.gcd e fd : Int) := by have := HG2.out; rw [Int.gcd_zero_right] at this; omega
          rw [← hgp] at g1 g2 g6 g7 g8 HG3 HG4
          have hne : ¬ p = 0 := by omega
          have hbx := persist HBX.out HW.out
          have k1 : wr.cell? ⟨v0.heap.size, 1, none⟩ = some (.int .i64 fd) := by rw [cells_at hbx]; rfl
          have kz := lt_of_block hbx
          have HBN := Lib.hid (HBB.out.trans (HW.out.mono (by have := hB.size; simp; omega)))
          have hq1 : e / p = e.tdiv p := (Int.tdiv_eq_ediv_of_nonneg (by omega)).symm
          have hgt : ¬ 1000000000 < e.tdiv p * fd := by omega
          clear hgp hbx HG2
          generalize hqq : e.tdiv p = qt at *
          have HQQ := Lib.hid hqq
          clear hqq
          generalize hpr : qt * fd = pr at *
          have w1 : IntKind.i64.wrap pr = pr := wrap_i64j _ (by omega) (by omega)
          have w2 : IntKind.i64.wrap qt = qt := wrap_i64j _ (by omega) (by omega)
          go_wp2
          go_quiet (fail)
          go_wp2
          go_roundw
          case rel => go_light; exact ⟨i + 1, pr, by omega, by go_num, rfl, g1, g2, HG3, HG4, by first | exact HBN.out | exact drewN_below HBN.out⟩
          case measure => go_light; simp [intOf]; omega
        · have t1 : (q != 0) = true := by simpa using h0
          have hb := tmod_lt p q h0
          have hnn : 0 ≤ p.tmod q := Int.tmod_nonneg q hp.1
          have HG3' := Lib.hid (show Int.gcd q (p.tmod q) = Int.gcd e fd by rw [gcd_step]; exact HG2.out)
          have hmod : p % q = p.tmod q := (Int.tmod_eq_emod_of_nonneg hp.1).symm
          generalize p.tmod q = r at *
          go_wp2
          go_region
          go_wp2
          go_roundw
          case rel =>
            go_light
            exact ⟨q, r, rfl, by first | rfl | rw [hmod], HG3', hq, by omega, Lib.hid HW.out.drew⟩
          case measure => go_light; simp [intOf]; omega
    · obtain rfl : i = n := by omega
      have HWH := Lib.hid (wholeL_of (F := F) he HE.out (fun j hj => HJ.out j (by have := HN.out; omega)))
      have HJ2 := HJ
      clear HJ HE
      go_wp2
      go_loopw [10, 39] (fun v t wr => ∃ k : Nat, k ≤ i ∧ t = .int .i64 k ∧ wr.ownsRow w.heap.size 3 1 v k ((wholeL (F.take k) e).map (Value.int .i64)) ∧ Below w.heap.size w wr) (fun _ t _ => i - (intOf t).toNat)
      case atStart => exact ⟨0, by omega, rfl, World.ownsRow_nil _ _ _ _, hB⟩
      case round =>
        clear hB
        obtain ⟨k, hk, rfl, hown, hB⟩ := hrel
        by_cases hlk : k < i
        · obtain ⟨b1, o1, rfl, hb1, hh⟩ := (HF.out.mono hB).at (by omega)
          obtain ⟨p1, p2⟩ := hh k hlk
          obtain ⟨l1, l2, l3, l4, _⟩ := HL.out k hlk
          have HSN := Lib.hid (wholeL_snoc (F := F) (d := e) (k := k) (by have := HN.out; omega))
          clear hh
          generalize (fr F k).n = fn at *
          generalize (fr F k).d = fd at *
          obtain ⟨va, vc, rfl⟩ := own_form hown
          have hHO := Lib.hid hown
          have hq0 : 0 ≤ e.tdiv fd := Int.tdiv_nonneg (by omega) (by omega)
          have hq1 : e.tdiv fd ≤ e := by
            have : (e.tdiv fd).natAbs ≤ e.natAbs := by rw [Int.natAbs_tdiv]; exact Nat.div_le_self _ _
            omega
          have hq2 : e / fd = e.tdiv fd := (Int.tdiv_eq_ediv_of_nonneg (by omega)).symm
          have hne : ¬ fd = 0 := by omega
          have hm := mul_le3 (A := 4294967296) (B := 1000000000) l3 l4 (show -1000000000 ≤ e.tdiv fd by omega) (by omega) (by omega)
          generalize hqq : e.tdiv fd = qt at *
          generalize hpr : fn * qt = pr at *
          have w1 : IntKind.i64.wrap pr = pr := wrap_i64j _ (by omega) (by omega)
          have w2 : IntKind.i64.wrap qt = qt := wrap_i64j _ (by omega) (by omega)
          have hwz := hB.size
          have HBX := Lib.hid (new_at wr (.cells #[.int .i64 fn, .int .i64 fd] 53))
          have HNW := Lib.hid (show ((wr.alloc (.cells #[.int .i64 fn, .int .i64 fd] 53)).alloc (.cells #[.int .i64 pr] 3)).drew.heap[wr.heap.size + 1]? = some (.cells #[.int .i64 pr] 3 (0, 0)) by
            exact new_at2 wr _ _)
          have HSX := Lib.hid (fun (w' : World) (hg : ((wr.alloc (.cells #[.int .i64 fn, .int .i64 fd] 53)).alloc (.cells #[.int .i64 pr] 3)).drew.grownBy w' (Value.slice va k vc).ownBlock) =>
            (show w'.cell? ⟨wr.heap.size, 0, none⟩ = some (.int .i64 fn) ∧ w'.cell? ⟨wr.heap.size, 1, none⟩ = some (.int .i64 fd) from
              have q : w'.heap[wr.heap.size]? = some (.cells #[.int .i64 fn, .int .i64 fd] 53 (0, 0)) := (app_block (w0 := wr.alloc (.cells #[.int .i64 fn, .int .i64 fd] 53)) (o := .cells #[.int .i64 pr] 3) (Below.refl _ _) ⟨hg.os, hg.tape, hg.output, hg.size, hg.block⟩ wr.heap.size (by simp) (fun e => by have := (hHO.out.lt _ e).2; omega)).trans HBX.out
              ⟨by rw [cells_at q]; rfl, by rw [cells_at q]; rfl⟩))
          have hown2 := ((hown.alloc (.cells #[.int .i64 fn, .int .i64 fd] 53)).alloc (.cells #[.int .i64 pr] 3)).drew
          clear hown
          go_wp2
          go_region_held3 (fun w' => w'.cell? ⟨wr.heap.size, 0, none⟩ = some (.int .i64 fn) ∧ w'.cell? ⟨wr.heap.size, 1, none⟩ = some (.int .i64 fd)) (first | exact HSX.out _ hgrow | go_keep) ((refine step_app1 rfl _ _ 26 rfl Try.underlying26 infoInt rfl (by decide) w.heap.size (.slice va k vc) k _ rfl hown2 (wr.heap.size + 1) #[.int .i64 pr] rfl HNW.out rfl (by simp [Value.oneCell']) (by omega) (by omega) (by simp; omega) ?_; intro v' wn hown' hgrow; obtain ⟨wa, wc, rfl⟩ := own_form hown'))
          have HO2 := Lib.hid (show wn.ownsRow w.heap.size 3 1 (.slice wa (k + 1) wc) (k + 1) ((wholeL (F.take (k + 1)) e).map (Value.int .i64)) by rw [HSN.out, List.map_append]; exact hown')
          have HBN := Lib.hid ((bal (bal hB (.cells #[.int .i64 fn, .int .i64 fd] 53)) (.cells #[.int .i64 pr] 3)).drew.grown hgrow (by simp; omega) (fun j hj => (hHO.out.lt j hj).1))
          clear hown' hgrow hown2 hq2 hqq hpr
          go_wp2
          go_roundw
          case rel => go_light; exact ⟨k + 1, by omega, by go_num, HO2.out, HBN.out⟩
          case measure => go_light; simp [intOf]; omega
        · obtain rfl : k = i := by omega
          rw [List.take_of_length_le (by have := HN.out; omega)] at hown
          obtain ⟨va, vc, rfl⟩ := own_form hown
          have HO := Lib.hid (own_sl hown)
          clear hown
          go_wp2
          go_ret3
          exact ⟨_, _, _, _, _, rfl, HWH.out, HO.out, hB⟩
end Go.Proofs.Ytcmakddnjmeklaa
