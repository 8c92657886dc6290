/- Walks: signs: Double, normal, Design. -/
import Derived.Test.YtiapngmallfelaaFng
namespace Go.Proofs.Ytiapngmallfelaa
open Go.RowKit
open Go.Maps
set_option linter.unusedSimpArgs false

theorem scount_go (w : World) (x : Nat) (h : x < 65536) :
    Calls Try.prog 43 #[.int .i64 x] w fun e w' => e = .returned (.int .i64 (pop x)) ∧ w = w' := by
  have hw := wrapu x h
  go_enter Try.func43, Try.ntmps43
  go_wp2_with (go_at_call 68; refine (ones_go _ _ h).mono ?_; rintro e w' ⟨rfl, rfl⟩)
  go_ret
  exact ⟨rfl, rfl⟩

set_option maxHeartbeats 1000000 in
theorem balanced_go (w : World) (a : Option Addr) (n cap : Nat) (h : List Nat) (hs : Sl w a n cap (ints h)) (h1 : 1 ≤ n) (hn : n ≤ 16) (hh : ∀ x ∈ h, x < 65536) (hb : ∀ i j, i < n → j < i → 2 * pop (gn h i ^^^ gn h j) = n) :
    Calls Try.prog 40 #[.slice a n cap] w fun e w' => e = .returned (.bool true) ∧ Below w.heap.size w w' := by
  rcases hs.parts with ⟨_, h0, _⟩ | ⟨b, off, rfl, hs2⟩
  · omega
  obtain ⟨hbz, hcell⟩ := hs2.icells h1
  have hcap : n ≤ cap := hs2.2.1
  have hcm : cap ≤ maxLen := hs2.2.2.1
  unfold maxLen at hcm
  have hlt := gn_lt hh (show 0 < 65536 by omega)
  have HC := Lib.hid hcell
  have HB := Lib.hid hb
  clear hs hs2 hcell hb
  go_enter Try.func40, Try.ntmps40
  go_wp2
  go_loopw [9] (fun t wr => ∃ i : Nat, i ≤ n ∧ t = .int .i64 i ∧ Below w.heap.size w wr) (fun t _ => n - (intOf t).toNat)
  case atStart => exact ⟨0, by omega, rfl, Below.refl _ _⟩
  case round =>
    obtain ⟨i, hi, rfl, hD⟩ := hrel
    by_cases hli : i < n
    · have hci : wr.cell? ⟨b, off + i, none⟩ = some (.int .i64 (gn h i)) := (hD.cell (p := ⟨b, off + i, none⟩) hbz).trans (HC.out i hli)
      have hz2 := Nat.lt_of_lt_of_le hbz hD.size
      have hxi := hlt i
      go_wp2
      obtain ⟨wz, rfl⟩ : ∃ wz : World, wz = wr := ⟨_, rfl⟩
      have HD := Lib.hid hD
      clear hD hci hz2
      go_loopw [18] (fun t wr => ∃ j : Nat, j ≤ i ∧ t = .int .i64 j ∧ Below w.heap.size w wr) (fun t _ => i - (intOf t).toNat)
      case atStart => exact ⟨0, by omega, rfl, HD.out⟩
      case round =>
        obtain ⟨j, hj, rfl, hD⟩ := hrel
        by_cases hlj : j < i
        · have hcj : wr.cell? ⟨b, off + j, none⟩ = some (.int .i64 (gn h j)) := (hD.cell (p := ⟨b, off + j, none⟩) hbz).trans (HC.out j (by omega))
          have hz2 := Nat.lt_of_lt_of_le hbz hD.size
          have hxj := hlt j
          have hx := i64_xor_nat (gn h i) (gn h j) (by omega) (by omega)
          have hxl : gn h i ^^^ gn h j < 65536 := Nat.xor_lt_two_pow (n := 16) hxi hxj
          have hq := HB.out i j hli hlj
          have hp2 : (2 : Int) * (pop (gn h i ^^^ gn h j) : Int) = (n : Int) := by omega
          have HP2 := Lib.hid hp2
          have t1 : ((2 : Int) * (pop (gn h i ^^^ gn h j) : Int) != (n : Int)) = false := by simp; omega
          have hpl : pop (gn h i ^^^ gn h j) ≤ 16 := by omega
          clear hp2 hq
          generalize gn h i ^^^ gn h j = x at *
          go_wp2_with fail
          refine (scount_go _ x hxl).mono ?_
          rintro e w2 ⟨rfl, rfl⟩
          go_wp2
          go_roundw
          case rel => exact ⟨j + 1, by omega, by go_num, hD⟩
          case measure => simp [intOf]; omega
        · obtain rfl : j = i := by omega
          go_wp2
          go_roundw
          case rel => exact ⟨j + 1, by omega, by go_num, hD⟩
          case measure => simp [intOf]; omega
    · obtain rfl : i = n := by omega
      go_wp2
      go_ret
      exact ⟨rfl, hD⟩


def dblN (i j : Nat) : Bool := pop (i &&& j) % 2 == 1
theorem dbl1_go (w : World) (i j : Nat) (hi : i < 16) (hj : j < 16) :
    Calls Try.prog 42 #[.int .i64 i, .int .i64 j] w fun e w' => e = .returned (.bool (dblN i j)) ∧ Below w.heap.size w w' := by
  have hx := i64_and_nat i j (by omega) (by omega)
  have hl : i &&& j < 65536 := Nat.lt_of_le_of_lt Nat.and_le_left (by omega)
  have HF := Lib.hid (show dblN i j = (pop (i &&& j) % 2 == 1) from rfl)
  generalize i &&& j = x at *
  obtain ⟨q, hq⟩ : ∃ q, pop x = q := ⟨_, rfl⟩
  have HQ := Lib.hid (scount_go w x hl)
  rw [hq] at HF HQ
  have hm : ((q : Int) % 2 == 1) = (q % 2 == 1) := by
    have : q % 2 = 0 ∨ q % 2 = 1 := by omega
    rcases this with h | h
    · rw [h, show (q : Int) % 2 = 0 by omega]; rfl
    · rw [h, show (q : Int) % 2 = 1 by omega]; rfl
  have hm2 : ((q : Int).tmod 2 == 1) = (q % 2 == 1) := by rw [Int.tmod_eq_emod_of_nonneg (by omega)]; exact hm
  clear hq
  go_enter Try.func42, Try.ntmps42
  go_wp2_with fail
  refine HQ.out.mono ?_
  rintro e w' ⟨rfl, rfl⟩
  go_wp2
  go_ret
  exact ⟨by rw [HF.out]; first | rfl | (rw [← hm]; rfl) | (rw [← hm2]; rfl), Below.refl _ _⟩
theorem cf_dbl1 (args : Array Value) (w : World) : (callFunc 42 args).run Try.prog w = .ok (.enter 42 args) w := by kernel_rfl
theorem double3_go (w : World) : Calls Try.prog 15 #[.int .i64 3] w (GivesSlE w (ints (mdL 8 dblN)) 0) := by
  go_enter Try.func15, Try.ntmps15
  go_wp2_with fail
  refine (smade_go w 8 (by omega) 42 #[] dblN cf_dbl1 (fun w' i j _ hi hj => dbl1_go w' i j (by omega) (by omega))).mono ?_
  rintro e w3 ⟨a3, n3, p3, rfl, ho3, hb3⟩
  go_wp2
  go_ret2
  exact ⟨a3, n3, p3, rfl, ho3, hb3⟩
theorem double1_go (w : World) : Calls Try.prog 15 #[.int .i64 1] w (GivesSlE w (ints (mdL 2 dblN)) 0) := by
  go_enter Try.func15, Try.ntmps15
  go_wp2_with fail
  refine (smade_go w 2 (by omega) 42 #[] dblN cf_dbl1 (fun w' i j _ hi hj => dbl1_go w' i j (by omega) (by omega))).mono ?_
  rintro e w3 ⟨a3, n3, p3, rfl, ho3, hb3⟩
  go_wp2
  go_ret2
  exact ⟨a3, n3, p3, rfl, ho3, hb3⟩
theorem sgall_go (w : World) (a : Option Addr) (cap : Nat) : Calls Try.prog 46 #[.slice a 8 cap] w fun e w' => e = .returned (.int .i64 255) ∧ w = w' := by
  go_enter Try.func46, Try.ntmps46
  go_wp2
  go_ret
  exact ⟨rfl, rfl⟩
theorem own_base {w : World} {base base' e size n : Nat} {v : Value} {xs : List Value} (h : w.ownsRow base e size v n xs) (hb : base' ≤ base) : w.ownsRow base' e size v n xs := by
  obtain ⟨h1, h2⟩ := h
  refine ⟨h1, ?_⟩
  rcases h2 with h2 | ⟨g, c, cur, e1, e2, r⟩
  · exact .inl h2
  · exact .inr ⟨g, c, cur, e1, Nat.le_trans hb e2, r⟩
/-! ### normal -/
def nrm (x : Nat) : Nat := if x % 2 = 1 then x ^^^ 255 else x
def nrmL (h : List Nat) : List Nat := h.map fun r => nrm (r ^^^ gn h 0)
theorem nrmL_snoc {h : List Nat} {i : Nat} (hi : i < h.length) : (nrmL h).take (i + 1) = (nrmL h).take i ++ [nrm (gn h i ^^^ gn h 0)] := by
  rw [List.take_succ_eq_append_getElem (by simpa [nrmL] using hi)]
  simp [nrmL, gn, hi]
theorem ints_app (A B : List Nat) : ints (A ++ B) = ints A ++ ints B := by simp [ints]
theorem and1 (x : Nat) (h : x < 65536) : bits .and .i64 (x : Int) 1 = ((x % 2 : Nat) : Int) := by
  have := i64_and_nat x 1 (by omega) (by omega)
  rw [Nat.and_one_is_mod] at this
  exact this
set_option maxHeartbeats 1000000 in
theorem normal_go (w : World) (a : Option Addr) (cap : Nat) (h : List Nat) (hs : Sl w a 8 cap (ints h)) (hh : ∀ x ∈ h, x < 256) :
    Calls Try.prog 45 #[.slice a 8 cap] w (GivesSl w (ints (nrmL h))) := by
  have hlen : h.length = 8 := by have := hs.len; rwa [ints_length] at this
  rcases hs.parts with ⟨_, h0, _⟩ | ⟨b, off, rfl, hs2⟩
  · omega
  obtain ⟨hb, hc⟩ := hs2.icells (by omega)
  have hcap := hs.2.1
  have hcm := hs.2.2.1
  unfold maxLen at hcm
  have hlt := gn_lt hh (by omega)
  have HC := Lib.hid hc
  have HL := Lib.hid hlt
  have HLN := Lib.hid hlen
  clear hs hs2 hc hlt hlen hh
  have hc0 := HC.out 0 (by omega)
  have hl0 := HL.out 0
  go_enter Try.func45, Try.ntmps45
  go_wp2
  go_loopw [3, 8] (fun v t wr => ∃ i : Nat, i ≤ 8 ∧ t = .int .i64 i ∧ Hid (wr.ownsRow w.heap.size 3 1 v i ((ints ((nrmL h).take i)).map (Value.int .i64))) ∧ Hid (Below w.heap.size w wr)) (fun _ t _ => 8 - (intOf t).toNat)
  case atStart => exact ⟨0, by omega, rfl, Lib.hid (World.ownsRow_nil _ _ _ _), Lib.hid (Below.refl _ _)⟩
  case round =>
    obtain ⟨i, hi, rfl, HO, HB⟩ := hrel
    obtain ⟨va, vc, rfl⟩ := own_form HO.out
    by_cases hli : i < 8
    · have e0 : wr.cell? ⟨b, off, none⟩ = some (.int .i64 (gn h 0)) := (HB.out.cell (p := ⟨b, off, none⟩) hb).trans hc0
      have e1 : wr.cell? ⟨b, off + i, none⟩ = some (.int .i64 (gn h i)) := (HB.out.cell (p := ⟨b, off + i, none⟩) hb).trans (HC.out i hli)
      have hbz := Nat.lt_of_lt_of_le hb HB.out.size
      have hli2 := HL.out i
      have hx := i64_xor_nat (gn h i) (gn h 0) (by omega) (by omega)
      have hxl : gn h i ^^^ gn h 0 < 256 := Nat.xor_lt_two_pow (n := 8) hli2 hl0
      have HF := Lib.hid (nrmL_snoc (h := h) (i := i) (by rw [HLN.out]; exact hli))
      have hz := HB.out.size
      generalize gn h i ^^^ gn h 0 = x at *
      have h1 := and1 x (by omega)
      have hy := i64_xor_nat x 255 (by omega) (by omega)
      have hown := HO.out
      by_cases hodd : x % 2 = 1
      · have HN := Lib.hid (show nrm x = x ^^^ 255 by unfold nrm; rw [if_pos hodd])
        have hxl2 : x ^^^ 255 < 256 := Nat.xor_lt_two_pow (n := 8) hxl (by omega)
        rw [HN.out] at HF
        rw [hodd] at h1
        have hy' : bits .xor .i64 (x : Int) 255 = ((x ^^^ 255 : Nat) : Int) := hy
        generalize x ^^^ 255 = y at *
        clear hy hodd
        go_wp2_with fail
        refine (sgall_go wr _ cap).mono ?_
        rintro e w' ⟨rfl, rfl⟩
        go_wp2_with (at_builtin; refine wpList_app1 rfl _ _ 54 rfl Try.underlying54 infoInt rfl (by decide) w.heap.size (.slice va i vc) i _ rfl (hown.alloc _) wr.heap.size #[.int .i64 (y : Int)] rfl (new_at _ _) rfl (by simp [Value.oneCell']) (by omega) (by omega) (by simp; omega) ?_; intro v' wn hown' hgrow; obtain ⟨wa, wc, rfl⟩ := own_form hown')
        have HO2 := Lib.hid (show wn.ownsRow w.heap.size 3 1 (.slice wa (i + 1) wc) (i + 1) ((ints ((nrmL h).take (i + 1))).map (Value.int .i64)) by rw [HF.out, ints_app, List.map_append]; exact hown')
        have HBN := Lib.hid ((bal HB.out (.cells #[.int .i64 (y : Int)] 3)).grown hgrow (by simp; omega) (fun j hj => (hown.lt j hj).1))
        clear hown hown' hgrow e0 e1
        go_wp2
        go_roundw
        case rel => go_light; exact ⟨i + 1, by omega, by go_num, HO2, HBN⟩
        case measure => simp [intOf]; omega
      · have HN := Lib.hid (show nrm x = x by unfold nrm; rw [if_neg hodd])
        rw [HN.out] at HF
        have h0 : x % 2 = 0 := by omega
        rw [h0] at h1
        clear hy hodd h0
        go_wp2_with (at_builtin; refine wpList_app1 rfl _ _ 54 rfl Try.underlying54 infoInt rfl (by decide) w.heap.size (.slice va i vc) i _ rfl (hown.alloc _) wr.heap.size #[.int .i64 (x : Int)] rfl (new_at _ _) rfl (by simp [Value.oneCell']) (by omega) (by omega) (by simp; omega) ?_; intro v' wn hown' hgrow; obtain ⟨wa, wc, rfl⟩ := own_form hown')
        have HO2 := Lib.hid (show wn.ownsRow w.heap.size 3 1 (.slice wa (i + 1) wc) (i + 1) ((ints ((nrmL h).take (i + 1))).map (Value.int .i64)) by rw [HF.out, ints_app, List.map_append]; exact hown')
        have HBN := Lib.hid ((bal HB.out (.cells #[.int .i64 (x : Int)] 3)).grown hgrow (by simp; omega) (fun j hj => (hown.lt j hj).1))
        clear hown hown' hgrow e0 e1
        go_wp2
        go_roundw
        case rel => go_light; exact ⟨i + 1, by omega, by go_num, HO2, HBN⟩
        case measure => simp [intOf]; omega
    · obtain rfl : i = 8 := by omega
      have hO := HO.out
      rw [List.take_of_length_le (by simp [nrmL, HLN.out])] at hO
      have HO2 := Lib.hid hO
      clear hO
      go_wp2
      go_ret
      exact own_gives HO2.out HB.out
/-! ### Design -/
def desL (h : List Nat) : List Nat := (nrmL h).tail.map fun r => andn 255 r / 2
theorem desL_snoc {h : List Nat} {i : Nat} (hl : h.length = 8) (hi : i < 7) : (desL h).take (i + 1) = (desL h).take i ++ [andn 255 (gn (nrmL h) (i + 1)) / 2] :=
  match h, hl, i, hi with
  | [_, _, _, _, _, _, _, _], _, 0, _ => rfl
  | [_, _, _, _, _, _, _, _], _, 1, _ => rfl
  | [_, _, _, _, _, _, _, _], _, 2, _ => rfl
  | [_, _, _, _, _, _, _, _], _, 3, _ => rfl
  | [_, _, _, _, _, _, _, _], _, 4, _ => rfl
  | [_, _, _, _, _, _, _, _], _, 5, _ => rfl
  | [_, _, _, _, _, _, _, _], _, 6, _ => rfl
theorem nrm_lt {x : Nat} (h : x < 256) : nrm x < 256 := by
  unfold nrm
  split
  · exact Nat.xor_lt_two_pow (n := 8) h (by omega)
  · exact h
set_option maxHeartbeats 2000000 in
theorem design_go (w : World) (a : Option Addr) (cap : Nat) (h : List Nat) (hs : Sl w a 8 cap (ints h)) (hh : ∀ x ∈ h, x < 256) (hb : ∀ i j, i < 8 → j < i → 2 * pop (gn h i ^^^ gn h j) = 8) :
    Calls Try.prog 17 #[.slice a 8 cap] w (GivesSlE w (ints (desL h)) 0) := by
  have hlen : h.length = 8 := by have := hs.len; rwa [ints_length] at this
  have HLN := Lib.hid hlen
  have hlt := gn_lt hh (by omega)
  have HV := Lib.hid (fun (w' : World) (hb : Below w.heap.size w w') => sgvalid_go w' a 8 cap h 16 (hs.mono hb) (by omega) (by omega) (by omega) (fun i _ => hlt i))
  have HBA := Lib.hid (fun (w' : World) (hb' : Below w.heap.size w w') => balanced_go w' a 8 cap h (hs.mono hb') (by omega) (by omega) (fun x hx => by have := hh x hx; omega) hb)
  have HNO := Lib.hid (fun (w' : World) (hb : Below w.heap.size w w') => normal_go w' a cap h (hs.mono hb) hh)
  have HNL := Lib.hid (show ∀ i, i < 8 → gn (nrmL h) i < 256 from fun i hi => by
    have : gn (nrmL h) i = nrm (gn h i ^^^ gn h 0) := by simp [nrmL, gn, hlen, hi]
    rw [this]
    exact nrm_lt (Nat.xor_lt_two_pow (n := 8) (hlt i) (hlt 0)))
  have HNN := Lib.hid (show (nrmL h).length = 8 by simp [nrmL, hlen])
  clear hs hh hb hlen hlt
  go_enter Try.func17, Try.ntmps17
  go_wp2_with fail
  refine (HV.out w (Below.refl _ _)).mono ?_
  rintro e w1 ⟨rfl, hb1⟩
  have HB1 := Lib.hid hb1
  clear hb1
  go_wp2_with fail
  refine (HBA.out w1 HB1.out).mono ?_
  rintro e w2 ⟨rfl, hb2⟩
  have HB2 := Lib.hid (btr HB1.out hb2)
  clear hb2
  go_wp2_with fail
  refine (HNO.out w2 HB2.out).mono ?_
  rintro e w3 ⟨a3, n3, c3, rfl, ho3, hb3⟩
  have HB3 := Lib.hid (btr HB2.out hb3)
  have hsl := own_sl ho3
  have hn3 : n3 = 8 := by have := hsl.len; rw [ints_length, HNN.out] at this; exact this.symm
  subst hn3
  obtain ⟨g, off, rfl, hg, hc, hcap⟩ := sl_at hsl (by omega)
  have HC := Lib.hid hc
  unfold maxLen at hcap
  clear ho3 hb3 hsl hc
  go_wp2
  go_loopw [5, 26] (fun v t wr => ∃ i : Nat, i ≤ 7 ∧ t = .int .i64 i ∧ Hid (wr.ownsRow w3.heap.size 3 1 v i ((ints ((desL h).take i)).map (Value.int .i64))) ∧ Hid (Below w3.heap.size w3 wr)) (fun _ t _ => 7 - (intOf t).toNat)
  case atStart => exact ⟨0, by omega, rfl, Lib.hid (World.ownsRow_nil _ _ _ _), Lib.hid (Below.refl _ _)⟩
  case round =>
    obtain ⟨i, hi, rfl, HO, HB⟩ := hrel
    obtain ⟨va, vc, rfl⟩ := own_form HO.out
    by_cases hli : i < 7
    · have e1 : wr.cell? ⟨g, off + (i + 1), none⟩ = some (.int .i64 ((gn (nrmL h) (i + 1) : Nat) : Int)) := by
        have h1 := (HB.out.cell (p := ⟨g, off + (i + 1), none⟩) hg).trans (HC.out (i + 1) (by omega))
        rwa [nth_ints] at h1
      rw [show off + (i + 1) = off + 1 + i by omega] at e1
      have hgz := Nat.lt_of_lt_of_le hg HB.out.size
      have hx := HNL.out (i + 1) (by omega)
      have HF := Lib.hid (desL_snoc (h := h) (i := i) HLN.out hli)
      generalize gn (nrmL h) (i + 1) = x at *
      have ha := i64_andNot_nat 255 x (by omega) (by omega)
      have ha' : bits .andNot .i64 255 (x : Int) = ((andn 255 x : Nat) : Int) := ha
      have hal : andn 255 x < 256 := andn_lt (n := 8) (by omega)
      have hown := HO.out
      obtain ⟨y, hy⟩ : ∃ y, andn 255 x = y := ⟨_, rfl⟩
      rw [hy] at ha' hal HF
      obtain ⟨z, hz⟩ : ∃ z, y / 2 = z := ⟨_, rfl⟩
      rw [hz] at HF
      have hd : (y : Int) / 2 = (z : Int) := by omega
      have hd1 : (y : Int) / 2 ^ 1 = (z : Int) := by omega
      have hzs := HB.out.size
      clear ha hy hz
      go_wp2_with fail
      refine (sgall_go wr _ cap).mono ?_
      rintro e w' ⟨rfl, rfl⟩
      go_wp2_with (at_builtin; refine wpList_app1 rfl _ _ 22 rfl Try.underlying22 infoInt rfl (by decide) w3.heap.size (.slice va i vc) i _ rfl (hown.alloc _) wr.heap.size #[.int .i64 (z : Int)] rfl (new_at _ _) rfl (by simp [Value.oneCell']) (by omega) (by omega) (by simp; omega) ?_; intro v' wn hown' hgrow; obtain ⟨wa, wc, rfl⟩ := own_form hown')
      have HO2 := Lib.hid (show wn.ownsRow w3.heap.size 3 1 (.slice wa (i + 1) wc) (i + 1) ((ints ((desL h).take (i + 1))).map (Value.int .i64)) by rw [HF.out, ints_app, List.map_append]; exact hown')
      have HBN := Lib.hid ((bal HB.out (.cells #[.int .i64 (z : Int)] 3)).grown hgrow (by simp; omega) (fun j hj => (hown.lt j hj).1))
      clear hown hown' hgrow e1
      go_wp2
      go_roundw
      case rel => go_light; exact ⟨i + 1, by omega, by go_num, HO2, HBN⟩
      case measure => simp [intOf]; omega
    · obtain rfl : i = 7 := by omega
      have hO := HO.out
      rw [List.take_of_length_le (by simp [desL, HNN.out])] at hO
      have HO2 := Lib.hid (own_base hO HB3.out.size)
      clear hO
      go_wp2
      go_ret2
      exact own_givesE HO2.out (btr HB3.out HB.out)
end Go.Proofs.Ytiapngmallfelaa
