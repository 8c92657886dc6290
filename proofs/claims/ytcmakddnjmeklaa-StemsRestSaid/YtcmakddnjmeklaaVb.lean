/- Chapter 9: the states that come again; isState, Reach. -/
import Derived.Test.YtcmakddnjmeklaaVa
namespace Go.Proofs.Ytcmakddnjmeklaa
open Go.RowKit
set_option linter.unusedSimpArgs false

theorem rch_16 {W : Wd} {p : List Int} {f : Nat} (h : isPlanB W p = true) (hf : f < W.acts.length) : rch W p f < 16 := by
  obtain ⟨_, _, _, ⟨_, hn4, _⟩, _⟩ := plan_parts h
  have h1 := rchN_lt (A := podds W p) hf
  have h2 := pow_16 hn4
  unfold rch
  omega
/-- What is reached from s reaches s. -/
def backB (W : Wd) (p : List Int) (s : Nat) : Nat → Bool
  | 0 => true
  | k + 1 => backB W p s k && (!(rch W p s).testBit k || (rch W p k).testBit s)
def agS (W : Wd) (p : List Int) (f : Nat) : Nat → Nat
  | 0 => 0
  | s + 1 => if (rch W p f).testBit s && backB W p s W.acts.length then agS W p f s ||| 2 ^ s else agS W p f s
def agSet (W : Wd) (p : List Int) (f : Nat) : Nat := agS W p f W.acts.length
def agOk (W : Wd) (p : List Int) (f : Nat) : Bool := (List.range W.acts.length).all fun s => !(agSet W p f).testBit s || rch W p s == agSet W p f
theorem agS_lt {W : Wd} {p : List Int} {f n : Nat} : ∀ s, s ≤ n → agS W p f s < 2 ^ n
  | 0, _ => Nat.pow_pos (by omega)
  | s + 1, h => by
    have ih := agS_lt (W := W) (p := p) (f := f) (n := n) s (by omega)
    show (if _ then _ else _) < _
    split
    · exact Nat.or_lt_two_pow ih (Nat.pow_lt_pow_right (by omega) (by omega))
    · exact ih
theorem agOk_no {W : Wd} {p : List Int} {f s : Nat} (hs : s < W.acts.length) (h1 : (agSet W p f).testBit s = true) (h2 : rch W p s ≠ agSet W p f) : agOk W p f = false := by
  unfold agOk
  rw [List.all_eq_false]
  refine ⟨s, List.mem_range.2 hs, ?_⟩
  rw [h1]
  simp [h2]
theorem agOk_yes {W : Wd} {p : List Int} {f : Nat} (h : ∀ s, s < W.acts.length → (agSet W p f).testBit s = true → rch W p s = agSet W p f) : agOk W p f = true := by
  unfold agOk
  rw [List.all_eq_true]
  intro s hs
  cases ht : (agSet W p f).testBit s with
  | false => rfl
  | true => simp [h s (List.mem_range.1 hs) ht]
def GivesAg (W : Wd) (p : List Int) (f : Nat) (w : World) (e : Ending) (w' : World) : Prop :=
  (if agOk W p f = true then e = .returned (.tuple #[.int .i64 (agSet W p f), .bool true]) else e = .returned (.tuple #[.int .i64 0, .bool false])) ∧ Below w.heap.size w w'
set_option maxRecDepth 100000 in
set_option maxHeartbeats 4000000 in
theorem again_go (w : World) (x y : Option Addr) (n c m d f : Nat) (W : Wd) (p : List Int) (hA : A2Sl w x n c W.acts) (hp : Sl w y m d p) (hok : isPlanB W p = true) (hf : f < n) :
    Calls Try.prog 86 #[wv W.a W.b x n c, .slice y m d, .int .i64 f] w (GivesAg W p f w) := by
  have hb0 := bal (Below.refl w.heap.size w) (.cells #[.int .i64 W.a, .int .i64 W.b, .slice x n c] 33)
  have HZ := Lib.hid (show BoxW (w.alloc (.cells #[.int .i64 W.a, .int .i64 W.b, .slice x n c] 33)) w.heap.size W.a W.b x n c from new_at w _)
  have HA := Lib.hid (hA.mono hb0)
  have HP := Lib.hid (hp.mono hb0)
  have HB0 := Lib.hid hb0
  have HOK := Lib.hid hok
  have HNA := Lib.hid hA.1
  obtain ⟨_, hpl, _, ⟨hn1, hn4, _⟩, _⟩ := plan_parts hok
  have hnA := hA.1
  have hmp := hp.len
  obtain rfl : m = n := by omega
  have hn4 : m ≤ 4 := by omega
  have HRL := Lib.hid (fun g (hg : g < m) => rch_16 (f := g) hok (by omega))
  have HAL := Lib.hid (fun s (hs : s ≤ m) => Nat.lt_of_lt_of_le (agS_lt (W := W) (p := p) (f := f) (n := m) s hs) (pow_16 hn4))
  clear hA hp hb0 hok hpl hnA hmp
  obtain ⟨z0, z1, z2, z3⟩ := HZ.out.cells
  go_enter Try.func86, Try.ntmps86
  go_wp2_with fail
  generalize w.alloc (.cells #[.int .i64 W.a, .int .i64 W.b, .slice x m c] 33) = V0 at *
  refine (reach_go _ x y m c m d f W p HA.out HP.out HOK.out hf).mono ?_
  rintro e w1 ⟨rfl, hb⟩
  have HB1 := Lib.hid hb
  have hrf := HRL.out f hf
  obtain ⟨RF, hRF⟩ : ∃ RF, rch W p f = RF := ⟨_, rfl⟩
  have HRF := Lib.hid hRF
  rw [hRF] at hrf ⊢
  clear hb hRF z0 z1 z2 z3
  go_wp2
  go_loopw [6, 19] (fun v t2 wr => ∃ s : Nat, s ≤ m ∧ t2 = .int .i64 s ∧ v = .int .i64 ((agS W p f s : Nat) : Int) ∧ Hid (Below V0.heap.size V0 wr)) (fun _ t2 _ => m - (intOf t2).toNat)
  case atStart => exact ⟨0, by omega, rfl, rfl, HB1⟩
  case round =>
    clear HB1
    obtain ⟨s, hs, rfl, rfl, HB⟩ := hrel
    by_cases hls : s < m
    · have HSN := Lib.hid (show agS W p f (s + 1) = if RF.testBit s && backB W p s m then agS W p f s ||| 2 ^ s else agS W p f s by
        show (if _ then _ else _) = _; rw [HRF.out, HNA.out])
      have hal := HAL.out s hs
      obtain ⟨X, hX⟩ : ∃ X, agS W p f s = X := ⟨_, rfl⟩
      rw [hX] at hal HSN ⊢
      clear hX
      have hb9 := bits_bt RF s (by omega)
      have hb0' := bt0 RF s
      have hs64 : s < 64 := by omega
      cases htb : RF.testBit s with
      | false =>
        have HN := Lib.hid (show agS W p f (s + 1) = X by rw [HSN.out, htb]; rfl)
        rw [htb] at hb0'
        go_wp2
        go_roundw
        case rel => go_light; exact ⟨s + 1, by omega, by go_num, by rw [HN.out], HB⟩
        case measure => simp [intOf]; omega
      | true =>
        rw [htb] at hb0' HSN
        go_wp2
        generalize wr = U at *
        have hrs := HRL.out s hls
        have HBS := Lib.hid (show ∀ k, backB W p s (k + 1) = (backB W p s k && (!(rch W p s).testBit k || (rch W p k).testBit s)) from fun k => rfl)
        obtain ⟨RS, hRS⟩ : ∃ RS, rch W p s = RS := ⟨_, rfl⟩
        have HRS := Lib.hid hRS
        rw [hRS] at hrs HBS
        clear hRS
        go_loopw [10, 29] (fun v t2 wr => ∃ k : Nat, k ≤ m ∧ t2 = .int .i64 k ∧ v = .bool (backB W p s k) ∧ Hid (Below V0.heap.size V0 wr)) (fun _ t2 _ => m - (intOf t2).toNat)
        case atStart => exact ⟨0, by omega, rfl, rfl, HB⟩
        case round =>
          clear HB
          obtain ⟨k, hk, rfl, rfl, HB⟩ := hrel
          by_cases hlk : k < m
          · have HBK := Lib.hid (HBS.out k)
            have hrk := HRL.out k hlk
            have hk64 : k < 64 := by omega
            have hq1 := bits_bt RS k (by omega)
            have hq0 := bt0 RS k
            obtain ⟨z0, z1, z2, z3⟩ := BoxW.cells (persist HZ.out HB.out)
            cases hbk : backB W p s k with
            | false =>
              have HN := Lib.hid (show backB W p s (k + 1) = false by rw [HBK.out, hbk]; rfl)
              go_wp2
              go_roundw
              case rel => go_light; exact ⟨k + 1, by omega, by go_num, by rw [HN.out], HB⟩
              case measure => simp [intOf]; omega
            | true =>
              rw [hbk] at HBK
              go_wp2_with fail
              refine (reach_go _ x y m c m d s W p (HA.out.mono HB.out) (HP.out.mono HB.out) HOK.out hls).mono ?_
              rintro e w2 ⟨rfl, hb⟩
              rw [HRS.out]
              have HB2 := Lib.hid (btr HB.out hb)
              clear hb z0 z1 z2 z3
              obtain ⟨z0, z1, z2, z3⟩ := BoxW.cells (persist HZ.out HB2.out)
              cases htk : RS.testBit k with
              | false =>
                have HN := Lib.hid (show backB W p s (k + 1) = true by rw [HBK.out, htk]; rfl)
                rw [htk] at hq0
                go_wp2
                go_roundw
                case rel => go_light; exact ⟨k + 1, by omega, by go_num, by rw [HN.out], HB2⟩
                case measure => simp [intOf]; omega
              | true =>
                rw [htk] at hq0 HBK
                go_wp2_with fail
                refine (reach_go _ x y m c m d k W p (HA.out.mono HB2.out) (HP.out.mono HB2.out) HOK.out hlk).mono ?_
                rintro e w3 ⟨rfl, hb⟩
                have HB3 := Lib.hid (btr HB2.out hb)
                have hv1 := bits_bt (rch W p k) s (by omega)
                have hv2 := bt1 (rch W p k) s
                have HN := Lib.hid (show backB W p s (k + 1) = (rch W p k).testBit s by rw [HBK.out]; simp)
                clear hb z0 z1 z2 z3
                generalize rch W p k = RK at *
                obtain ⟨tb, htb⟩ : ∃ tb, RK.testBit s = tb := ⟨_, rfl⟩
                rw [htb] at hv2 HN
                go_wp2
                go_roundw
                case rel => go_light; exact ⟨k + 1, by omega, by go_num, by rw [HN.out], HB3⟩
                case measure => simp [intOf]; omega
          · obtain rfl : k = m := by omega
            have hw9 := wrap_2k (k := s) (by omega)
            have ho9 := or_2k (x := X) (k := s) (by omega) (by omega)
            cases hbk : backB W p s k with
            | false =>
              have HN := Lib.hid (show agS W p f (s + 1) = X by rw [HSN.out, hbk]; rfl)
              go_wp2
              go_roundw
              case rel => go_light; exact ⟨s + 1, by omega, by go_num, by rw [HN.out], HB⟩
              case measure => simp [intOf]; omega
            | true =>
              have HN := Lib.hid (show agS W p f (s + 1) = X ||| 2 ^ s by rw [HSN.out, hbk]; rfl)
              go_wp2
              go_roundw
              case rel => go_light; exact ⟨s + 1, by omega, by go_num, by rw [HN.out], HB⟩
              case measure => simp [intOf]; omega
    · obtain rfl : s = m := by omega
      have HSE := Lib.hid (show agS W p f s = agSet W p f by unfold agSet; rw [HNA.out])
      have hal := HAL.out s (Nat.le_refl _)
      rw [HSE.out] at hal ⊢
      obtain ⟨X, hX⟩ : ∃ X, agSet W p f = X := ⟨_, rfl⟩
      have HX := Lib.hid hX
      rw [hX] at hal ⊢
      clear hX
      go_wp2
      generalize wr = U at *
      go_loopw [6, 62] (fun v t2 wr => ∃ k : Nat, k ≤ s ∧ t2 = .int .i64 k ∧ v = .int .i64 (X : Int) ∧ Hid (∀ j, j < k → X.testBit j = true → rch W p j = X) ∧ Hid (Below V0.heap.size V0 wr)) (fun _ t2 _ => s - (intOf t2).toNat)
      case atStart => exact ⟨0, by omega, rfl, rfl, Lib.hid (fun j hj => by omega), HB⟩
      case round =>
        clear HB
        obtain ⟨k, hk, rfl, rfl, HR, HB⟩ := hrel
        by_cases hlk : k < s
        · have hkA : k < W.acts.length := by rw [HNA.out]; exact hlk
          have hrk := HRL.out k hlk
          have hk64 : k < 64 := by omega
          have hq1 := bits_bt X k (by omega)
          have hq0 := bt1 X k
          obtain ⟨z0, z1, z2, z3⟩ := BoxW.cells (persist HZ.out HB.out)
          cases htk : X.testBit k with
          | false =>
            rw [htk] at hq0
            have HR2 := Lib.hid (show ∀ j, j < k + 1 → X.testBit j = true → rch W p j = X from fun j hj ht => by
              by_cases e : j = k
              · subst e; rw [htk] at ht; cases ht
              · exact HR.out j (by omega) ht)
            go_wp2
            go_roundw
            case rel => go_light; exact ⟨k + 1, by omega, by go_num, rfl, HR2, HB⟩
            case measure => simp [intOf]; omega
          | true =>
            rw [htk] at hq0
            have HTK := Lib.hid htk
            go_wp2_with fail
            refine (reach_go _ x y s c s d k W p (HA.out.mono HB.out) (HP.out.mono HB.out) HOK.out hlk).mono ?_
            rintro e w2 ⟨rfl, hb⟩
            have HB2 := Lib.hid (btr HB.out hb)
            clear hb z0 z1 z2 z3
            by_cases he : rch W p k = X
            · have HR2 := Lib.hid (show ∀ j, j < k + 1 → X.testBit j = true → rch W p j = X from fun j hj ht => by
                by_cases e : j = k
                · subst e; exact he
                · exact HR.out j (by omega) ht)
              rw [he]
              go_wp2
              go_roundw
              case rel => go_light; exact ⟨k + 1, by omega, by go_num, rfl, HR2, HB2⟩
              case measure => simp [intOf]; omega
            · have HNO := Lib.hid (agOk_no (f := f) hkA (by rw [HX.out]; exact htk) (by rw [HX.out]; exact he))
              have hne : (((rch W p k : Nat) : Int) != (X : Int)) = true := by rw [bne_iff_ne]; omega
              generalize rch W p k = RK at *
              clear he
              go_wp2
              go_ret2
              refine ⟨?_, btr HB0.out HB2.out⟩
              rw [HNO.out]; rfl
        · obtain rfl : k = s := by omega
          have HYES := Lib.hid (agOk_yes (W := W) (p := p) (f := f) fun j hj ht => by
            rw [HX.out] at ht ⊢
            exact HR.out j (by have := HNA.out; omega) ht)
          go_wp2
          go_ret2
          refine ⟨?_, btr HB0.out HB.out⟩
          rw [HYES.out, HX.out]; rfl
end Go.Proofs.Ytcmakddnjmeklaa
