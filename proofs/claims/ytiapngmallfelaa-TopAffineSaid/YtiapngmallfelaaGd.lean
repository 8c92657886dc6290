/- Walks: slices.Contains; caps: sets. -/
import Derived.Test.YtiapngmallfelaaGc
namespace Go.Proofs.Ytiapngmallfelaa
open Go.RowKit
set_option linter.unusedSimpArgs false
set_option maxHeartbeats 1000000 in
theorem cindex_go (w : World) (a : Option Addr) (n cap : Nat) (l : List Int) (x : Int) (hs : Sl w a n cap l) :
    Calls Try.prog 83 #[.slice a n cap, .int .i64 x] w fun e w' => (∃ i : Int, e = .returned (.int .i64 i) ∧ decide (0 ≤ i) = decide (x ∈ l)) ∧ w = w' := by
  have hlen := hs.len
  have hcap : n ≤ cap ∧ cap ≤ maxLen := ⟨hs.2.1, hs.2.2.1⟩
  unfold maxLen at hcap
  have HS := Lib.hid hs
  have HL := Lib.hid hlen
  clear hs hlen
  go_enter Try.func83, Try.ntmps83
  go_wp2
  go_loopw [8] (fun v wr => ∃ j : Nat, j ≤ n ∧ v = .int .i64 j ∧ Hid (∀ i, i < j → x ≠ nth l i) ∧ w = wr) (fun v _ => n - (intOf v).toNat)
  case atStart => exact ⟨0, by omega, rfl, Lib.hid (fun i hi => by omega), rfl⟩
  case round =>
    obtain ⟨j, hj, rfl, HI, rfl⟩ := hrel
    by_cases hjn : j < n
    · obtain ⟨b, off, rfl, hbl, hc, _⟩ := sl_at HS.out (by omega)
      have e1 := hc j hjn
      have HX := Lib.hid (show nth l j ∈ l by rw [nth_of_lt (by rw [HL.out]; exact hjn)]; exact List.getElem_mem _)
      obtain ⟨z, hz⟩ : ∃ z, nth l j = z := ⟨_, rfl⟩
      have HZ := Lib.hid hz
      rw [hz] at e1 HX
      clear hc hz
      by_cases hxz : x = z
      · have HN := Lib.hid (show decide (x ∈ l) = true by rw [hxz]; simpa using HX.out)
        have hx : (x == z) = true := by simpa using hxz
        clear hxz
        go_wp2
        go_ret
        exact ⟨⟨_, rfl, by rw [HN.out]; simp⟩, rfl⟩
      · have hx : (x == z) = false := by simpa using hxz
        have HI2 := Lib.hid (show ∀ i, i < j + 1 → x ≠ nth l i from fun i hi => by
          by_cases e : i = j
          · subst e; rw [HZ.out]; exact hxz
          · exact HI.out i (by omega))
        clear hxz
        go_wp2
        go_roundw
        case rel => go_light; first | exact ⟨j + 1, by omega, by go_num, HI2, by trivial⟩ | exact ⟨j + 1, by omega, by go_num, HI2⟩
        case measure => simp [intOf]; omega
    · obtain rfl : j = n := by omega
      have HN := Lib.hid (show decide (x ∈ l) = false by
        rw [decide_eq_false_iff_not]
        intro hx
        obtain ⟨i, hi, he⟩ := List.getElem_of_mem hx
        exact HI.out i (by rw [← HL.out]; exact hi) (by rw [nth_of_lt hi]; exact he.symm))
      go_wp2
      go_ret
      exact ⟨⟨_, rfl, by rw [HN.out]; decide⟩, rfl⟩
set_option maxHeartbeats 1000000 in
theorem contains_go (w : World) (a : Option Addr) (n cap : Nat) (l : List Int) (x : Int) (hs : Sl w a n cap l) :
    Calls Try.prog 69 #[.slice a n cap, .int .i64 x] w fun e w' => e = .returned (.bool (decide (x ∈ l))) ∧ w = w' := by
  have HC := Lib.hid (cindex_go w a n cap l x hs)
  clear hs
  go_enter Try.func69, Try.ntmps69
  go_wp2_with fail
  refine HC.out.mono ?_
  rintro e w' ⟨⟨i, rfl, hd⟩, rfl⟩
  have HD := Lib.hid hd
  clear hd
  go_wp2
  go_ret
  exact ⟨by show Ending.returned (.bool (decide (0 ≤ i))) = _; rw [HD.out], rfl⟩
/-! ### sets -/
def hitB (L : List Nat) (x y : Nat) : Bool := decide (y < thdN 2 x y) && decide (((thdN 2 x y : Nat) : Int) ∈ ints L)
def cJ (L : List Nat) (i : Nat) : Nat → Nat
  | 0 => 0
  | m + 1 => cJ L i m + if hitB L (gn L i) (gn L (i + 1 + m)) then 1 else 0
def cI (L : List Nat) : Nat → Nat
  | 0 => 0
  | i + 1 => cI L i + cJ L i (L.length - (i + 1))
theorem cJ_le (L : List Nat) (i : Nat) : ∀ m, cJ L i m ≤ m
  | 0 => Nat.le_refl _
  | m + 1 => by
    have := cJ_le L i m
    show cJ L i m + (if hitB L (gn L i) (gn L (i + 1 + m)) then 1 else 0) ≤ m + 1
    split <;> omega
theorem cI_le (L : List Nat) : ∀ i, cI L i ≤ L.length * i
  | 0 => Nat.le_refl _
  | i + 1 => by
    have := cI_le L i
    have := cJ_le L i (L.length - (i + 1))
    show cI L i + cJ L i (L.length - (i + 1)) ≤ L.length * (i + 1)
    rw [Nat.mul_add]
    omega
theorem thd_lt {x y : Nat} : thdN 2 x y < 9 := by
  have h1 : thd1 x y < 3 := Nat.mod_lt _ (by omega)
  have h2 : thd1 (x / 3) (y / 3) < 3 := Nat.mod_lt _ (by omega)
  show thd1 x y + thd1 (x / 3) (y / 3) * 3 < 9
  omega
set_option maxHeartbeats 4000000 in
theorem csets_go (w : World) (a : Option Addr) (n cap : Nat) (L : List Nat) (hs : Sl w a n cap (ints L)) (hL : ∀ x ∈ L, x < 9) (hn : n ≤ 9) :
    Calls Try.prog 57 #[deckV 2 9, .slice a n cap] w fun e w' => e = .returned (.int .i64 ((cI L n : Nat) : Int)) ∧ Below w.heap.size w w' := by
  have hcap : n ≤ cap ∧ cap ≤ maxLen := ⟨hs.2.1, hs.2.2.1⟩
  unfold maxLen at hcap
  have HLN := Lib.hid (show L.length = n by have := hs.len; unfold ints at this; simpa using this)
  have HGL := Lib.hid (gn_lt hL (by omega))
  have HS := Lib.hid hs
  have HB0 := Lib.hid (bal (Below.refl w.heap.size w) (.cells #[.int .i64 2, .int .i64 9] 73))
  have HN0 := Lib.hid (new_at w (.cells #[.int .i64 2, .int .i64 9] 73))
  rw [show deckV 2 9 = .agg #[.int .i64 2, .int .i64 9] from rfl]
  clear hs hL
  go_enter Try.func57, Try.ntmps57
  go_wp2
  generalize w.alloc (.cells #[.int .i64 2, .int .i64 9] 73) = V at *
  go_loopw [5, 13] (fun vn t wr => ∃ i : Nat, i ≤ n ∧ vn = .int .i64 (cI L i : Int) ∧ t = .int .i64 i ∧ Hid (Below V.heap.size V wr)) (fun _ t _ => n - (intOf t).toNat)
  case atStart => exact ⟨0, by omega, rfl, rfl, Lib.hid (Below.refl _ _)⟩
  case round =>
    obtain ⟨i, hi, rfl, rfl, HB⟩ := hrel
    by_cases hin : i < n
    · obtain ⟨b, off, rfl, hb, hc, _⟩ := sl_at (HS.out.mono (btr HB0.out HB.out)) (by omega)
      have e1 := hc i hin
      rw [nth_ints] at e1
      have hx9 := HGL.out i
      obtain ⟨x, hx⟩ : ∃ x, gn L i = x := ⟨_, rfl⟩
      rw [hx] at e1 hx9
      have HX := Lib.hid hx
      clear hx hc
      have hcb := cI_le L i
      have HCI := Lib.hid (show cI L (i + 1) = cI L i + cJ L i (n - (i + 1)) by rw [← HLN.out]; rfl)
      rw [HLN.out] at hcb
      have hcb2 : n * i ≤ 81 := by have := Nat.mul_le_mul hn (Nat.le_of_lt (Nat.lt_of_lt_of_le hin hn)); omega
      generalize cI L i = ci at *
      by_cases hce : cap = i + 1
      · have hni : n = i + 1 := by omega
        have HJ0 := Lib.hid (show cI L (i + 1) = ci by rw [HCI.out, hni]; simp [cJ])
        clear hni
        go_wp2
        go_loopw [5, 23] (fun vn t wr2 => vn = .int .i64 (ci : Int) ∧ t = .int .i64 0 ∧ Hid (Below V.heap.size V wr2)) (fun _ t _ => 0)
        case atStart => exact ⟨rfl, rfl, HB⟩
        case round =>
          clear HB e1 hb
          obtain ⟨rfl, rfl, HB⟩ := hrel
          have hl : ¬ (0 : Int) < ((n - (i + 1) : Nat) : Int) := by omega
          go_wp2
          go_roundw
          case rel => go_light; exact ⟨i + 1, by omega, by rw [HJ0.out], by go_num, HB⟩
          case measure => simp [intOf]; omega
      go_wp2
      go_loopw [5, 23] (fun vn t wr2 => ∃ m : Nat, m ≤ n - (i + 1) ∧ vn = .int .i64 ((ci + cJ L i m : Nat) : Int) ∧ t = .int .i64 m ∧ Hid (Below V.heap.size V wr2)) (fun _ t _ => n - (i + 1) - (intOf t).toNat)
      case atStart => exact ⟨0, by omega, rfl, rfl, HB⟩
      case round =>
        clear HB e1 hb
        obtain ⟨m, hm, rfl, rfl, HB⟩ := hrel
        by_cases hmn : m < n - (i + 1)
        · have HSW := Lib.hid (fun (w' : World) (hb : Below V.heap.size V w') => HS.out.mono (btr HB0.out hb))
          obtain ⟨b', off', hbe, hb, hc, _⟩ := sl_at (HSW.out _ HB.out) (by omega)
          injection hbe with hbe
          injection hbe with q1 q2
          subst q1 q2
          have e1 := hc (i + 1 + m) (by omega)
          rw [nth_ints] at e1
          have e1' : wr.cell? ⟨b, off + (i + 1) + m, none⟩ = some (.int .i64 ((gn L (i + 1 + m) : Nat) : Int)) := by rw [show off + (i + 1) + m = off + (i + 1 + m) by omega]; exact e1
          have hy9 := HGL.out (i + 1 + m)
          have HCJ := Lib.hid (show cJ L i (m + 1) = cJ L i m + if hitB L x (gn L (i + 1 + m)) then 1 else 0 by rw [← HX.out]; rfl)
          obtain ⟨y, hy⟩ : ∃ y, gn L (i + 1 + m) = y := ⟨_, rfl⟩
          rw [hy] at e1' hy9 HCJ
          have hjb := cJ_le L i m
          generalize cJ L i m = cj at *
          have HT := Lib.hid (fun w' => cthird_go w' 2 9 x y (.inr rfl) hx9 hy9)
          have ht9 := thd_lt (x := x) (y := y)
          have HH := Lib.hid (show hitB L x y = (decide (y < thdN 2 x y) && decide (((thdN 2 x y : Nat) : Int) ∈ ints L)) from rfl)
          generalize hitB L x y = ht at *
          rw [show deckV 2 9 = .agg #[.int .i64 2, .int .i64 9] from rfl] at HT
          generalize thdN 2 x y = t at *
          have hk := persist HN0.out HB.out
          have k0 := cell_of hk 0 rfl
          have k1 := cell_of hk 1 rfl
          have hcij : ci + cj ≤ 100 := by omega
          clear hc e1 hy hk hjb hcb hcb2
          go_wp2_with fail
          refine (HT.out _).mono ?_
          rintro e w' ⟨rfl, hb'⟩
          have HB2 := Lib.hid (btr HB.out hb')
          have HCN := Lib.hid (contains_go w' (some ⟨b, off, none⟩) n cap (ints L) (t : Int) (HSW.out _ HB2.out))
          clear hb' e1' k0 k1 hb HT HSW HB
          by_cases hyt : y < t
          · have d2 : decide (y < t) = true := by simpa using hyt
            rw [d2, Bool.true_and] at HH
            rw [← HH.out] at HCN
            go_wp2_with fail
            refine HCN.out.mono ?_
            rintro e w2 ⟨rfl, rfl⟩
            cases ht with
            | true =>
              have HCJ2 := Lib.hid (show cJ L i (m + 1) = cj + 1 from HCJ.out)
              go_wp2
              go_roundw
              case rel => go_light; exact ⟨m + 1, by omega, by rw [HCJ2.out]; go_num, by go_num, HB2⟩
              case measure => simp [intOf]; omega
            | false =>
              have HCJ2 := Lib.hid (show cJ L i (m + 1) = cj from HCJ.out)
              go_wp2
              go_roundw
              case rel => go_light; exact ⟨m + 1, by omega, by rw [HCJ2.out]; go_num, by go_num, HB2⟩
              case measure => simp [intOf]; omega
          · have d2 : decide (y < t) = false := by simpa using hyt
            rw [d2, Bool.false_and] at HH
            have hht := HH.out
            subst hht
            have HCJ2 := Lib.hid (show cJ L i (m + 1) = cj from HCJ.out)
            clear HCN HCJ HH
            go_wp2
            go_roundw
            case rel => go_light; exact ⟨m + 1, by omega, by rw [HCJ2.out]; go_num, by go_num, HB2⟩
            case measure => simp [intOf]; omega
        · obtain rfl : m = n - (i + 1) := by omega
          rw [← HCI.out]
          go_wp2
          go_roundw
          case rel => go_light; exact ⟨i + 1, by omega, rfl, by go_num, HB⟩
          case measure => simp [intOf]; omega
    · obtain rfl : i = n := by omega
      go_wp2
      go_ret
      exact ⟨rfl, btr HB0.out HB.out⟩
end Go.Proofs.Ytiapngmallfelaa
