/- Walks: Switch of the reference; slices.Equal of graphs. -/
import Derived.Test.YtijnpcehjnaaiaaSw
namespace Go.Proofs.Ytijnpcehjnaaiaa
open Go.RowKit

set_option maxHeartbeats 400000 in
theorem equalg_go (w : World) (a c : Option Addr) (n p m q : Nat) (l k : List Int) (hs : Sl w a n p l) (ht : Sl w c m q k) :
    Calls Try.prog 61 #[.slice a n p, .slice c m q] w fun e w' => e = .returned (.bool (decide (l = k))) ∧ ∃ m, w' = w.drewN m := by
  have hl := hs.len
  have hk := ht.len
  by_cases hnm : n = m
  · subst hnm
    have HL : Hid (l.length = n) := hl
    have HK : Hid (k.length = n) := hk
    have hmax : n ≤ 9223372036854775807 := by have := hs.2.1; have := hs.2.2.1; unfold maxLen at this; omega
    clear hl hk
    by_cases h0 : n = 0
    · subst h0
      go_enter Try.func61, Try.ntmps61
      go_wp2
      go_loop [13] (fun i => i = .int .i64 0) (fun _ => 0)
      case atStart => rfl
      case round =>
        subst hrel
        go_wp2
        go_ret
        exact ⟨ret_true (by rw [List.eq_nil_of_length_eq_zero HL.out, List.eq_nil_of_length_eq_zero HK.out]), 0, rfl⟩
    rcases hs.parts with ⟨_, rfl, _⟩ | ⟨b, off, rfl, hs2⟩
    · omega
    rcases ht.parts with ⟨_, h, _⟩ | ⟨b2, off2, rfl, ht2⟩
    · omega
    obtain ⟨hb, hc⟩ := hs2.cells (by omega)
    obtain ⟨hb2, hc2⟩ := ht2.cells (by omega)
    clear hs ht hs2 ht2
    go_enter Try.func61, Try.ntmps61
    go_wp2
    go_loopw [13] (fun i wr => ∃ j : Nat, j ≤ n ∧ i = .int .i64 j ∧ Hid (∃ m, wr = w.drewN m) ∧ Hid (∀ i, i < j → nth l i = nth k i)) (fun i _ => n - (intOf i).toNat)
    case atStart => exact ⟨0, by omega, rfl, ⟨0, rfl⟩, fun i hi => by omega⟩
    case round =>
      obtain ⟨j, hj, rfl, HW, HR⟩ := hrel
      by_cases hlt : j < n
      · have hck : wr.cell? ⟨b, off + j, none⟩ = some (.int .i64 (nth l j)) := by obtain ⟨m, rfl⟩ := HW.out; exact hc j hlt
        have hck2 : wr.cell? ⟨b2, off2 + j, none⟩ = some (.int .i64 (nth k j)) := by obtain ⟨m, rfl⟩ := HW.out; exact hc2 j hlt
        go_wp2
        go_quiet (fail)
        by_cases q : nth l j = nth k j
        · go_wp2
          go_roundw
          case rel =>
            refine ⟨j + 1, by omega, by go_num, ?_, fun i hi => ?_⟩
            · obtain ⟨m, rfl⟩ := HW.out; exact ⟨m + nq, by rw [World.drewN_drewN]⟩
            · rcases Nat.lt_or_ge i j with h | h
              · exact HR.out i h
              · obtain rfl : i = j := by omega
                exact q
          case measure => simp [intOf]; omega
        · go_wp2
          go_ret
          refine ⟨ret_false (fun e => q (by rw [e])), ?_⟩
          obtain ⟨m, rfl⟩ := HW.out; exact ⟨m + nq, by rw [World.drewN_drewN]⟩
      · go_wp2
        go_ret
        refine ⟨ret_true ?_, HW.out⟩
        have h1 := HL.out
        have h2 := HK.out
        exact List.ext_getElem (by omega) fun i hi hi2 => by
          have := HR.out i (by omega)
          rw [nth_of_lt hi, nth_of_lt hi2] at this; exact this
  · have hne : ((n : Int) != (m : Int)) = true := by rw [bne_iff_ne]; omega
    go_enter Try.func61, Try.ntmps61
    go_wp2
    go_ret
    exact ⟨ret_false (fun e => hnm (by rw [← hl, ← hk, e])), 0, rfl⟩


/-- x with the bits below n flipped at which p holds. -/
def flipTo (x : Nat) (p : Nat → Bool) : Nat → Nat
  | 0 => x
  | n + 1 => if p n then flipTo x p n ^^^ 2 ^ n else flipTo x p n
theorem flipTo_bit (x : Nat) (p : Nat → Bool) : ∀ n j, (flipTo x p n).testBit j = (x.testBit j != (decide (j < n) && p j)) := by
  intro n; induction n with
  | zero => intro j; simp [flipTo]
  | succ n ih =>
    intro j
    by_cases e : j = n
    · subst e
      cases hp : p j with
      | true => simp [flipTo, hp, Nat.testBit_xor, ih]
      | false => simp [flipTo, hp, ih]
    · have h2 : decide (j < n + 1) = decide (j < n) := by simp; omega
      rw [h2]
      cases hp : p n with
      | true =>
        have h3 : decide (n = j) = false := by simp; omega
        simp [flipTo, hp, Nat.testBit_xor, ih, Nat.testBit_two_pow, h3]
      | false => simp [flipTo, hp, ih]
theorem flipTo_lt {x : Nat} (hx : x < 65536) (p : Nat → Bool) {n : Nat} (hn : n ≤ 16) : flipTo x p n < 65536 := by
  apply Nat.lt_pow_two_of_testBit (n := 16)
  intro i hi
  rw [flipTo_bit, Nat.testBit_lt_two_pow (Nat.lt_of_lt_of_le (m := 2 ^ 16) hx (Nat.pow_le_pow_right (by omega) hi))]
  have : ¬ i < n := by omega
  simp [this]
/-- A row switched bit by bit is the row of the switched graph. -/
theorem sw_gn {G : List Nat} (hG : Gr G) {s i : Nat} (hi : i < G.length) : gn (swL G s) i = flipTo (gn G i) (fun q => s.testBit i != s.testBit q) G.length := by
  have e : gn (swL G s) i = setTo (fun q => decide (i ≠ q) && nearSw G s i q) G.length := by simp [gn, swL, madeL, hi]
  rw [e]
  obtain ⟨h1, h2, _⟩ := hG.2.2 i hi
  apply Nat.eq_of_testBit_eq
  intro j
  rw [setTo_bit, flipTo_bit]
  by_cases hj : j < G.length
  · simp only [hj, decide_true, Bool.true_and, nearSw]
    by_cases e : i = j
    · subst e; rw [h2]; simp
    · simp [e]
  · rw [Nat.testBit_lt_two_pow (Nat.lt_of_lt_of_le h1 (Nat.pow_le_pow_right (by omega) (by omega)))]
    simp [hj]
theorem swL_length (G : List Nat) (s : Nat) : (swL G s).length = G.length := by simp [swL, madeL]

set_option maxHeartbeats 1000000 in
theorem rswitch_go (w : World) (a : Option Addr) (n cap : Nat) (G : List Nat) (s : Nat) (hs : Sl w a n cap (ints G)) (hG : Gr G) (hs16 : s < 65536) :
    Calls Try.prog 40 #[.slice a n cap, .int .i64 s] w (GivesSl w (ints (swL G s))) := by
  have hn : G.length = n := by have := hs.len; rwa [ints_length] at this
  have hn16 : n ≤ 16 := by have := hG.2.1; omega
  rcases hs.parts with ⟨_, rfl, _⟩ | ⟨b, off, rfl, hs2⟩
  · have := hG.1; omega
  have hlt16 := gn_lt hG.small (by omega)
  obtain ⟨hb, hc⟩ := hs2.icells (by have := hG.1; omega)
  have HN := Lib.hid hn
  clear hn hs2 hs
  go_enter Try.func40, Try.ntmps40
  go_wp2
  go_loopw [11, 5] (fun i v wr => ∃ k : Nat, k ≤ n ∧ i = .int .i64 k ∧ wr.ownsRow w.heap.size 3 1 v k (((ints (swL G s)).take k).map (Value.int .i64)) ∧ Below w.heap.size w wr) (fun i _ _ => n - (intOf i).toNat)
  case atStart => exact ⟨0, by omega, rfl, World.ownsRow_nil _ _ _ _, Below.refl _ _⟩
  case round =>
    obtain ⟨k, hk, rfl, hown, hbw⟩ := hrel
    by_cases hlt : k < n
    · have hck : wr.cell? ⟨b, off + k, none⟩ = some (.int .i64 (gn G k)) := (hbw.cell hb).trans (hc k hlt)
      have hx16 := hlt16 k
      have hbk := bits_bt s k (by omega)
      have HSW := Lib.hid (sw_gn hG (s := s) (i := k) (by rw [HN.out]; exact hlt))
      go_wp2
      obtain ⟨w2, rfl⟩ : ∃ w2 : World, w2 = wr := ⟨_, rfl⟩
      go_loopw [18, 7] (fun j x wr => ∃ q : Nat, q ≤ n ∧ j = .int .i64 q ∧ x = .int .i64 (flipTo (gn G k) (fun r => s.testBit k != s.testBit r) q) ∧ wr.ownsRow w.heap.size 3 1 u5 k (((ints (swL G s)).take k).map (Value.int .i64)) ∧ Below w.heap.size w wr) (fun j _ _ => n - (intOf j).toNat)
      case atStart => exact ⟨0, by omega, rfl, rfl, hown, hbw⟩
      case round =>
        clear hown hbw hck
        obtain ⟨q, hq, rfl, rfl, hown, hbw⟩ := hrel
        have hf := flipTo_lt hx16 (fun r => s.testBit k != s.testBit r) (show q ≤ 16 by omega)
        by_cases hlq : q < n
        · have hbq := bits_bt s q (by omega)
          have hne := bt_ne s k q
          have hp := pow16 (show q < 16 by omega)
          have hx := i64_xor_nat (flipTo (gn G k) (fun r => s.testBit k != s.testBit r) q) (2 ^ q) (by omega) (by omega)
          rw [pow_cast] at hx
          have hwq := wrap_pow (show q ≤ 16 by omega)
          cases hpq : (s.testBit k != s.testBit q) with
          | true =>
            have hstep : flipTo (gn G k) (fun r => s.testBit k != s.testBit r) (q + 1) = flipTo (gn G k) (fun r => s.testBit k != s.testBit r) q ^^^ 2 ^ q := by simp [flipTo, hpq]
            have HST := Lib.hid hstep
            clear hstep
            generalize flipTo (gn G k) (fun r => s.testBit k != s.testBit r) q = fv at *
            rw [hpq] at hne
            go_wp2
            go_quiet (fail)
            go_wp2
            go_roundw
            case rel => exact ⟨q + 1, by omega, by go_num, by rw [HST.out], hown, drewN_below hbw⟩
            case measure => simp [intOf]; omega
          | false =>
            have hstep : flipTo (gn G k) (fun r => s.testBit k != s.testBit r) (q + 1) = flipTo (gn G k) (fun r => s.testBit k != s.testBit r) q := by simp [flipTo, hpq]
            have HST := Lib.hid hstep
            clear hstep
            generalize flipTo (gn G k) (fun r => s.testBit k != s.testBit r) q = fv at *
            rw [hpq] at hne
            go_wp2
            go_quiet (fail)
            go_wp2
            go_roundw
            case rel => exact ⟨q + 1, by omega, by go_num, by rw [HST.out], hown, drewN_below hbw⟩
            case measure => simp [intOf]; omega
        · obtain rfl : q = n := by omega
          rw [← HN.out, ← HSW.out] at hf
          have HF := Lib.hid (show flipTo (gn G k) (fun r => s.testBit k != s.testBit r) q = gn (swL G s) k by rw [HSW.out, HN.out])
          have hsz := hbw.size
          go_wp2_with (at_builtin; refine wpList_app rfl _ _ 22 rfl Try.underlying22 w.heap.size u5 k _ rfl (hown.alloc _) (some ⟨wr.heap.size, 0, none⟩) 1 1 [((flipTo (gn G k) (fun r => s.testBit k != s.testBit r) q : Nat) : Int)] rfl (sl_one _ _) (by omega) (by simp; omega) ?_; intro v' wn hown' hgrow)
          go_roundw
          case rel =>
            have hb1 : Below w.heap.size w wn := own_grown hown hbw _ hgrow
            have e := ints_take (L := swL G s) (k := k) (by rw [swL_length, HN.out]; exact hlt)
            rw [← HF.out] at e
            exact ⟨k + 1, by omega, by go_num, by rw [e]; exact hown', hb1⟩
          case measure => simp [intOf]; omega
    · obtain rfl : k = n := by omega
      go_wp2
      go_ret
      rw [ints_all (by rw [swL_length, HN.out]; omega)] at hown
      exact own_gives hown hbw
end Go.Proofs.Ytijnpcehjnaaiaa
