/- Chapter 9: the states that are reached. -/
import Derived.Test.YtcmakddnjmeklaaWr
import Derived.Test.YtcmakddnjmeklaaPure
namespace Go.Proofs.Ytcmakddnjmeklaa
open Go.RowKit
set_option linter.unusedSimpArgs false

def rk (o : List Int) (s : Nat) : Nat → Nat → Nat
  | 0, x => x
  | k + 1, x => if (rk o s k x).testBit s && decide (0 < nth o k) then rk o s k x ||| 2 ^ k else rk o s k x
def rs (A : Nat → List Int) (n : Nat) : Nat → Nat → Nat
  | 0, x => x
  | s + 1, x => rk (A s) s n (rs A n s x)
def rr (A : Nat → List Int) (n : Nat) : Nat → Nat → Nat
  | 0, x => x
  | r + 1, x => rs A n n (rr A n r x)
def rchN (A : Nat → List Int) (n f : Nat) : Nat := rr A n n (2 ^ f)
/-- The Odds of a plan's acts. -/
def podds (W : Wd) (p : List Int) (s : Nat) : List Int := (pact W.acts p s).o
def rch (W : Wd) (p : List Int) (f : Nat) : Nat := rchN (podds W p) W.acts.length f
theorem rk_lt {o : List Int} {s n : Nat} {x : Nat} (hx : x < 2 ^ n) : ∀ k, k ≤ n → rk o s k x < 2 ^ n
  | 0, _ => hx
  | k + 1, h => by
    have ih := rk_lt (o := o) (s := s) hx k (by omega)
    show (if _ then _ else _) < _
    split
    · exact Nat.or_lt_two_pow ih (Nat.pow_lt_pow_right (by omega) (by omega))
    · exact ih
theorem rs_lt {A : Nat → List Int} {n : Nat} {x : Nat} (hx : x < 2 ^ n) : ∀ s, rs A n s x < 2 ^ n
  | 0 => hx
  | s + 1 => rk_lt (rs_lt hx s) n (Nat.le_refl _)
theorem rr_lt {A : Nat → List Int} {n : Nat} {x : Nat} (hx : x < 2 ^ n) : ∀ r, rr A n r x < 2 ^ n
  | 0 => hx
  | r + 1 => rs_lt (rr_lt hx r) n
theorem rchN_lt {A : Nat → List Int} {n f : Nat} (hf : f < n) : rchN A n f < 2 ^ n := rr_lt (Nat.pow_lt_pow_right (by omega) hf) n
theorem pow_16 {n : Nat} (h : n ≤ 4) : (2 : Nat) ^ n ≤ 16 := (Nat.pow_le_pow_right (by omega) h : 2 ^ n ≤ 2 ^ 4)
theorem bt1 (x j : Nat) : ((bt x j : Int) == 1) = x.testBit j := by rw [bt_test]; cases x.testBit j <;> rfl
theorem bt0 (x j : Nat) : ((bt x j : Int) == 0) = !x.testBit j := by rw [bt_test]; cases x.testBit j <;> rfl
theorem wrap_2k {k : Nat} (h : k ≤ 4) : IntKind.i64.wrap ((2 : Int) ^ k) = (2 : Int) ^ k := by
  have h1 := pow_16 h
  rw [← pow_cast]
  exact wrap_i64n _ (by omega)
theorem or_2k {x k : Nat} (hx : x < 16) (h : k ≤ 4) : bits .or .i64 (x : Int) ((2 : Int) ^ k) = ((x ||| 2 ^ k : Nat) : Int) := by
  have h1 := pow_16 h
  have := i64_or_nat x (2 ^ k) (by omega) (by omega)
  rwa [pow_cast] at this
theorem field_odds (w : World) (g : Int) (z : Option Addr) (m q : Nat) : (Instr.field 50 (.agg #[.int .i64 g, .slice z m q]) 1).run Try.prog w = .ok (.slice z m q) w := by kernel_rfl
theorem wpList_odds {ops : Array Oper} {rest : List Oper} {o : Oper} {a : Go.Act} {Q : Exit → Go.Act → World → Prop} {w : World} (hgd : o.guard = none) (x : Operand) (ho : o.op = .field 50 x 1) (g : Int) (z : Option Addr) (m q : Nat)
    (hx : a.eval x = .agg #[.int .i64 g, .slice z m q]) (h : wpList Try.prog ops Q rest (a.put o.dst (.slice z m q)) w) : wpList Try.prog ops Q (o :: rest) a w := by
  refine wpList_plain hgd fun K hK' => ?_
  unfold Oper.wp
  simp [execOp, ho, hx, field_odds, Result.andThen]
  exact hK' _ _ h
set_option maxRecDepth 100000 in
set_option maxHeartbeats 4000000 in
theorem reach_go (w : World) (x y : Option Addr) (n c m d f : Nat) (W : Wd) (p : List Int) (hA : A2Sl w x n c W.acts) (hp : Sl w y m d p) (hok : isPlanB W p = true) (hf : f < n) :
    Calls Try.prog 70 #[wv W.a W.b x n c, .slice y m d, .int .i64 f] w fun e w' => e = .returned (.int .i64 (rch W p f)) ∧ Below w.heap.size w w' := by
  have hb0 := bal (Below.refl w.heap.size w) (.cells #[.int .i64 W.a, .int .i64 W.b, .slice x n c] 33)
  have HZ := Lib.hid (show BoxW (w.alloc (.cells #[.int .i64 W.a, .int .i64 W.b, .slice x n c] 33)) w.heap.size W.a W.b x n c from new_at w _)
  have HA := Lib.hid (hA.mono hb0)
  have HP := Lib.hid (hp.mono hb0)
  have HB0 := Lib.hid hb0
  have HNA := Lib.hid hA.1
  have HVA := Lib.hid (fun s (hs : s < W.acts.length) => vAc_at (vAc_pact hok hs))
  obtain ⟨_, hpl, hpa, ⟨hn1, hn4, _⟩, _⟩ := plan_parts hok
  have hnA := hA.1
  have hmp := hp.len
  have hcn := hA.2.cap
  unfold maxLen at hcn
  obtain rfl : m = n := by omega
  have hn4 : m ≤ 4 := by omega
  have HPA := Lib.hid (show ∀ s, s < m → 0 ≤ nth p s ∧ nth p s < (acl W.acts s).length from fun s hs => hpa s (by omega))
  have H16 := Lib.hid (pow_16 hn4)
  have HRR := Lib.hid (fun r => rr_lt (A := podds W p) (n := m) (x := 2 ^ f) (Nat.pow_lt_pow_right (by omega) hf) r)
  have HRE := Lib.hid (show rr (podds W p) m m (2 ^ f) = rch W p f by unfold rch rchN; rw [HNA.out])
  have hwf := wrap_2k (k := f) (by omega)
  have hf0 : (0 : Int) ≤ (f : Int) := by omega
  have hf64 : f < 64 := by omega
  clear hA hp hb0 hok hpl hpa hnA hmp
  go_enter Try.func70, Try.ntmps70
  go_wp2
  generalize w.alloc (.cells #[.int .i64 W.a, .int .i64 W.b, .slice x m c] 33) = V0 at *
  go_loopw [7, 15] (fun v t2 wr => ∃ r : Nat, r ≤ m ∧ t2 = .int .i64 r ∧ v = .int .i64 ((rr (podds W p) m r (2 ^ f) : Nat) : Int) ∧ Hid (Below V0.heap.size V0 wr)) (fun _ t2 _ => m - (intOf t2).toNat)
  case atStart => exact ⟨0, by omega, rfl, by rw [show rr (podds W p) m 0 (2 ^ f) = 2 ^ f from rfl, pow_cast], Lib.hid (Below.refl _ _)⟩
  case round =>
    obtain ⟨r, hr, rfl, rfl, HB⟩ := hrel
    by_cases hlr : r < m
    · have hxr := HRR.out r
      have HRN := Lib.hid (show rr (podds W p) m (r + 1) (2 ^ f) = rs (podds W p) m m (rr (podds W p) m r (2 ^ f)) from rfl)
      obtain ⟨X, hX⟩ : ∃ X, rr (podds W p) m r (2 ^ f) = X := ⟨_, rfl⟩
      rw [hX] at hxr HRN ⊢
      have HRS := Lib.hid (fun s => rs_lt (A := podds W p) hxr s)
      clear hX hxr
      go_wp2
      generalize wr = U at *
      go_loopw [7, 19] (fun v t2 wr => ∃ s : Nat, s ≤ m ∧ t2 = .int .i64 s ∧ v = .int .i64 ((rs (podds W p) m s X : Nat) : Int) ∧ Hid (Below V0.heap.size V0 wr)) (fun _ t2 _ => m - (intOf t2).toNat)
      case atStart => exact ⟨0, by omega, rfl, rfl, HB⟩
      case round =>
        clear HB
        obtain ⟨s, hs, rfl, rfl, HB⟩ := hrel
        by_cases hls : s < m
        · have hxs := HRS.out s
          have HSN := Lib.hid (show rs (podds W p) m (s + 1) X = rk (podds W p s) s m (rs (podds W p) m s X) from rfl)
          obtain ⟨Y, hY⟩ : ∃ Y, rs (podds W p) m s X = Y := ⟨_, rfl⟩
          rw [hY] at hxs HSN ⊢
          have HKL := Lib.hid (fun k (hk : k ≤ m) => rk_lt (o := podds W p s) (s := s) hxs k hk)
          clear hY hxs
          have hsA : s < W.acts.length := by rw [HNA.out]; exact hls
          have hpa := HPA.out s hls
          have hva := HVA.out s hsA
          obtain ⟨zz, hh0, hh1, hh2⟩ := BoxW.cells (persist HZ.out HB.out)
          go_wp2_with fail
          refine (act_goW V0 _ HB.out W.a W.b x y m c m d s W.acts p HA.out HP.out hls hls hpa.1 hpa.2).mono ?_
          rintro e w2 ⟨z, k, q, rfl, hZ, hb2⟩
          have HB2 := Lib.hid (btr HB.out hb2)
          have hkm : m = k := by have := hZ.len; have := HNA.out; omega
          subst hkm
          have HPO := Lib.hid (show podds W p s = (pact W.acts p s).o from rfl)
          rw [← HPO.out] at hZ
          have hzc := hZ.cap
          unfold maxLen at hzc
          have HZZ := Lib.hid hZ
          clear hZ hb2 zz hh0 hh1 hh2 hpa hva HB
          generalize (pact W.acts p s).g = gg at *
          generalize podds W p s = o at *
          go_wp2_with (refine wpList_odds rfl _ rfl gg z m q rfl ?_)
          generalize w2 = T at *
          go_loopw [7, 28] (fun v t2 wr => ∃ j : Nat, j ≤ m ∧ t2 = .int .i64 j ∧ v = .int .i64 ((rk o s j Y : Nat) : Int) ∧ Hid (Below V0.heap.size V0 wr)) (fun _ t2 _ => m - (intOf t2).toNat)
          case atStart => exact ⟨0, by omega, rfl, rfl, HB2⟩
          case round =>
            clear HB2
            obtain ⟨j, hj, rfl, rfl, HB⟩ := hrel
            by_cases hlj : j < m
            · obtain ⟨b1, o1, rfl, hb1, hc1⟩ := (HZZ.out.mono HB.out).at (by omega)
              have e1 := hc1 j hlj
              have hlt := HKL.out j (by omega)
              have HRK := Lib.hid (show rk o s (j + 1) Y = if (rk o s j Y).testBit s && decide (0 < nth o j) then rk o s j Y ||| 2 ^ j else rk o s j Y from rfl)
              have H162 := H16.out
              generalize nth o j = y9 at *
              obtain ⟨z9, hz9⟩ : ∃ z9, rk o s j Y = z9 := ⟨_, rfl⟩
              rw [hz9] at hlt HRK ⊢
              have hz16 : z9 < 16 := by omega
              have hb9 := bits_bt z9 s (by omega)
              have hb1' := bt1 z9 s
              have hw9 := wrap_2k (k := j) (by omega)
              have ho9 := or_2k (x := z9) (k := j) hz16 (by omega)
              have hs64 : s < 64 := by omega
              have hj64 : j < 64 := by omega
              clear hc1 hz9
              cases htb : z9.testBit s with
              | false =>
                have HN := Lib.hid (show rk o s (j + 1) Y = z9 by rw [HRK.out, htb]; rfl)
                rw [htb] at hb1'
                go_wp2
                go_roundw
                case rel => go_light; exact ⟨j + 1, by omega, by go_num, by rw [HN.out], HB⟩
                case measure => simp [intOf]; omega
              | true =>
                rw [htb] at hb1'
                by_cases hy : 0 < y9
                · have hd9 : decide (0 < y9) = true := by simpa using hy
                  have HN := Lib.hid (show rk o s (j + 1) Y = z9 ||| 2 ^ j by rw [HRK.out, htb, hd9]; rfl)
                  go_wp2
                  go_roundw
                  case rel => go_light; exact ⟨j + 1, by omega, by go_num, by rw [HN.out], HB⟩
                  case measure => simp [intOf]; omega
                · have hd9 : decide (0 < y9) = false := by simpa using hy
                  have HN := Lib.hid (show rk o s (j + 1) Y = z9 by rw [HRK.out, htb, hd9]; rfl)
                  go_wp2
                  go_roundw
                  case rel => go_light; exact ⟨j + 1, by omega, by go_num, by rw [HN.out], HB⟩
                  case measure => simp [intOf]; omega
            · obtain rfl : j = m := by omega
              rw [← HSN.out]
              go_wp2
              go_roundw
              case rel => go_light; exact ⟨s + 1, by omega, by go_num, rfl, HB⟩
              case measure => simp [intOf]; omega
        · obtain rfl : s = m := by omega
          rw [← HRN.out]
          go_wp2
          go_roundw
          case rel => go_light; exact ⟨r + 1, by omega, by go_num, rfl, HB⟩
          case measure => simp [intOf]; omega
    · obtain rfl : r = m := by omega
      rw [HRE.out]
      go_wp2
      go_ret
      exact ⟨rfl, btr HB0.out HB.out⟩
end Go.Proofs.Ytcmakddnjmeklaa
