/- Chapter 9, the reference: Reach. -/
import Derived.Test.YtcmakddnjmeklaaVa
namespace Go.Proofs.Ytcmakddnjmeklaa
open Go.RowKit
set_option linter.unusedSimpArgs false

set_option maxRecDepth 100000 in
set_option maxHeartbeats 4000000 in
theorem rreach_go (w : World) (x y : Option Addr) (n c m d f : Nat) (W : Wd) (p : List Int) (hA : A2Sl w x n c W.acts) (hp : Sl w y m d p) (hok : isPlanB W p = true) (hf : f < n) :
    Calls Try.prog 45 #[wv W.a W.b x n c, .slice y m d, .int .i64 f] w fun e w' => e = .returned (.int .i64 (rch W p f)) ∧ Below w.heap.size w w' := by
  have hb0 := bal (Below.refl w.heap.size w) (.cells #[.int .i64 W.a, .int .i64 W.b, .slice x n c] 25)
  have HZ := Lib.hid (show BoxR (w.alloc (.cells #[.int .i64 W.a, .int .i64 W.b, .slice x n c] 25)) w.heap.size W.a W.b x n c from new_at w _)
  have HA := Lib.hid (hA.mono hb0)
  have HP := Lib.hid (hp.mono hb0)
  have HB0 := Lib.hid hb0
  have HNA := Lib.hid hA.1
  have HVA := Lib.hid (fun s (hs : s < W.acts.length) => vAc_at (vAc_pact hok hs))
  obtain ⟨_, hpl, hpa, ⟨hn1, hn4, _⟩, _⟩ := plan_parts hok
  have hnA := hA.1
  have hmp := hp.len
  have hcn := hA.2.cap
  unfold maxLen at hcn
  obtain rfl : m = n := by omega
  have hn4 : m ≤ 4 := by omega
  have HPA := Lib.hid (show ∀ s, s < m → 0 ≤ nth p s ∧ nth p s < (acl W.acts s).length from fun s hs => hpa s (by omega))
  have H16 := Lib.hid (pow_16 hn4)
  have HRR := Lib.hid (fun r => rr_lt (A := podds W p) (n := m) (x := 2 ^ f) (Nat.pow_lt_pow_right (by omega) hf) r)
  have HRE := Lib.hid (show rr (podds W p) m m (2 ^ f) = rch W p f by unfold rch rchN; rw [HNA.out])
  have hwf := wrap_2k (k := f) (by omega)
  have hf0 : (0 : Int) ≤ (f : Int) := by omega
  have hf64 : f < 64 := by omega
  clear hA hp hb0 hok hpl hpa hnA hmp
  go_enter Try.func45, Try.ntmps45
  go_wp2
  generalize w.alloc (.cells #[.int .i64 W.a, .int .i64 W.b, .slice x m c] 25) = V0 at *
  go_loopw [7, 16] (fun v t2 wr => ∃ r : Nat, r ≤ m ∧ t2 = .int .i64 r ∧ v = .int .i64 ((rr (podds W p) m r (2 ^ f) : Nat) : Int) ∧ Hid (Below V0.heap.size V0 wr)) (fun _ t2 _ => m - (intOf t2).toNat)
  case atStart => exact ⟨0, by omega, rfl, by rw [show rr (podds W p) m 0 (2 ^ f) = 2 ^ f from rfl, pow_cast], Lib.hid (Below.refl _ _)⟩
  case round =>
    obtain ⟨r, hr, rfl, rfl, HB⟩ := hrel
    by_cases hlr : r < m
    · have hxr := HRR.out r
      have HRN := Lib.hid (show rr (podds W p) m (r + 1) (2 ^ f) = rs (podds W p) m m (rr (podds W p) m r (2 ^ f)) from rfl)
      obtain ⟨X, hX⟩ : ∃ X, rr (podds W p) m r (2 ^ f) = X := ⟨_, rfl⟩
      rw [hX] at hxr HRN ⊢
      have HRS := Lib.hid (fun s => rs_lt (A := podds W p) hxr s)
      clear hX hxr
      go_wp2
      generalize wr = U at *
      go_loopw [7, 20] (fun v t2 wr => ∃ s : Nat, s ≤ m ∧ t2 = .int .i64 s ∧ v = .int .i64 ((rs (podds W p) m s X : Nat) : Int) ∧ Hid (Below V0.heap.size V0 wr)) (fun _ t2 _ => m - (intOf t2).toNat)
      case atStart => exact ⟨0, by omega, rfl, rfl, HB⟩
      case round =>
        clear HB
        obtain ⟨s, hs, rfl, rfl, HB⟩ := hrel
        by_cases hls : s < m
        · have hxs := HRS.out s
          have HSN := Lib.hid (show rs (podds W p) m (s + 1) X = rk (podds W p s) s m (rs (podds W p) m s X) from rfl)
          obtain ⟨Y, hY⟩ : ∃ Y, rs (podds W p) m s X = Y := ⟨_, rfl⟩
          rw [hY] at hxs HSN ⊢
          have HKL := Lib.hid (fun k (hk : k ≤ m) => rk_lt (o := podds W p s) (s := s) hxs k hk)
          clear hY hxs
          have hsA : s < W.acts.length := by rw [HNA.out]; exact hls
          obtain ⟨hp0, hp1⟩ := HPA.out s hls
          obtain ⟨_, _, hol, hor, _, _⟩ := HVA.out s hsA
          obtain ⟨t0, ht0⟩ : ∃ t0 : Nat, nth p s = (t0 : Int) := ⟨(nth p s).toNat, by omega⟩
          have hX : pact W.acts p s = ac (acl W.acts s) t0 := by unfold pact; rw [ht0]; rfl
          have hPO : podds W p s = (ac (acl W.acts s) t0).o := by unfold podds; rw [hX]
          obtain ⟨b3, o3, rfl, hb3, hc3⟩ := (HA.out.mono HB.out).at (by omega)
          obtain ⟨a2, m2, q2, e2, h2⟩ := hc3 s hls
          have hl2 := h2.1
          have htm : t0 < m2 := by omega
          obtain ⟨b4, o4, rfl, hb4, hc4⟩ := h2.at (by omega)
          obtain ⟨eg, z, k, q, eo, hSl⟩ := hc4 t0 htm
          obtain ⟨b5, o5, rfl, hb5, hc5⟩ := (HP.out.mono HB.out).at (by omega)
          have e5 := hc5 s hls
          rw [ht0] at e5
          rw [← hPO] at hSl
          have hcq := h2.2.cap
          unfold maxLen at hcq
          have hkm : m = k := by have := hSl.len; have := HNA.out; rw [hX, ← hPO] at hol; omega
          subst hkm
          have hzc := hSl.cap
          unfold maxLen at hzc
          have HZZ := Lib.hid hSl
          have HB2 := Lib.hid HB.out
          obtain ⟨z0, z1, z2, z3⟩ := BoxR.cells (persist HZ.out HB.out)
          clear hc3 hc4 hc5 h2 hSl hX hPO hp0 hp1 hol hor HB
          generalize podds W p s = o at *
          go_wp2
          clear z0 z1 z2 z3 e2 e5 eg eo
          generalize wr = T at *
          go_loopw [7, 35] (fun v t2 wr => ∃ j : Nat, j ≤ m ∧ t2 = .int .i64 j ∧ v = .int .i64 ((rk o s j Y : Nat) : Int) ∧ T = wr) (fun _ t2 _ => m - (intOf t2).toNat)
          case atStart => exact ⟨0, by omega, rfl, rfl, rfl⟩
          case round =>
            obtain ⟨j, hj, rfl, rfl, rfl⟩ := hrel
            by_cases hlj : j < m
            · obtain ⟨b1, o1, rfl, hb1, hc1⟩ := HZZ.out.at (by omega)
              have e1 := hc1 j hlj
              have hlt := HKL.out j (by omega)
              have HRK := Lib.hid (show rk o s (j + 1) Y = if (rk o s j Y).testBit s && decide (0 < nth o j) then rk o s j Y ||| 2 ^ j else rk o s j Y from rfl)
              have H162 := H16.out
              generalize nth o j = y9 at *
              obtain ⟨z9, hz9⟩ : ∃ z9, rk o s j Y = z9 := ⟨_, rfl⟩
              rw [hz9] at hlt HRK ⊢
              have hz16 : z9 < 16 := by omega
              have hb9 := bits_bt z9 s (by omega)
              have hb1' := bt1 z9 s
              have hw9 := wrap_2k (k := j) (by omega)
              have ho9 := or_2k (x := z9) (k := j) hz16 (by omega)
              have hs64 : s < 64 := by omega
              have hj64 : j < 64 := by omega
              clear hc1 hz9
              cases htb : z9.testBit s with
              | false =>
                have HN := Lib.hid (show rk o s (j + 1) Y = z9 by rw [HRK.out, htb]; rfl)
                rw [htb] at hb1'
                go_wp2
                go_roundw
                case rel => go_light; exact ⟨j + 1, by omega, by go_num, by rw [HN.out], by trivial⟩
                case measure => simp [intOf]; omega
              | true =>
                rw [htb] at hb1'
                by_cases hy : 0 < y9
                · have hd9 : decide (0 < y9) = true := by simpa using hy
                  have HN := Lib.hid (show rk o s (j + 1) Y = z9 ||| 2 ^ j by rw [HRK.out, htb, hd9]; rfl)
                  go_wp2
                  go_roundw
                  case rel => go_light; exact ⟨j + 1, by omega, by go_num, by rw [HN.out], by trivial⟩
                  case measure => simp [intOf]; omega
                · have hd9 : decide (0 < y9) = false := by simpa using hy
                  have HN := Lib.hid (show rk o s (j + 1) Y = z9 by rw [HRK.out, htb, hd9]; rfl)
                  go_wp2
                  go_roundw
                  case rel => go_light; exact ⟨j + 1, by omega, by go_num, by rw [HN.out], by trivial⟩
                  case measure => simp [intOf]; omega
            · obtain rfl : j = m := by omega
              rw [← HSN.out]
              go_wp2
              go_roundw
              case rel => go_light; exact ⟨s + 1, by omega, by go_num, rfl, HB2⟩
              case measure => simp [intOf]; omega
        · obtain rfl : s = m := by omega
          rw [← HRN.out]
          go_wp2
          go_roundw
          case rel => go_light; exact ⟨r + 1, by omega, by go_num, rfl, HB⟩
          case measure => simp [intOf]; omega
    · obtain rfl : r = m := by omega
      rw [HRE.out]
      go_wp2
      go_ret
      exact ⟨rfl, btr HB0.out HB.out⟩
end Go.Proofs.Ytcmakddnjmeklaa
