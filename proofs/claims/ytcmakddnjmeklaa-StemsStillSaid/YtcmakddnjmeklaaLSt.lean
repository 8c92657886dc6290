/- Chapter 9: StemsStill's walk. -/
import Derived.Test.YtcmakddnjmeklaaSt
import Derived.Test.YtcmakddnjmeklaaWr
namespace Go.Proofs.Ytcmakddnjmeklaa
open Go.RowKit
set_option linter.unusedSimpArgs false

theorem rest_bad (w : World) (x y : Option Addr) (n c m d : Nat) (f : Int) (W : Wd) (p : List Int) (hA : A2Sl w x n c (trW W).acts) (hp : Sl w y m d (p.take 7)) (hs : stB W p f = false) :
    Calls Try.prog 40 #[wv W.a W.b x n c, .slice y m d, .int .i64 f] w (GivesNo 2 w) :=
  restU_no w x y n c m d f (trW W) (p.take 7) hA hp (by rw [stB_tr]; exact hs)
theorem yield_bad (w : World) (x y : Option Addr) (n c m d : Nat) (f : Int) (W : Wd) (p : List Int) (hA : A2Sl w x n c (trW W).acts) (hp : Sl w y m d (p.take 7)) (hs : stB W p f = false) :
    Calls Try.prog 41 #[wv W.a W.b x n c, .slice y m d, .int .i64 f] w fun e w' => e = .returned (.tuple #[.agg #[.int .i64 0, .int .i64 0], .int .i64 2]) ∧ Below w.heap.size w w' :=
  yieldU_no w x y n c m d f (trW W) (p.take 7) hA hp (by rw [stB_tr]; exact hs)
theorem reach_bad (w : World) (x y : Option Addr) (n c m d : Nat) (f : Int) (W : Wd) (p : List Int) (hA : A2Sl w x n c (trW W).acts) (hp : Sl w y m d (p.take 7)) (hs : stB W p f = false) :
    Calls Try.prog 42 #[wv W.a W.b x n c, .slice y m d, .int .i64 f] w (GivesNum 0 2 w) := by
  have h := reachU_go w x y n c m d f (trW W) (p.take 7) hA hp
  rw [stB_tr, hs] at h
  exact h
theorem reach_ok (w : World) (x y : Option Addr) (n c m d g : Nat) (W : Wd) (p : List Int) (hA : A2Sl w x n c W.acts) (hp : Sl w y m d p) (hok : isPlanB W p = true) (hg : g < W.acts.length) :
    Calls Try.prog 42 #[wv W.a W.b x n c, .slice y m d, .int .i64 g] w (GivesNum (rch W p g) 0 w) := by
  have h := reachU_go w x y n c m d (g : Int) W p hA hp
  rw [stB_of hok hg] at h
  exact h
theorem yield_not (w : World) (x y : Option Addr) (n c m d g : Nat) (W : Wd) (p : List Int) (hA : A2Sl w x n c W.acts) (hp : Sl w y m d p) (hok : isPlanB W p = true) (hg : g < n) (hag : agOk W p g = false) :
    Calls Try.prog 41 #[wv W.a W.b x n c, .slice y m d, .int .i64 g] w fun e w' => e = .returned (.tuple #[.agg #[.int .i64 0, .int .i64 0], .int .i64 5]) ∧ Below w.heap.size w w' :=
  yieldU_go w x y n c m d g W p hA hp hok hg ⟨0, 0⟩ 5 (fun h => by rw [hag] at h; cases h) (fun _ => ⟨rfl, rfl⟩)
theorem yield_ok (w : World) (x y : Option Addr) (n c m d g : Nat) (W : Wd) (p : List Int) (hA : A2Sl w x n c W.acts) (hp : Sl w y m d p) (hok : isPlanB W p = true) (hg : g < n) (hag : agOk W p g = true) {yn yd : Int} (h1 : (yF W p g).n = yn) (h2 : (yF W p g).d = yd) :
    Calls Try.prog 41 #[wv W.a W.b x n c, .slice y m d, .int .i64 g] w fun e w' => e = .returned (.tuple #[.agg #[.int .i64 yn, .int .i64 yd], .int .i64 0]) ∧ Below w.heap.size w w' := by
  subst h1 h2
  exact yieldU_go w x y n c m d g W p hA hp hok hg (yF W p g) 0 (fun _ => ⟨rfl, rfl⟩) (fun h => by rw [hag] at h; cases h)
def FrBx (w : World) (p : Nat) (a b : Int) : Prop := w.heap[p]? = some (.cells #[.int .i64 a, .int .i64 b] 53 (0, 0))
theorem FrBx.mono {w w' : World} {p : Nat} {a b : Int} (h : FrBx w p a b) (hb : Below w.heap.size w w') : FrBx w' p a b := persist h hb
theorem FrBx.cells {w : World} {p : Nat} {a b : Int} (h : FrBx w p a b) : p < w.heap.size ∧ w.cell? ⟨p, 0, none⟩ = some (.int .i64 a) ∧ w.cell? ⟨p, 1, none⟩ = some (.int .i64 b) := ⟨lt_of_block h, by rw [cells_at h]; rfl, by rw [cells_at h]; rfl⟩
theorem fr_one (w : World) (a b : Int) : FrSl (w.alloc (.cells #[.int .i64 a, .int .i64 b] 53)) (some ⟨w.heap.size, 0, none⟩) 1 1 [⟨a, b⟩] :=
  ⟨rfl, Nat.le_refl _, by unfold maxLen; omega, .inr (.inr ⟨_, 0, rfl, by simp, fun i hi => by
    obtain rfl : i = 0 := (by omega)
    have h := new_at w (.cells #[.int .i64 a, .int .i64 b] 53)
    exact ⟨by rw [cells_at h]; rfl, by rw [cells_at h]; rfl⟩⟩)⟩
theorem allN_le {W : Wd} {p : List Int} (h : isPlanB W p = true) {k : Nat} (hk : k ≤ W.acts.length) : 1 ≤ allN W p k ∧ allN W p k ≤ 20736 := by
  obtain ⟨_, _, _, ⟨_, hn4, _⟩, _⟩ := plan_parts h
  have h1 := allN_bd h k hk
  have h2 : k = 0 ∨ k = 1 ∨ k = 2 ∨ k = 3 ∨ k = 4 := by omega
  refine ⟨h1.1, Int.le_trans h1.2 ?_⟩
  rcases h2 with rfl | rfl | rfl | rfl | rfl <;> decide
theorem sumL_bd {l : List Int} {n : Nat} (hl : ∀ s, s < n → 0 ≤ nth l s ∧ nth l s ≤ 20736) : ∀ k, k ≤ n → 0 ≤ sumN (nth l) k ∧ sumN (nth l) k ≤ 20736 * (k : Int)
  | 0, _ => by simp [sumN]
  | k + 1, hk => by
    have ih := sumL_bd hl k (by omega)
    have h1 := hl k (by omega)
    show 0 ≤ sumN (nth l) k + nth l k ∧ sumN (nth l) k + nth l k ≤ _
    omega
theorem sumG_bd {W : Wd} {p l : List Int} (h : isPlanB W p = true) (hl : ∀ s, s < W.acts.length → 0 ≤ nth l s ∧ nth l s ≤ 20736) : ∀ k, k ≤ W.acts.length → -(186624 * (k : Int)) ≤ sumN (fun s => nth l s * gainP W p s) k ∧ sumN (fun s => nth l s * gainP W p s) k ≤ 186624 * (k : Int)
  | 0, _ => by simp [sumN]
  | k + 1, hk => by
    have ih := sumG_bd h hl k (by omega)
    have h1 := hl k (by omega)
    have h3 := gainP_bd h (s := k) (by omega)
    have := mul_le3 (A := 20736) (B := 9) (show -20736 ≤ nth l k by omega) h1.2 h3.1 h3.2 (by omega)
    show _ ≤ sumN (fun s => nth l s * gainP W p s) k + nth l k * gainP W p k ∧ sumN (fun s => nth l s * gainP W p s) k + nth l k * gainP W p k ≤ _
    omega
set_option maxRecDepth 100000 in
set_option maxHeartbeats 16000000 in
theorem lst_walk (w : World) (x : Option Addr) (n c : Nat) (W : Wd) (hA : A2Sl w x n c W.acts) (y : Option Addr) (m d : Nat) (p : List Int) (hp : Sl w y m d p) (_hpb : ∀ z ∈ p, -9223372036854775808 ≤ z ∧ z ≤ 9223372036854775807) (st : Int) (_hd1 : -9223372036854775808 ≤ st) (_hd2 : st ≤ 9223372036854775807) :
    Calls Try.prog 12 #[wv W.a W.b x n c, .slice y m d, .int .i64 st] w fun e w' => e = .returned (.bool true) ∧ Below w.heap.size w w' := by
  have hb0 := bal (Below.refl w.heap.size w) (.cells #[.int .i64 W.a, .int .i64 W.b, .slice x n c] 25)
  have HZ := Lib.hid (boxR_new w W.a W.b x n c)
  have HA := Lib.hid (hA.mono hb0)
  have HB0 := Lib.hid hb0
  have HB := Lib.hid (Bel.refl (w.alloc (.cells #[.int .i64 W.a, .int .i64 W.b, .slice x n c] 25)))
  have HNA := Lib.hid hA.1
  have hcn := hA.2.cap
  have HP := Lib.hid (hp.mono hb0)
  have hcm := hp.cap
  unfold maxLen at hcn hcm
  clear hA hp hb0
  cases hs : stB W p st with
  | false =>
    have HS0 := Lib.hid hs
    clear hs
    go_enter Try.func12, Try.ntmps12
    go_wp2_with fail
    refine (of_any _ x n c W HA.out).mono ?_
    rintro e w1 ⟨x2, n2, c2, rfl, hs, hb⟩
    replace HZ := Lib.hid (HZ.out.mono hb)
    replace HA := Lib.hid (HA.out.mono hb)
    replace HB := Lib.hid (HB.out.mono hb)
    replace HP := Lib.hid (HP.out.mono hb)
    have HS := Lib.hid hs
    clear hb
    obtain ⟨z0, z1, z2, z3⟩ := HZ.out.cells
    go_wp2_with fail
    refine (list_go _ y m d p HP.out).mono ?_
    rintro e w2 ⟨ua, un, uc, rfl, ho, hb⟩
    replace HZ := Lib.hid (HZ.out.mono hb)
    replace HA := Lib.hid (HA.out.mono hb)
    replace HB := Lib.hid (HB.out.mono hb)
    replace HP := Lib.hid (HP.out.mono hb)
    replace HS := Lib.hid (HS.out.mono hb)
    have HU := Lib.hid (own_sl ho)
    clear ho
    clear z0 z1 z2 z3
    clear hb
    obtain ⟨z0, z1, z2, z3⟩ := HZ.out.cells
    go_wp2_with fail
    refine (rest_bad _ x2 ua n2 c2 un uc st W p HS.out HU.out HS0.out).mono ?_
    rintro e w3 ⟨a3, d3, rfl, hb⟩
    replace HZ := Lib.hid (HZ.out.mono hb)
    replace HA := Lib.hid (HA.out.mono hb)
    replace HB := Lib.hid (HB.out.mono hb)
    replace HP := Lib.hid (HP.out.mono hb)
    replace HS := Lib.hid (HS.out.mono hb)
    replace HU := Lib.hid (HU.out.mono hb)
    clear z0 z1 z2 z3
    clear hb
    obtain ⟨z0, z1, z2, z3⟩ := HZ.out.cells
    go_wp2_with fail
    refine (of_any _ x n c W HA.out).mono ?_
    rintro e w4 ⟨x5, n5, c5, rfl, hs, hb⟩
    replace HZ := Lib.hid (HZ.out.mono hb)
    replace HA := Lib.hid (HA.out.mono hb)
    replace HB := Lib.hid (HB.out.mono hb)
    replace HP := Lib.hid (HP.out.mono hb)
    replace HS := Lib.hid (HS.out.mono hb)
    replace HU := Lib.hid (HU.out.mono hb)
    have HS5 := Lib.hid hs
    clear z0 z1 z2 z3
    clear hb
    obtain ⟨z0, z1, z2, z3⟩ := HZ.out.cells
    go_wp2_with fail
    refine (list_go _ y m d p HP.out).mono ?_
    rintro e w5 ⟨ub, um, ud, rfl, ho, hb⟩
    replace HZ := Lib.hid (HZ.out.mono hb)
    replace HA := Lib.hid (HA.out.mono hb)
    replace HB := Lib.hid (HB.out.mono hb)
    replace HP := Lib.hid (HP.out.mono hb)
    replace HS := Lib.hid (HS.out.mono hb)
    replace HU := Lib.hid (HU.out.mono hb)
    replace HS5 := Lib.hid (HS5.out.mono hb)
    have HU5 := Lib.hid (own_sl ho)
    clear ho
    clear z0 z1 z2 z3
    clear hb
    obtain ⟨z0, z1, z2, z3⟩ := HZ.out.cells
    go_wp2_with fail
    refine (yield_bad _ x5 ub n5 c5 um ud st W p HS5.out HU5.out HS0.out).mono ?_
    rintro e w6 ⟨rfl, hb⟩
    replace HZ := Lib.hid (HZ.out.mono hb)
    replace HA := Lib.hid (HA.out.mono hb)
    replace HB := Lib.hid (HB.out.mono hb)
    replace HP := Lib.hid (HP.out.mono hb)
    replace HS := Lib.hid (HS.out.mono hb)
    replace HU := Lib.hid (HU.out.mono hb)
    replace HS5 := Lib.hid (HS5.out.mono hb)
    replace HU5 := Lib.hid (HU5.out.mono hb)
    replace HZ := Lib.hid (HZ.out.mono (bal (Below.refl _ _) (.cells #[.int .i64 0, .int .i64 0] 53)))
    replace HA := Lib.hid (HA.out.mono (bal (Below.refl _ _) (.cells #[.int .i64 0, .int .i64 0] 53)))
    replace HB := Lib.hid (HB.out.mono (bal (Below.refl _ _) (.cells #[.int .i64 0, .int .i64 0] 53)))
    replace HP := Lib.hid (HP.out.mono (bal (Below.refl _ _) (.cells #[.int .i64 0, .int .i64 0] 53)))
    replace HS := Lib.hid (HS.out.mono (bal (Below.refl _ _) (.cells #[.int .i64 0, .int .i64 0] 53)))
    replace HU := Lib.hid (HU.out.mono (bal (Below.refl _ _) (.cells #[.int .i64 0, .int .i64 0] 53)))
    replace HS5 := Lib.hid (HS5.out.mono (bal (Below.refl _ _) (.cells #[.int .i64 0, .int .i64 0] 53)))
    replace HU5 := Lib.hid (HU5.out.mono (bal (Below.refl _ _) (.cells #[.int .i64 0, .int .i64 0] 53)))
    have HYB := Lib.hid (show FrBx (w6.alloc (.cells #[.int .i64 0, .int .i64 0] 53)) w6.heap.size 0 0 from new_at w6 (.cells #[.int .i64 0, .int .i64 0] 53))
    clear z0 z1 z2 z3
    clear hb
    obtain ⟨z0, z1, z2, z3⟩ := HZ.out.cells
    go_wp2_with fail
    refine (of_any _ x n c W HA.out).mono ?_
    rintro e w7 ⟨x6, n6, c6, rfl, hs, hb⟩
    replace HZ := Lib.hid (HZ.out.mono hb)
    replace HA := Lib.hid (HA.out.mono hb)
    replace HB := Lib.hid (HB.out.mono hb)
    replace HP := Lib.hid (HP.out.mono hb)
    replace HS := Lib.hid (HS.out.mono hb)
    replace HU := Lib.hid (HU.out.mono hb)
    replace HS5 := Lib.hid (HS5.out.mono hb)
    replace HU5 := Lib.hid (HU5.out.mono hb)
    have HS6 := Lib.hid hs
    clear z0 z1 z2 z3
    clear hb
    obtain ⟨z0, z1, z2, z3⟩ := HZ.out.cells
    go_wp2_with fail
    refine (list_go _ y m d p HP.out).mono ?_
    rintro e w8 ⟨uv, uw, ux, rfl, ho, hb⟩
    replace HZ := Lib.hid (HZ.out.mono hb)
    replace HA := Lib.hid (HA.out.mono hb)
    replace HB := Lib.hid (HB.out.mono hb)
    replace HP := Lib.hid (HP.out.mono hb)
    replace HS := Lib.hid (HS.out.mono hb)
    replace HU := Lib.hid (HU.out.mono hb)
    replace HS5 := Lib.hid (HS5.out.mono hb)
    replace HU5 := Lib.hid (HU5.out.mono hb)
    replace HS6 := Lib.hid (HS6.out.mono hb)
    have HU6 := Lib.hid (own_sl ho)
    clear ho
    clear z0 z1 z2 z3
    clear hb
    obtain ⟨z0, z1, z2, z3⟩ := HZ.out.cells
    go_wp2_with fail
    refine (reach_bad _ x6 uv n6 c6 uw ux st W p HS6.out HU6.out HS0.out).mono ?_
    rintro e w9 ⟨rfl, hb⟩
    replace HZ := Lib.hid (HZ.out.mono hb)
    replace HA := Lib.hid (HA.out.mono hb)
    replace HB := Lib.hid (HB.out.mono hb)
    replace HP := Lib.hid (HP.out.mono hb)
    replace HS := Lib.hid (HS.out.mono hb)
    replace HU := Lib.hid (HU.out.mono hb)
    replace HS5 := Lib.hid (HS5.out.mono hb)
    replace HU5 := Lib.hid (HU5.out.mono hb)
    replace HS6 := Lib.hid (HS6.out.mono hb)
    replace HU6 := Lib.hid (HU6.out.mono hb)
    clear z0 z1 z2 z3
    clear hb
    obtain ⟨z0, z1, z2, z3⟩ := HZ.out.cells
    go_wp2_with fail
    refine (awake_go _).mono ?_
    rintro e w10 ⟨rfl, hb⟩
    replace HZ := Lib.hid (HZ.out.mono hb)
    replace HA := Lib.hid (HA.out.mono hb)
    replace HB := Lib.hid (HB.out.mono hb)
    replace HP := Lib.hid (HP.out.mono hb)
    replace HS := Lib.hid (HS.out.mono hb)
    replace HU := Lib.hid (HU.out.mono hb)
    replace HS5 := Lib.hid (HS5.out.mono hb)
    replace HU5 := Lib.hid (HU5.out.mono hb)
    replace HS6 := Lib.hid (HS6.out.mono hb)
    replace HU6 := Lib.hid (HU6.out.mono hb)
    clear hb
    go_wp2
    go_ret
    exact ⟨rfl, btr HB0.out HB.out⟩
  | true =>
    obtain ⟨hv, g, rfl, hg⟩ := stB_parts hs
    obtain ⟨_, hpl, hpa, ⟨hn1, hn4, ha1, hab, hbb4⟩, _⟩ := plan_parts hv
    have HPAI := Lib.hid (fun s (hs : s < W.acts.length) => vAc_at (vAc_pact hv hs))
    have HGA := Lib.hid hg
    rw [HNA.out] at hn1 hn4 hpl hpa hg
    have hmn : m = n := by have := HP.out.len; omega
    subst hmn
    have HPA := Lib.hid hpa
    have HV := Lib.hid hv
    have HVW := Lib.hid (show vWd W = true from (plan_parts hv).1)
    clear hv hpa hs
    cases hag : agOk W p g with
    | false =>
      have HAG := Lib.hid hag
      clear hag
      go_enter Try.func12, Try.ntmps12
      go_wp2_with fail
      refine (of_ok _ x m c W HA.out HVW.out).mono ?_
      rintro e w1 ⟨x2, cc2, rfl, hs, hb⟩
      replace HZ := Lib.hid (HZ.out.mono hb)
      replace HA := Lib.hid (HA.out.mono hb)
      replace HB := Lib.hid (HB.out.mono hb)
      replace HP := Lib.hid (HP.out.mono hb)
      have HS := Lib.hid hs
      clear hb
      obtain ⟨z0, z1, z2, z3⟩ := HZ.out.cells
      go_wp2_with fail
      refine (list_ok _ y m d W p HP.out HV.out).mono ?_
      rintro e w2 ⟨ua, uc, rfl, hl, hb⟩
      replace HZ := Lib.hid (HZ.out.mono hb)
      replace HA := Lib.hid (HA.out.mono hb)
      replace HB := Lib.hid (HB.out.mono hb)
      replace HP := Lib.hid (HP.out.mono hb)
      replace HS := Lib.hid (HS.out.mono hb)
      have HU := Lib.hid hl
      clear z0 z1 z2 z3
      clear hb
      obtain ⟨z0, z1, z2, z3⟩ := HZ.out.cells
      go_wp2_with fail
      refine (restU_not _ x2 ua m cc2 m uc g W p HS.out HU.out HV.out hg HAG.out).mono ?_
      rintro e w3 ⟨a3, d3, rfl, hb⟩
      replace HZ := Lib.hid (HZ.out.mono hb)
      replace HA := Lib.hid (HA.out.mono hb)
      replace HB := Lib.hid (HB.out.mono hb)
      replace HP := Lib.hid (HP.out.mono hb)
      replace HS := Lib.hid (HS.out.mono hb)
      replace HU := Lib.hid (HU.out.mono hb)
      clear z0 z1 z2 z3
      clear hb
      obtain ⟨z0, z1, z2, z3⟩ := HZ.out.cells
      go_wp2_with fail
      refine (of_ok _ x m c W HA.out HVW.out).mono ?_
      rintro e w4 ⟨x5, cc5, rfl, hs, hb⟩
      replace HZ := Lib.hid (HZ.out.mono hb)
      replace HA := Lib.hid (HA.out.mono hb)
      replace HB := Lib.hid (HB.out.mono hb)
      replace HP := Lib.hid (HP.out.mono hb)
      replace HS := Lib.hid (HS.out.mono hb)
      replace HU := Lib.hid (HU.out.mono hb)
      have HS5 := Lib.hid hs
      clear z0 z1 z2 z3
      clear hb
      obtain ⟨z0, z1, z2, z3⟩ := HZ.out.cells
      go_wp2_with fail
      refine (list_ok _ y m d W p HP.out HV.out).mono ?_
      rintro e w5 ⟨ub, ud, rfl, hl, hb⟩
      replace HZ := Lib.hid (HZ.out.mono hb)
      replace HA := Lib.hid (HA.out.mono hb)
      replace HB := Lib.hid (HB.out.mono hb)
      replace HP := Lib.hid (HP.out.mono hb)
      replace HS := Lib.hid (HS.out.mono hb)
      replace HU := Lib.hid (HU.out.mono hb)
      replace HS5 := Lib.hid (HS5.out.mono hb)
      have HU5 := Lib.hid hl
      clear z0 z1 z2 z3
      clear hb
      obtain ⟨z0, z1, z2, z3⟩ := HZ.out.cells
      go_wp2_with fail
      refine (yield_not _ x5 ub m cc5 m ud g W p HS5.out HU5.out HV.out hg HAG.out).mono ?_
      rintro e w6 ⟨rfl, hb⟩
      replace HZ := Lib.hid (HZ.out.mono hb)
      replace HA := Lib.hid (HA.out.mono hb)
      replace HB := Lib.hid (HB.out.mono hb)
      replace HP := Lib.hid (HP.out.mono hb)
      replace HS := Lib.hid (HS.out.mono hb)
      replace HU := Lib.hid (HU.out.mono hb)
      replace HS5 := Lib.hid (HS5.out.mono hb)
      replace HU5 := Lib.hid (HU5.out.mono hb)
      replace HZ := Lib.hid (HZ.out.mono (bal (Below.refl _ _) (.cells #[.int .i64 0, .int .i64 0] 53)))
      replace HA := Lib.hid (HA.out.mono (bal (Below.refl _ _) (.cells #[.int .i64 0, .int .i64 0] 53)))
      replace HB := Lib.hid (HB.out.mono (bal (Below.refl _ _) (.cells #[.int .i64 0, .int .i64 0] 53)))
      replace HP := Lib.hid (HP.out.mono (bal (Below.refl _ _) (.cells #[.int .i64 0, .int .i64 0] 53)))
      replace HS := Lib.hid (HS.out.mono (bal (Below.refl _ _) (.cells #[.int .i64 0, .int .i64 0] 53)))
      replace HU := Lib.hid (HU.out.mono (bal (Below.refl _ _) (.cells #[.int .i64 0, .int .i64 0] 53)))
      replace HS5 := Lib.hid (HS5.out.mono (bal (Below.refl _ _) (.cells #[.int .i64 0, .int .i64 0] 53)))
      replace HU5 := Lib.hid (HU5.out.mono (bal (Below.refl _ _) (.cells #[.int .i64 0, .int .i64 0] 53)))
      have HYB := Lib.hid (show FrBx (w6.alloc (.cells #[.int .i64 0, .int .i64 0] 53)) w6.heap.size 0 0 from new_at w6 (.cells #[.int .i64 0, .int .i64 0] 53))
      clear z0 z1 z2 z3
      clear hb
      obtain ⟨z0, z1, z2, z3⟩ := HZ.out.cells
      go_wp2_with fail
      refine (of_ok _ x m c W HA.out HVW.out).mono ?_
      rintro e w7 ⟨x6, cc6, rfl, hs, hb⟩
      replace HZ := Lib.hid (HZ.out.mono hb)
      replace HA := Lib.hid (HA.out.mono hb)
      replace HB := Lib.hid (HB.out.mono hb)
      replace HP := Lib.hid (HP.out.mono hb)
      replace HS := Lib.hid (HS.out.mono hb)
      replace HU := Lib.hid (HU.out.mono hb)
      replace HS5 := Lib.hid (HS5.out.mono hb)
      replace HU5 := Lib.hid (HU5.out.mono hb)
      have HS6 := Lib.hid hs
      clear z0 z1 z2 z3
      clear hb
      obtain ⟨z0, z1, z2, z3⟩ := HZ.out.cells
      go_wp2_with fail
      refine (list_ok _ y m d W p HP.out HV.out).mono ?_
      rintro e w8 ⟨uv, uw, rfl, hl, hb⟩
      replace HZ := Lib.hid (HZ.out.mono hb)
      replace HA := Lib.hid (HA.out.mono hb)
      replace HB := Lib.hid (HB.out.mono hb)
      replace HP := Lib.hid (HP.out.mono hb)
      replace HS := Lib.hid (HS.out.mono hb)
      replace HU := Lib.hid (HU.out.mono hb)
      replace HS5 := Lib.hid (HS5.out.mono hb)
      replace HU5 := Lib.hid (HU5.out.mono hb)
      replace HS6 := Lib.hid (HS6.out.mono hb)
      have HU6 := Lib.hid hl
      clear z0 z1 z2 z3
      clear hb
      obtain ⟨z0, z1, z2, z3⟩ := HZ.out.cells
      go_wp2_with fail
      refine (reach_ok _ x6 uv m cc6 m uw g W p HS6.out HU6.out HV.out HGA.out).mono ?_
      rintro e w9 ⟨rfl, hb⟩
      replace HZ := Lib.hid (HZ.out.mono hb)
      replace HA := Lib.hid (HA.out.mono hb)
      replace HB := Lib.hid (HB.out.mono hb)
      replace HP := Lib.hid (HP.out.mono hb)
      replace HS := Lib.hid (HS.out.mono hb)
      replace HU := Lib.hid (HU.out.mono hb)
      replace HS5 := Lib.hid (HS5.out.mono hb)
      replace HU5 := Lib.hid (HU5.out.mono hb)
      replace HS6 := Lib.hid (HS6.out.mono hb)
      replace HU6 := Lib.hid (HU6.out.mono hb)
      clear z0 z1 z2 z3
      clear hb
      obtain ⟨z0, z1, z2, z3⟩ := HZ.out.cells
      go_wp2_with fail
      refine (awake_go _).mono ?_
      rintro e w10 ⟨rfl, hb⟩
      replace HZ := Lib.hid (HZ.out.mono hb)
      replace HA := Lib.hid (HA.out.mono hb)
      replace HB := Lib.hid (HB.out.mono hb)
      replace HP := Lib.hid (HP.out.mono hb)
      replace HS := Lib.hid (HS.out.mono hb)
      replace HU := Lib.hid (HU.out.mono hb)
      replace HS5 := Lib.hid (HS5.out.mono hb)
      replace HU5 := Lib.hid (HU5.out.mono hb)
      replace HS6 := Lib.hid (HS6.out.mono hb)
      replace HU6 := Lib.hid (HU6.out.mono hb)
      clear hb
      go_wp2
      go_ret
      exact ⟨rfl, btr HB0.out HB.out⟩
    | true =>
      have HAG := Lib.hid hag
      obtain ⟨yn, hyn⟩ : ∃ v, (yF W p g).n = v := ⟨_, rfl⟩
      obtain ⟨yd, hyd⟩ : ∃ v, (yF W p g).d = v := ⟨_, rfl⟩
      have HYN := Lib.hid hyn
      have HYD := Lib.hid hyd
      have HYL := Lib.hid (show FrLow ⟨yn, yd⟩ by rw [← hyn, ← hyd]; exact yF_low HV.out hag HGA.out)
      clear hag hyn hyd
      go_enter Try.func12, Try.ntmps12
      go_wp2_with fail
      refine (of_ok _ x m c W HA.out HVW.out).mono ?_
      rintro e w1 ⟨x2, cc2, rfl, hs, hb⟩
      replace HZ := Lib.hid (HZ.out.mono hb)
      replace HA := Lib.hid (HA.out.mono hb)
      replace HB := Lib.hid (HB.out.mono hb)
      replace HP := Lib.hid (HP.out.mono hb)
      have HS := Lib.hid hs
      clear hb
      obtain ⟨z0, z1, z2, z3⟩ := HZ.out.cells
      go_wp2_with fail
      refine (list_ok _ y m d W p HP.out HV.out).mono ?_
      rintro e w2 ⟨ua, uc, rfl, hl, hb⟩
      replace HZ := Lib.hid (HZ.out.mono hb)
      replace HA := Lib.hid (HA.out.mono hb)
      replace HB := Lib.hid (HB.out.mono hb)
      replace HP := Lib.hid (HP.out.mono hb)
      replace HS := Lib.hid (HS.out.mono hb)
      have HU := Lib.hid hl
      clear z0 z1 z2 z3
      clear hb
      obtain ⟨z0, z1, z2, z3⟩ := HZ.out.cells
      go_wp2_with fail
      refine (restU_ok _ x2 ua m cc2 m uc g W p HS.out HU.out HV.out hg HAG.out).mono ?_
      rintro e w3 ⟨fa, fc, rfl, hF, hb⟩
      replace HZ := Lib.hid (HZ.out.mono hb)
      replace HA := Lib.hid (HA.out.mono hb)
      replace HB := Lib.hid (HB.out.mono hb)
      replace HP := Lib.hid (HP.out.mono hb)
      replace HS := Lib.hid (HS.out.mono hb)
      replace HU := Lib.hid (HU.out.mono hb)
      have HF := Lib.hid hF
      clear z0 z1 z2 z3
      clear hb
      obtain ⟨z0, z1, z2, z3⟩ := HZ.out.cells
      go_wp2_with fail
      refine (of_ok _ x m c W HA.out HVW.out).mono ?_
      rintro e w4 ⟨x5, cc5, rfl, hs, hb⟩
      replace HZ := Lib.hid (HZ.out.mono hb)
      replace HA := Lib.hid (HA.out.mono hb)
      replace HB := Lib.hid (HB.out.mono hb)
      replace HP := Lib.hid (HP.out.mono hb)
      replace HS := Lib.hid (HS.out.mono hb)
      replace HU := Lib.hid (HU.out.mono hb)
      replace HF := Lib.hid (HF.out.mono hb)
      have HS5 := Lib.hid hs
      clear z0 z1 z2 z3
      clear hb
      obtain ⟨z0, z1, z2, z3⟩ := HZ.out.cells
      go_wp2_with fail
      refine (list_ok _ y m d W p HP.out HV.out).mono ?_
      rintro e w5 ⟨ub, ud, rfl, hl, hb⟩
      replace HZ := Lib.hid (HZ.out.mono hb)
      replace HA := Lib.hid (HA.out.mono hb)
      replace HB := Lib.hid (HB.out.mono hb)
      replace HP := Lib.hid (HP.out.mono hb)
      replace HS := Lib.hid (HS.out.mono hb)
      replace HU := Lib.hid (HU.out.mono hb)
      replace HF := Lib.hid (HF.out.mono hb)
      replace HS5 := Lib.hid (HS5.out.mono hb)
      have HU5 := Lib.hid hl
      clear z0 z1 z2 z3
      clear hb
      obtain ⟨z0, z1, z2, z3⟩ := HZ.out.cells
      go_wp2_with fail
      refine (yield_ok _ x5 ub m cc5 m ud g W p HS5.out HU5.out HV.out hg HAG.out HYN.out HYD.out).mono ?_
      rintro e w6 ⟨rfl, hb⟩
      replace HZ := Lib.hid (HZ.out.mono hb)
      replace HA := Lib.hid (HA.out.mono hb)
      replace HB := Lib.hid (HB.out.mono hb)
      replace HP := Lib.hid (HP.out.mono hb)
      replace HS := Lib.hid (HS.out.mono hb)
      replace HU := Lib.hid (HU.out.mono hb)
      replace HF := Lib.hid (HF.out.mono hb)
      replace HS5 := Lib.hid (HS5.out.mono hb)
      replace HU5 := Lib.hid (HU5.out.mono hb)
      replace HZ := Lib.hid (HZ.out.mono (bal (Below.refl _ _) (.cells #[.int .i64 yn, .int .i64 yd] 53)))
      replace HA := Lib.hid (HA.out.mono (bal (Below.refl _ _) (.cells #[.int .i64 yn, .int .i64 yd] 53)))
      replace HB := Lib.hid (HB.out.mono (bal (Below.refl _ _) (.cells #[.int .i64 yn, .int .i64 yd] 53)))
      replace HP := Lib.hid (HP.out.mono (bal (Below.refl _ _) (.cells #[.int .i64 yn, .int .i64 yd] 53)))
      replace HS := Lib.hid (HS.out.mono (bal (Below.refl _ _) (.cells #[.int .i64 yn, .int .i64 yd] 53)))
      replace HU := Lib.hid (HU.out.mono (bal (Below.refl _ _) (.cells #[.int .i64 yn, .int .i64 yd] 53)))
      replace HF := Lib.hid (HF.out.mono (bal (Below.refl _ _) (.cells #[.int .i64 yn, .int .i64 yd] 53)))
      replace HS5 := Lib.hid (HS5.out.mono (bal (Below.refl _ _) (.cells #[.int .i64 yn, .int .i64 yd] 53)))
      replace HU5 := Lib.hid (HU5.out.mono (bal (Below.refl _ _) (.cells #[.int .i64 yn, .int .i64 yd] 53)))
      have HYB := Lib.hid (show FrBx (w6.alloc (.cells #[.int .i64 yn, .int .i64 yd] 53)) w6.heap.size yn yd from new_at w6 (.cells #[.int .i64 yn, .int .i64 yd] 53))
      clear z0 z1 z2 z3
      clear hb
      obtain ⟨z0, z1, z2, z3⟩ := HZ.out.cells
      go_wp2_with fail
      refine (of_ok _ x m c W HA.out HVW.out).mono ?_
      rintro e w7 ⟨x6, cc6, rfl, hs, hb⟩
      replace HZ := Lib.hid (HZ.out.mono hb)
      replace HA := Lib.hid (HA.out.mono hb)
      replace HB := Lib.hid (HB.out.mono hb)
      replace HP := Lib.hid (HP.out.mono hb)
      replace HF := Lib.hid (HF.out.mono hb)
      replace HYB := Lib.hid (HYB.out.mono hb)
      have HS6 := Lib.hid hs
      clear z0 z1 z2 z3
      clear hb
      obtain ⟨z0, z1, z2, z3⟩ := HZ.out.cells
      go_wp2_with fail
      refine (list_ok _ y m d W p HP.out HV.out).mono ?_
      rintro e w8 ⟨uv, uw, rfl, hl, hb⟩
      replace HZ := Lib.hid (HZ.out.mono hb)
      replace HA := Lib.hid (HA.out.mono hb)
      replace HB := Lib.hid (HB.out.mono hb)
      replace HP := Lib.hid (HP.out.mono hb)
      replace HF := Lib.hid (HF.out.mono hb)
      replace HYB := Lib.hid (HYB.out.mono hb)
      replace HS6 := Lib.hid (HS6.out.mono hb)
      have HU6 := Lib.hid hl
      clear z0 z1 z2 z3
      clear hb
      obtain ⟨z0, z1, z2, z3⟩ := HZ.out.cells
      go_wp2_with fail
      refine (reach_ok _ x6 uv m cc6 m uw g W p HS6.out HU6.out HV.out HGA.out).mono ?_
      rintro e w9 ⟨rfl, hb⟩
      replace HZ := Lib.hid (HZ.out.mono hb)
      replace HA := Lib.hid (HA.out.mono hb)
      replace HB := Lib.hid (HB.out.mono hb)
      replace HP := Lib.hid (HP.out.mono hb)
      replace HF := Lib.hid (HF.out.mono hb)
      replace HYB := Lib.hid (HYB.out.mono hb)
      replace HS6 := Lib.hid (HS6.out.mono hb)
      replace HU6 := Lib.hid (HU6.out.mono hb)
      clear z0 z1 z2 z3
      clear hb
      obtain ⟨z0, z1, z2, z3⟩ := HZ.out.cells
      go_wp2_with fail
      refine (fine_go _ x y m c m d W p HA.out HP.out).mono ?_
      rintro e w10 ⟨rfl, hb⟩
      replace HZ := Lib.hid (HZ.out.mono hb)
      replace HA := Lib.hid (HA.out.mono hb)
      replace HB := Lib.hid (HB.out.mono hb)
      replace HP := Lib.hid (HP.out.mono hb)
      replace HF := Lib.hid (HF.out.mono hb)
      replace HYB := Lib.hid (HYB.out.mono hb)
      rw [HV.out]
      clear z0 z1 z2 z3
      clear hb
      obtain ⟨z0, z1, z2, z3⟩ := HZ.out.cells
      go_wp2_with fail
      refine (lowest_go _ fa m fc _ HF.out (fun i hi => restF_low HV.out HAG.out HGA.out (by have := HNA.out; omega))).mono ?_
      rintro e w11 ⟨rfl, hb⟩
      replace HZ := Lib.hid (HZ.out.mono hb)
      replace HA := Lib.hid (HA.out.mono hb)
      replace HB := Lib.hid (HB.out.mono hb)
      replace HP := Lib.hid (HP.out.mono hb)
      replace HF := Lib.hid (HF.out.mono hb)
      replace HYB := Lib.hid (HYB.out.mono hb)
      clear z0 z1 z2 z3
      clear hb
      obtain ⟨z0, z1, z2, z3⟩ := HZ.out.cells
      obtain ⟨y0, y1, y2⟩ := HYB.out.cells
      go_wp2_with fail
      replace HZ := Lib.hid (HZ.out.mono (bal (Below.refl _ _) (.cells #[.int .i64 yn, .int .i64 yd] 53)))
      replace HA := Lib.hid (HA.out.mono (bal (Below.refl _ _) (.cells #[.int .i64 yn, .int .i64 yd] 53)))
      replace HB := Lib.hid (HB.out.mono (bal (Below.refl _ _) (.cells #[.int .i64 yn, .int .i64 yd] 53)))
      replace HP := Lib.hid (HP.out.mono (bal (Below.refl _ _) (.cells #[.int .i64 yn, .int .i64 yd] 53)))
      replace HF := Lib.hid (HF.out.mono (bal (Below.refl _ _) (.cells #[.int .i64 yn, .int .i64 yd] 53)))
      replace HYB := Lib.hid (HYB.out.mono (bal (Below.refl _ _) (.cells #[.int .i64 yn, .int .i64 yd] 53)))
      refine (lowest_go _ (some ⟨w11.heap.size, 0, none⟩) 1 1 [⟨yn, yd⟩] (fr_one w11 yn yd) (fun i hi => by (obtain rfl : i = 0 := (by omega)); exact HYL.out)).mono ?_
      rintro e w12 ⟨rfl, hb⟩
      replace HZ := Lib.hid (HZ.out.mono hb)
      replace HA := Lib.hid (HA.out.mono hb)
      replace HB := Lib.hid (HB.out.mono hb)
      replace HP := Lib.hid (HP.out.mono hb)
      replace HF := Lib.hid (HF.out.mono hb)
      replace HYB := Lib.hid (HYB.out.mono hb)
      clear hb z0 z1 z2 z3 y0 y1 y2
      obtain ⟨z0, z1, z2, z3⟩ := HZ.out.cells
      have hrd := restD_bd HV.out HAG.out HGA.out
      go_wp2_with fail
      refine (whole_go _ fa m fc _ (restD W p g) HF.out (by omega) hrd.1 (by omega) (fun i hi => restF_low HV.out HAG.out HGA.out (by have := HNA.out; omega)) (fun i hi => restF_dvd HV.out HAG.out HGA.out (by have := HNA.out; omega))).mono ?_
      rintro e w13 ⟨la, nl, lc, ln, dv, rfl, hWh, hSl, hb⟩
      replace HZ := Lib.hid (HZ.out.mono hb)
      replace HA := Lib.hid (HA.out.mono hb)
      replace HB := Lib.hid (HB.out.mono hb)
      replace HP := Lib.hid (HP.out.mono hb)
      replace HF := Lib.hid (HF.out.mono hb)
      replace HYB := Lib.hid (HYB.out.mono hb)
      have HL := Lib.hid hSl
      have hnl : m = nl := by rw [← hSl.len, hWh.2.2.1, restF_len]; exact HNA.out.symm
      subst hnl
      have HWH := Lib.hid hWh
      clear z0 z1 z2 z3
      clear hb
      obtain ⟨z0, z1, z2, z3⟩ := HZ.out.cells
      clear hWh hSl hrd
      have hwb := whole_bd HV.out HAG.out HGA.out HWH.out
      have HWB := Lib.hid hwb.2.2.2
      have hdv1 := hwb.1
      have hdv2 := hwb.2.1
      clear hwb
      clear z0 z1 z2 z3
      go_wp2
      generalize w13 = V at *
      go_loopw [16, 122] (fun v t2 wr => ∃ s : Nat, s ≤ m ∧ t2 = .int .i64 s ∧ v = .int .i64 (allN W p s) ∧ V = wr) (fun _ t2 _ => m - (intOf t2).toNat)
      case atStart => exact ⟨0, by omega, rfl, rfl, rfl⟩
      case round =>
        obtain ⟨s, hs, rfl, rfl, rfl⟩ := hrel
        by_cases hls : s < m
        · have hsA : s < W.acts.length := by rw [HNA.out]; exact hls
          obtain ⟨_, _, hol, hor, _, _⟩ := HPAI.out s hsA
          obtain ⟨hp0, hp1⟩ := HPA.out s hls
          obtain ⟨t0, ht0⟩ : ∃ t0 : Nat, nth p s = (t0 : Int) := ⟨(nth p s).toNat, by omega⟩
          have hX : pact W.acts p s = ac (acl W.acts s) t0 := by unfold pact; rw [ht0]; rfl
          have hPO : podds W p s = (ac (acl W.acts s) t0).o := by unfold podds; rw [hX]
          rw [hX, ← hPO] at hol hor
          obtain ⟨b3, o3, rfl, hb3, hc3⟩ := HA.out.at (by omega)
          obtain ⟨a2, m2, q2, e2, h2⟩ := hc3 s hls
          have hl2 := h2.1
          have htm : t0 < m2 := by omega
          obtain ⟨b4, o4, rfl, hb4, hc4⟩ := h2.at (by omega)
          obtain ⟨eg, z, k, q, eo, hSl⟩ := hc4 t0 htm
          obtain ⟨b5, o5, rfl, hb5, hc5⟩ := HP.out.at (by omega)
          have e5 := hc5 s hls
          rw [ht0] at e5
          rw [← hPO] at hSl
          have hcq := h2.2.cap
          unfold maxLen at hcq
          have hal := allN_le HV.out (k := s) (by omega)
          have hal2 := allN_le HV.out (k := s + 1) (by omega)
          have HAN := Lib.hid (show allN W p (s + 1) = allN W p s * isum (podds W p s) from rfl)
          have hk8 : k ≤ 8 := by have := hSl.len; have := HNA.out; omega
          have HSL := Lib.hid hSl
          have HOR := Lib.hid hor
          have k1 : IntKind.i64.wrap (allN W p s * isum (podds W p s)) = allN W p (s + 1) := wrap_i64j _ (show -9223372036854775808 ≤ allN W p (s + 1) by omega) (show allN W p (s + 1) < 9223372036854775808 by omega)
          obtain ⟨z0, z1, z2, z3⟩ := HZ.out.cells
          clear hc3 hc4 hc5 h2 hSl hor hX hPO hp0 hp1 hal hal2
          go_wp2_with fail
          refine (rsum_go _ z k q (podds W p s) HSL.out hk8 HOR.out).mono ?_
          rintro e w20 ⟨rfl, rfl⟩
          go_wp2
          go_roundw
          case rel => go_light; exact ⟨s + 1, by omega, by go_num, rfl, by trivial⟩
          case measure => simp [intOf]; omega
        · obtain rfl : s = m := by omega
          have hall := all_max HV.out
          have HALE := Lib.hid (show allN W p s = allN W p W.acts.length by rw [HNA.out])
          rw [← HALE.out] at hall
          obtain ⟨al, hal⟩ : ∃ al, allN W p s = al := ⟨_, rfl⟩
          have HAL := Lib.hid hal
          rw [hal] at hall ⊢
          clear hal
          obtain ⟨i0, hi, hz0, hz1, hz2⟩ := info_parts infoInt
          go_wp2_with (refine wpList_make_full _ rfl _ _ 26 rfl V.heap.size 3 i0 (.int .i64 0) 1 Try.underlying26 hi hz0 hz1 .i64 .i64 s s s rfl rfl rfl rfl (by rw [hz2]; omega) (by unfold maxLen; omega) (Nat.le_refl _) ?_; intro w14 hown14 hgrow14)
          rw [show (Value.int .i64 0).cells = #[Value.int .i64 0] from rfl, toList_madeCells_one, Nat.mul_one] at hown14
          have HN := Lib.hid (show w14.ownsRow V.heap.size 3 1 (.slice (some ⟨V.heap.size, 0, none⟩) s s) s ((nxL W p ln 0 0).map (Value.int .i64)) by rw [nxL_zero, HNA.out]; simpa using hown14)
          have HB14 := Lib.hid ((Below.refl V.heap.size V).grown hgrow14 (Nat.le_refl _) (fun _ h => by cases h))
          clear hown14 hgrow14 hi hz0 hz1 hz2
          go_wp2
          go_loopw [19, 20, 21, 22, 145] (fun v1 v2 v3 v4 t2 wr => ∃ (u : Nat) (lo hi : Int), u ≤ s ∧ t2 = .int .i64 u ∧ v1 = .int .i64 (sumN (nth ln) u) ∧ v2 = .int .i64 (sumN (fun s => nth ln s * gainP W p s) u) ∧ v3 = .int .i64 lo ∧ v4 = .int .i64 hi ∧ Hid (-9 ≤ lo ∧ lo ≤ 9 ∧ -9 ≤ hi ∧ hi ≤ 9 ∧ ∀ j, j < u → lo ≤ gainP W p j ∧ gainP W p j ≤ hi) ∧ Hid (wr.ownsRow V.heap.size 3 1 (.slice (some ⟨V.heap.size, 0, none⟩) s s) s ((nxL W p ln u 0).map (Value.int .i64))) ∧ Hid (Below V.heap.size V wr)) (fun _ _ _ _ t2 _ => s - (intOf t2).toNat)
          case atStart => exact ⟨0, 9, -9, by omega, rfl, rfl, rfl, rfl, rfl, Lib.hid ⟨by omega, by omega, by omega, by omega, fun j hj => by omega⟩, HN, HB14⟩
          case round =>
            clear HN HB14
            obtain ⟨u, lo, hi, hu, rfl, rfl, rfl, rfl, rfl, HLH, HN, HB2⟩ := hrel
            by_cases hlu : u < s
            · have hsA : u < W.acts.length := by rw [HNA.out]; exact hlu
              obtain ⟨hgg1, hgg2, _, _, _, _⟩ := HPAI.out u hsA
              obtain ⟨hp0, hp1⟩ := HPA.out u hlu
              obtain ⟨t0, ht0⟩ : ∃ t0 : Nat, nth p u = (t0 : Int) := ⟨(nth p u).toNat, by omega⟩
              have hX : pact W.acts p u = ac (acl W.acts u) t0 := by unfold pact; rw [ht0]; rfl
              have hPO : podds W p u = (ac (acl W.acts u) t0).o := by unfold podds; rw [hX]
              have hPG : gainP W p u = (ac (acl W.acts u) t0).g := by unfold gainP; rw [hX]
              obtain ⟨gg, hgg⟩ : ∃ gg, gainP W p u = gg := ⟨_, rfl⟩
              rw [hX, ← hPG, hgg] at hgg1 hgg2
              obtain ⟨b3, o3, rfl, hb3, hc3⟩ := HA.out.at (by omega)
              obtain ⟨a2, m2, q2, e2, h2⟩ := hc3 u hlu
              have hl2 := h2.1
              have htm : t0 < m2 := by omega
              obtain ⟨b4, o4, rfl, hb4, hc4⟩ := h2.at (by omega)
              obtain ⟨eg, z, k, q, eo, hSl⟩ := hc4 t0 htm
              obtain ⟨b5, o5, rfl, hb5, hc5⟩ := HP.out.at (by omega)
              have e5 := hc5 u hlu
              rw [ht0] at e5
              rw [← hPO] at hSl
              rw [← hPG, hgg] at eg
              have hcq := h2.2.cap
              unfold maxLen at hcq
              have hkk : k = s := by have := hSl.len; rw [podds_len HV.out hsA] at this; have := HNA.out; omega
              subst hkk
              obtain ⟨b6, o6, rfl, hb6, hc6⟩ := HL.out.at (by omega)
              have e6 := hc6 u hlu
              have hb6w := Nat.lt_of_lt_of_le hb6 HB2.out.size
              rw [← (bcell HB2.out).1 _ _ hb6] at e6
              rw [← (bcell HB2.out).1 _ _ hb5] at e5
              rw [← (bcell HB2.out).1 _ _ hb4] at eg eo
              rw [← (bcell HB2.out).1 _ _ hb3] at e2
              obtain ⟨hlb0, hlb1, hbit⟩ := HWB.out u hsA
              obtain ⟨ls, hls⟩ : ∃ ls, nth ln u = ls := ⟨_, rfl⟩
              rw [hls] at e6 hlb0 hlb1 hbit
              have HSL := Lib.hid hSl
              obtain ⟨z0, z1, z2, z3⟩ := (HZ.out.mono HB2.out).cells
              clear hc3 hc4 hc5 hc6 h2 hSl hX hPO hPG hp0 hp1
              have hlt0 : decide (ls < 0) = false := by simpa using hlb0
              have hSB := sumL_bd (l := ln) (n := W.acts.length) (fun s hs => ⟨(HWB.out s hs).1, (HWB.out s hs).2.1⟩) u (by omega)
              have hSB2 := sumL_bd (l := ln) (n := W.acts.length) (fun s hs => ⟨(HWB.out s hs).1, (HWB.out s hs).2.1⟩) (u + 1) (by omega)
              have hGB := sumG_bd HV.out (l := ln) (fun s hs => ⟨(HWB.out s hs).1, (HWB.out s hs).2.1⟩) u (by omega)
              have hGB2 := sumG_bd HV.out (l := ln) (fun s hs => ⟨(HWB.out s hs).1, (HWB.out s hs).2.1⟩) (u + 1) (by omega)
              have hq1 : sumN (nth ln) (u + 1) = sumN (nth ln) u + nth ln u := rfl
              have hq2 : sumN (fun s => nth ln s * gainP W p s) (u + 1) = sumN (fun s => nth ln s * gainP W p s) u + nth ln u * gainP W p u := rfl
              rw [hls] at hq1 hq2
              rw [hgg] at hq2
              have HQ1 := Lib.hid hq1
              have HQ2 := Lib.hid hq2
              rw [hq1] at hSB2
              rw [hq2] at hGB2
              generalize sumN (nth ln) u = su at *
              generalize sumN (fun s => nth ln s * gainP W p s) u = gu at *
              have hm4 : k ≤ 4 := by have := (plan_parts HV.out).2.2.2.1; have := HNA.out; omega
              have mm := mul_le3 (A := 20736) (B := 9) (show -20736 ≤ ls by omega) hlb1 hgg1 hgg2 (by omega)
              have k1 : IntKind.i64.wrap (su + ls) = su + ls := wrap_i64j _ (by omega) (by omega)
              have k2 : IntKind.i64.wrap (ls * gg) = ls * gg := wrap_i64j _ (by omega) (by omega)
              have k3 : IntKind.i64.wrap (gu + ls * gg) = gu + ls * gg := wrap_i64j _ (by omega) (by omega)
              have hr15 := rch_16 HV.out HGA.out
              have hb9 := bits_bt (rch W p g) u (by omega)
              have hb0 := bt0 (rch W p g) u
              have hs64 : u < 64 := by omega
              have HGG := Lib.hid hgg
              have HLS := Lib.hid hls
              have hax := new_at wr (.cells #[.int .i64 gg, .slice z k q] 42)
              have HAX := Lib.hid (show ActB (wr.alloc (.cells #[.int .i64 gg, .slice z k q] 42)) wr.heap.size gg z k q from hax)
              have HBA := Lib.hid (bal (Below.refl _ _) (.cells #[.int .i64 gg, .slice z k q] 42) : Below wr.heap.size wr _)
              obtain ⟨x0, x1, x2'⟩ := HAX.out.cells
              have e6' : (wr.alloc (.cells #[.int .i64 gg, .slice z k q] 42)).cell? ⟨b6, o6 + u, none⟩ = some (.int .i64 ls) := ((bcell HBA.out).1 _ _ hb6w).trans e6
              have hfin : (decide (0 < ls) = false) ∨ (decide (0 < ls) = true ∧ (rch W p g).testBit u = true) := by
                by_cases h : 0 < ls
                · exact .inr ⟨by simpa using h, hbit h⟩
                · exact .inl (by simpa using h)
              clear hSB hSB2 hGB hGB2 mm hq1 hq2 hax hgg hls hbit
              rcases hfin with hf1 | ⟨hf1, hf2⟩
              all_goals (try rw [hf2] at hb0)
              all_goals go_wp2
              all_goals go_region
              all_goals go_wp2
              all_goals go_region
              all_goals
                have HLO := Lib.hid HLH.out
                obtain ⟨lo2, hlo2⟩ : ∃ v, (if gg < lo then gg else lo) = v := ⟨_, rfl⟩
                obtain ⟨hi2, hhi2⟩ : ∃ v, (if hi < gg then gg else hi) = v := ⟨_, rfl⟩
                rw [hlo2, hhi2]
                have HLH2 := Lib.hid (show -9 ≤ lo2 ∧ lo2 ≤ 9 ∧ -9 ≤ hi2 ∧ hi2 ≤ 9 ∧ ∀ j, j < u + 1 → lo2 ≤ gainP W p j ∧ gainP W p j ≤ hi2 from by
                  obtain ⟨y1, y2, y3, y4, y5⟩ := HLO.out
                  have yl : lo2 ≤ gg ∧ lo2 ≤ lo ∧ -9 ≤ lo2 := by rw [← hlo2]; split <;> omega
                  have yh : gg ≤ hi2 ∧ hi ≤ hi2 ∧ hi2 ≤ 9 := by rw [← hhi2]; split <;> omega
                  refine ⟨yl.2.2, by omega, by omega, yh.2.2, fun j hj => ?_⟩
                  by_cases e : j = u
                  · subst e; rw [HGG.out]; exact ⟨yl.1, yh.1⟩
                  · have := y5 j (by omega); omega)
                clear hlo2 hhi2 HLO
                have hgz : V.heap.size < wr.heap.size := by
                  obtain ⟨_, e9, hgt, hgz, _⟩ := own_cells HN.out (by omega)
                  injection e9 with e9
                  injection e9 with e9
                  subst e9
                  exact hgz
                go_wp2
                refine wp_onExit (k := 4) (st_in V _ V.heap.size wr.heap.size k lc q u al gg _ z W p ln HV.out HNA.out hlu HL.out (fun s hs => by have := HWB.out s (by rw [HNA.out]; exact hs); exact ⟨this.1, this.2.1⟩) HSL.out HAL.out ((btr HB2.out HBA.out).drew.drew) (Nat.le_refl _) (HAX.out.mono ((Below.refl _ _).drew.drew)) (by omega) (own_mono HN.out HBA.out.drew.drew) _ _ _ _ _ _ _ _ _ _ _ _ _ _ _ _ _ _ _ _ _ _ _ _ _ _ _ _ _ _ _ _ _ _ _ _ _ _ _ _ _ _ _ _ _ _ _ _ _ _ _ _ _ _ _ _ _ _ _ _ _ _ _ _ _ _ _ _ _ _ _ _ _ _ _ _ _ _ _ _ _ _ _ _ _ _ _ _ _ _ _ _ _ _ _ _ _ _ _ _ _ _ _ _ _ _ _ _ _ _ _ _ _ _ _ _ _ _ _ _ _ _ _ _ _ _ _ _ _ _ _ _ _ _ _ _ _ _ _ _ _ _ _ _ _ _ _ _ _ _ _ _ _ _ _ _ _ _ _ _ _ _ _ _ _ _ _ _ _ _ _ _ _ _ _ _ _ _ _ _ _ _ _ _ _ _ _ _ _ _ _ _ _ _ _ _ _ _ _ _ _ _ _ _ _ _ _ _ _ _ _ _ _ _ _ _ _ _ _ _ _ _ _ _ _ _ _ _ _ _ _ _ _ _ _ _ _ _ _ _ _ _ _ _ _ _ _ _ _ _ _ _ _ _ _ _ _ _ _ _ _ _ _ _ _ _ _ _ _ _ _ _ _ ?_)
                intro v27 v28 v203 v204 v205 v206 v207 v208 v209 v210 v211 v212 v213 v214 v215 v216 v217 v218 v219 v220 v221 v222 v223 v224 v225 v226 w9 HN9 HB9
                have HN9 := Lib.hid HN9
                have HB9 := Lib.hid HB9
                go_wp2
                go_roundw
                case rel => go_light; exact ⟨u + 1, lo2, hi2, by omega, by go_num, by rw [HQ1.out], by rw [HQ2.out], rfl, rfl, HLH2, HN9, HB9⟩
                case measure => simp [intOf]; omega
            · obtain rfl : u = s := by omega
              have HSUM := Lib.hid (show sumN (nth ln) u = dv by have := whole_sum HV.out HAG.out HGA.out HWH.out; rwa [HNA.out] at this)
              have HGAIN := Lib.hid (show yn * dv = sumN (fun s => nth ln s * gainP W p s) u * yd by have := whole_gain HV.out HAG.out HGA.out HWH.out; rwa [HNA.out, HYN.out, HYD.out] at this)
              have HNEXT := Lib.hid (fun (k : Nat) (hk : k < u) => (show nth (nxL W p ln u 0) k = nth ln k * al by
                have hkA : k < W.acts.length := by rw [HNA.out]; exact hk
                have := whole_next HV.out HAG.out HGA.out HWH.out hkA
                rw [nxL_at hkA, if_neg (by omega), ← HAL.out, HALE.out]
                rwa [HNA.out] at this ⊢))
              have hyg := yF_ge HV.out HAG.out HGA.out (v := lo) (fun s hs => (HLH.out.2.2.2.2 s (by rw [← HNA.out]; exact hs)).1)
              have hyl := yF_le HV.out HAG.out HGA.out (v := hi) (fun s hs => (HLH.out.2.2.2.2 s (by rw [← HNA.out]; exact hs)).2)
              have hyd1 := (yF_mul HV.out HAG.out HGA.out).2
              have hrd := restD_bd HV.out HAG.out HGA.out
              have hyd2 : (yF W p g).d ≤ restD W p g := Int.le_of_dvd hrd.1 (frq_dvd hrd.1)
              rw [HYN.out, HYD.out] at hyg hyl
              rw [HYD.out] at hyd1 hyd2
              have hGB := sumG_bd HV.out (l := ln) (fun s hs => ⟨(HWB.out s hs).1, (HWB.out s hs).2.1⟩) u (by rw [HNA.out]; omega)
              have HWB2 := Lib.hid (fun (k : Nat) (hk : k < u) => HWB.out k (by rw [HNA.out]; exact hk))
              have HYB2 := Lib.hid (HYB.out.mono HB2.out)
              have HBB := Lib.hid (btr HB.out HB2.out)
              have hm4 : u ≤ 4 := by have := (plan_parts HV.out).2.2.2.1; have := HNA.out; omega
              obtain ⟨b6, o6, rfl, hb6, hc6⟩ := HL.out.at (by omega)
              have HC6 := Lib.hid (fun (k : Nat) (hk : k < u) => (show wr.cell? ⟨b6, o6 + k, none⟩ = some (.int .i64 (nth ln k)) from ((bcell HB2.out).1 _ _ hb6).trans (hc6 k hk)))
              have hb6w := Nat.lt_of_lt_of_le hb6 HB2.out.size
              obtain ⟨_, e9, hgt, hgz, _, _, hcells, _, _⟩ := own_cells HN.out (by omega)
              injection e9 with e9
              injection e9 with e9
              subst e9
              have HCN := Lib.hid (fun (k : Nat) (hk : k < u) => (show wr.cell? ⟨V.heap.size, k, none⟩ = some (.int .i64 (nth ln k * al)) from hcells k _ (by
                have hkA : k < W.acts.length := by rw [HNA.out]; exact hk
                rw [List.getElem?_map, List.getElem?_eq_getElem (by rw [nxL_len]; exact hkA), ← HNEXT.out k hk, nth_of_lt (by rw [nxL_len]; exact hkA)]; rfl)))
              generalize sumN (nth ln) u = su at *
              generalize sumN (fun s => nth ln s * gainP W p s) u = gu at *
              have hLH := HLH.out
              have m1 := mul_le3 (A := 9) (B := 82944) (show -9 ≤ lo by omega) (by omega) (show -82944 ≤ yd by omega) (by omega) (by omega)
              have m2 := mul_le3 (A := 9) (B := 82944) (show -9 ≤ hi by omega) (by omega) (show -82944 ≤ yd by omega) (by omega) (by omega)
              have m3 := mul_le3 (A := 746496) (B := 82944) (show -746496 ≤ yn by omega) (by omega) (show -82944 ≤ dv by omega) (by omega) (by omega)
              have hgain := HGAIN.out
              have k1 : IntKind.i64.wrap (lo * yd) = lo * yd := wrap_i64j _ (by omega) (by omega)
              have k2 : IntKind.i64.wrap (hi * yd) = hi * yd := wrap_i64j _ (by omega) (by omega)
              have k3 : IntKind.i64.wrap (yn * dv) = yn * dv := wrap_i64j _ (by omega) (by omega)
              have k4 : IntKind.i64.wrap (gu * yd) = yn * dv := by rw [← hgain]; exact k3
              have c1 : (su == dv) = true := by rw [HSUM.out]; simp
              have c3 : decide (yn < lo * yd) = false := by rw [decide_eq_false]; omega
              have c4 : decide (hi * yd < yn) = false := by rw [decide_eq_false]; omega
              have c5 : lo * yd ≤ yn := hyg
              have c6 : yn ≤ hi * yd := hyl
              clear hyg hyl hyd1 hyd2 hrd hGB hLH m1 m2 m3 hgain hcells hc6 hgt
              generalize wr = T at *
              go_wp2
              go_loopw [230] (fun t2 wr => ∃ j : Nat, j ≤ u ∧ t2 = .int .i64 j ∧ Hid (Below T.heap.size T wr)) (fun t2 _ => u - (intOf t2).toNat)
              case atStart => exact ⟨0, by omega, rfl, Lib.hid (Below.refl _ _)⟩
              case round =>
                obtain ⟨j, hj, rfl, HT⟩ := hrel
                by_cases hlj : j < u
                · have e1 := ((bcell HT.out).1 _ _ hb6w).trans (HC6.out j hlj)
                  have e2 := ((bcell HT.out).1 _ _ hgz).trans (HCN.out j hlj)
                  have hb := HWB2.out j hlj
                  have mm := mul_le3 (A := 20736) (B := 20736) (show -20736 ≤ nth ln j by omega) hb.2.1 (show -20736 ≤ al by omega) (by omega) (by omega)
                  have k9 : IntKind.i64.wrap (nth ln j * al) = nth ln j * al := wrap_i64j _ (by omega) (by omega)
                  generalize nth ln j = lj at *
                  clear hb mm
                  go_wp2
                  go_region
                  go_wp2
                  go_roundw
                  case rel => go_light; exact ⟨j + 1, by omega, by go_num, HT.out.drew⟩
                  case measure => simp [intOf]; omega
                · obtain rfl : j = u := by omega
                  obtain ⟨y0, y1, y2⟩ := (HYB2.out.mono HT.out).cells
                  go_wp2_with fail
                  refine (awake_go _).mono ?_
                  rintro e w20 ⟨rfl, hb⟩
                  go_wp2
                  go_ret
                  exact ⟨rfl, btr HB0.out (btr (btr HBB.out HT.out) hb)⟩
end Go.Proofs.Ytcmakddnjmeklaa
