/- Chapter 9: Yield. -/
import Derived.Test.YtcmakddnjmeklaaVg
namespace Go.Proofs.Ytcmakddnjmeklaa
open Go.RowKit
set_option linter.unusedSimpArgs false

def gainP (W : Wd) (p : List Int) (s : Nat) : Int := (pact W.acts p s).g
def yN (W : Wd) (p : List Int) (f : Nat) : Int := sumN (fun s => nth (restN W p f) s * gainP W p s) W.acts.length
def yF (W : Wd) (p : List Int) (f : Nat) : Fr := toFr ((yN W p f : Rat) / (restD W p f : Rat))
theorem field_gain (w : World) (g : Int) (z : Option Addr) (m q : Nat) : (Instr.field 50 (.agg #[.int .i64 g, .slice z m q]) 0).run Try.prog w = .ok (.int .i64 g) w := by kernel_rfl
theorem wpList_gain {ops : Array Oper} {rest : List Oper} {o : Oper} {a : Go.Act} {Q : Exit → Go.Act → World → Prop} {w : World} (hgd : o.guard = none) (x : Operand) (ho : o.op = .field 50 x 0) (g : Int) (z : Option Addr) (m q : Nat)
    (hx : a.eval x = .agg #[.int .i64 g, .slice z m q]) (h : wpList Try.prog ops Q rest (a.put o.dst (.int .i64 g)) w) : wpList Try.prog ops Q (o :: rest) a w := by
  refine wpList_plain hgd fun K hK' => ?_
  unfold Oper.wp
  simp [execOp, ho, hx, field_gain, Result.andThen]
  exact hK' _ _ h
def GivesY (x : Fr) (err : Int) (w : World) (e : Ending) (w' : World) : Prop := e = .returned (.tuple #[.agg #[.int .i64 x.n, .int .i64 x.d], .int .i64 err]) ∧ Below w.heap.size w w'
theorem yN_bd {W : Wd} {p : List Int} {f : Nat} (h : isPlanB W p = true) (ho : agOk W p f = true) (hf : f < W.acts.length) : ∀ k, k ≤ W.acts.length → -(186624 * (k : Int)) ≤ sumN (fun s => nth (restN W p f) s * gainP W p s) k ∧ sumN (fun s => nth (restN W p f) s * gainP W p s) k ≤ 186624 * (k : Int)
  | 0, _ => by simp [sumN]
  | k + 1, hk => by
    have ih := yN_bd h ho hf k (by omega)
    have h1 := rest_bd h ho hf (s := k) (by omega)
    have h2 := vAc_at (vAc_pact h (s := k) (by omega))
    have h3 : -9 ≤ gainP W p k ∧ gainP W p k ≤ 9 := ⟨h2.1, h2.2.1⟩
    have := mul_le3 (A := 20736) (B := 9) (show -20736 ≤ nth (restN W p f) k by omega) h1.2.1 h3.1 h3.2 (by omega)
    show _ ≤ sumN (fun s => nth (restN W p f) s * gainP W p s) k + nth (restN W p f) k * gainP W p k ∧ sumN (fun s => nth (restN W p f) s * gainP W p s) k + nth (restN W p f) k * gainP W p k ≤ _
    omega
theorem box_res (w : World) (a b : Int) (x : Option Addr) (n c : Nat) : ((w.alloc (.cells #[.int .i64 a, .int .i64 b, .slice x n c] 33)).alloc (.cells #[.int .i64 0, .int .i64 0] 53)).heap[w.heap.size + 1]? = some (.cells #[.int .i64 0, .int .i64 0] 53 (0, 0)) := by
  have h := new_at (w.alloc (.cells #[.int .i64 a, .int .i64 b, .slice x n c] 33)) (.cells #[.int .i64 0, .int .i64 0] 53)
  simpa using h
set_option maxRecDepth 100000 in
set_option maxHeartbeats 4000000 in
theorem yieldU_go (w : World) (x y : Option Addr) (n c m d g : Nat) (W : Wd) (p : List Int) (hA : A2Sl w x n c W.acts) (hp : Sl w y m d p) (hok : isPlanB W p = true) (hg : g < n) (yv : Fr) (er : Int) (hv1 : agOk W p g = true → yv = yF W p g ∧ er = 0) (hv2 : agOk W p g = false → yv = ⟨0, 0⟩ ∧ er = 5) :
    Calls Try.prog 41 #[wv W.a W.b x n c, .slice y m d, .int .i64 g] w (GivesY yv er w) := by
  have hb0 := bal (bal (Below.refl w.heap.size w) (.cells #[.int .i64 W.a, .int .i64 W.b, .slice x n c] 33)) (.cells #[.int .i64 0, .int .i64 0] 53)
  have HZ := Lib.hid (show BoxW ((w.alloc (.cells #[.int .i64 W.a, .int .i64 W.b, .slice x n c] 33)).alloc (.cells #[.int .i64 0, .int .i64 0] 53)) w.heap.size W.a W.b x n c from persist (new_at w _) (bal (Below.refl _ _) _))
  have HRB := Lib.hid (box_res w W.a W.b x n c)
  have HV1 := Lib.hid hv1
  have HV2 := Lib.hid hv2
  have HA := Lib.hid (hA.mono hb0)
  have HP := Lib.hid (hp.mono hb0)
  have HB0 := Lib.hid hb0
  have HNA := Lib.hid hA.1
  have hgA : g < W.acts.length := by rw [HNA.out]; exact hg
  have HS := Lib.hid (stB_of hok hgA)
  have HOK := Lib.hid hok
  obtain ⟨_, hpl, hpa, ⟨hn1, hn4, _⟩, _⟩ := plan_parts hok
  have hnA := hA.1
  have hmp := hp.len
  obtain rfl : m = n := by omega
  have hn1 : 1 ≤ m := by omega
  have hn4 : m ≤ 4 := by omega
  have HPP := Lib.hid (show ∀ s, s < m → 0 ≤ nth p s ∧ nth p s < (acl W.acts s).length from fun s hs => hpa s (by omega))
  clear hA hp hb0 hok hpl hpa hnA hmp hv1 hv2
  go_enter Try.func41, Try.ntmps41
  go_wp2_with fail
  generalize (w.alloc (.cells #[.int .i64 W.a, .int .i64 W.b, .slice x m c] 33)).alloc (.cells #[.int .i64 0, .int .i64 0] 53) = V0 at *
  refine (isstate_go _ x y m c m d (g : Int) W p HA.out HP.out).mono ?_
  rintro e w1 ⟨rfl, hb⟩
  rw [HS.out]
  have HB1 := Lib.hid hb
  clear hb
  obtain ⟨z0, z1, z2, z3⟩ := BoxW.cells (persist HZ.out HB1.out)
  go_wp2_with fail
  refine (rest_go _ x y m c m d g W p (HA.out.mono HB1.out) (HP.out.mono HB1.out) HOK.out hg).mono ?_
  rintro e w2 hq
  have hrl : w.heap.size + 1 < V0.heap.size := lt_of_block HRB.out
  cases hk : agOk W p g with
  | false =>
    unfold GivesRs at hq
    rw [if_neg (by rw [hk]; simp)] at hq
    obtain ⟨rfl, hb⟩ := hq
    have HB2 := Lib.hid (bal (btr HB1.out hb) (.cells #[.slice none 0 0, .int .i64 0] 80))
    obtain ⟨rfl, rfl⟩ := HV2.out hk
    clear hb z0 z1 z2 z3 hk
    have hr := persist HRB.out HB2.out
    obtain ⟨U, hU⟩ : ∃ U, w2.alloc (.cells #[.slice none 0 0, .int .i64 0] 80) = U := ⟨_, rfl⟩
    rw [hU] at hr
    have r0 : U.cell? ⟨w.heap.size + 1, 0, none⟩ = some (.int .i64 0) := by rw [cells_at hr]; rfl
    have r1 : U.cell? ⟨w.heap.size + 1, 1, none⟩ = some (.int .i64 0) := by rw [cells_at hr]; rfl
    have r2 := free_at hr 0
    have r3 := free_at hr 1
    have r4 := lt_of_block hr
    have HR2 := Lib.hid (set_at (set_at hr 0 (.int .i64 0)) 1 (.int .i64 0))
    have HBE := Lib.hid ((((btr HB0.out (show Below V0.heap.size V0 U by rw [← hU]; exact HB2.out)).setCell (p := ⟨w.heap.size + 1, 0, none⟩) (by show w.heap.size ≤ w.heap.size + 1; omega) (.int .i64 0))).setCell (p := ⟨w.heap.size + 1, 1, none⟩) (by show w.heap.size ≤ w.heap.size + 1; omega) (.int .i64 0))
    have s0 : ((U.setCell ⟨w.heap.size + 1, 0, none⟩ (.int .i64 0)).setCell ⟨w.heap.size + 1, 1, none⟩ (.int .i64 0)).cell? ⟨w.heap.size + 1, 0, none⟩ = some (.int .i64 0) := by rw [cells_at HR2.out]; rfl
    have s1 : ((U.setCell ⟨w.heap.size + 1, 0, none⟩ (.int .i64 0)).setCell ⟨w.heap.size + 1, 1, none⟩ (.int .i64 0)).cell? ⟨w.heap.size + 1, 1, none⟩ = some (.int .i64 0) := by rw [cells_at HR2.out]; rfl
    rw [← hU] at r0 r1 r2 r3 r4 s0 s1 HBE
    clear hU hr HR2
    go_wp2
    exact bodyPost_ret (v := .tuple #[.agg #[.int .i64 0, .int .i64 0], .int .i64 5]) (by simp [results, Try.results41, go_sem, *]) rfl ⟨rfl, HBE.out⟩
  | true =>
    unfold GivesRs at hq
    rw [if_pos hk] at hq
    obtain ⟨ra, rc, rfl, hS, hb⟩ := hq
    obtain ⟨hyv, rfl⟩ := HV1.out hk
    have HYV := Lib.hid hyv
    clear hyv
    have HRB2 := Lib.hid (fun s (hs : s < W.acts.length) => rest_bd HOK.out hk hgA hs)
    have HVA := Lib.hid (fun s (hs : s < W.acts.length) => vAc_at (vAc_pact HOK.out hs))
    have HYB := Lib.hid (yN_bd HOK.out hk hgA)
    have hdb := restD_bd HOK.out hk hgA
    have HB2 := Lib.hid (bal (btr HB1.out hb) (.cells #[.slice ra m rc, .int .i64 (restD W p g)] 80))
    have HBX := Lib.hid (new_at w2 (.cells #[.slice ra m rc, .int .i64 (restD W p g)] 80))
    have HSL := Lib.hid (hS.mono (bal (Below.refl _ _) (.cells #[.slice ra m rc, .int .i64 (restD W p g)] 80)))
    clear hb hS z0 z1 z2 z3 hk
    obtain ⟨D, hD⟩ : ∃ z, restD W p g = z := ⟨_, rfl⟩
    have HDE := Lib.hid hD
    rw [hD] at HB2 HBX HSL hdb ⊢
    clear hD
    have p0 : (w2.alloc (.cells #[.slice ra m rc, .int .i64 D] 80)).cell? ⟨w2.heap.size, 0, none⟩ = some (.slice ra m rc) := by rw [cells_at HBX.out]; rfl
    go_wp2
    generalize w2.alloc (.cells #[.slice ra m rc, .int .i64 D] 80) = U at *
    have hcr := HSL.out.cap
    unfold maxLen at hcr
    clear p0
    go_loopw [10, 32] (fun v t2 wr => ∃ s : Nat, s ≤ m ∧ t2 = .int .i64 s ∧ v = .int .i64 (sumN (fun s => nth (restN W p g) s * gainP W p s) s) ∧ Hid (Below U.heap.size U wr)) (fun _ t2 _ => m - (intOf t2).toNat)
    case atStart => exact ⟨0, by omega, rfl, rfl, Lib.hid (Below.refl _ _)⟩
    case round =>
      obtain ⟨s, hs, rfl, rfl, HC⟩ := hrel
      by_cases hls : s < m
      · have hsA : s < W.acts.length := by rw [HNA.out]; exact hls
        have hpa := HPP.out s hls
        obtain ⟨b1, o1, rfl, hb1, hc1⟩ := (HSL.out.mono HC.out).at (by omega)
        have e1 := hc1 s hls
        have hrb := HRB2.out s hsA
        have hva := HVA.out s hsA
        have hyb := HYB.out s (by omega)
        have hyb2 := HYB.out (s + 1) (by omega)
        have HSN := Lib.hid (show sumN (fun s => nth (restN W p g) s * gainP W p s) (s + 1) = sumN (fun s => nth (restN W p g) s * gainP W p s) s + nth (restN W p g) s * gainP W p s from rfl)
        obtain ⟨X, hX⟩ : ∃ X, sumN (fun s => nth (restN W p g) s * gainP W p s) s = X := ⟨_, rfl⟩
        rw [HSN.out, hX] at hyb2
        rw [hX] at hyb HSN ⊢
        have hgg9 : -9 ≤ gainP W p s ∧ gainP W p s ≤ 9 := ⟨hva.1, hva.2.1⟩
        have HGG := Lib.hid (show (pact W.acts p s).g = gainP W p s from rfl)
        obtain ⟨gg, hgg⟩ : ∃ gg, gainP W p s = gg := ⟨_, rfl⟩
        rw [hgg] at HGG HSN hgg9 hyb2
        obtain ⟨rn, hrn⟩ : ∃ rn, nth (restN W p g) s = rn := ⟨_, rfl⟩
        rw [hrn] at e1 hrb HSN hyb2
        have hmb := mul_le3 (A := 20736) (B := 9) (show -20736 ≤ rn by omega) hrb.2.1 hgg9.1 hgg9.2 (by omega)
        have k1 : IntKind.i64.wrap (rn * gg) = rn * gg := wrap_i64j _ (by omega) (by omega)
        have k2 : IntKind.i64.wrap (X + rn * gg) = X + rn * gg := wrap_i64j _ (by omega) (by omega)
        obtain ⟨zz, hh0, hh1, hh2⟩ := BoxW.cells (persist HZ.out (btr HB2.out HC.out))
        clear hc1 hX hgg hrn hva hrb
        go_wp2_with fail
        refine (act_goW V0 _ (btr HB2.out HC.out) W.a W.b x y m c m d s W.acts p HA.out HP.out hls hls hpa.1 hpa.2).mono ?_
        rintro e w5 ⟨z, k, q, rfl, hZ, hb⟩
        rw [HGG.out]
        have HC2 := Lib.hid (btr HC.out hb)
        clear hZ hb zz hh0 hh1 hh2 hpa
        unfold av
        go_wp2_with (refine wpList_gain rfl _ rfl gg z k q rfl ?_)
        go_roundw
        case rel => go_light; exact ⟨s + 1, by omega, by go_num, by rw [HSN.out], HC2⟩
        case measure => simp [intOf]; omega
      · obtain rfl : s = m := by omega
        have HYE := Lib.hid (show sumN (fun s => nth (restN W p g) s * gainP W p s) s = yN W p g by unfold yN; rw [HNA.out])
        have hyb := HYB.out s (by have := HNA.out; omega)
        rw [HYE.out] at hyb ⊢
        have HYF := Lib.hid (show yF W p g = toFr ((yN W p g : Rat) / (D : Rat)) by unfold yF; rw [HDE.out])
        obtain ⟨Y, hY⟩ : ∃ Y, yN W p g = Y := ⟨_, rfl⟩
        rw [hY] at hyb HYF ⊢
        have hbx := persist HBX.out HC.out
        have p1 : wr.cell? ⟨w2.heap.size, 1, none⟩ = some (.int .i64 D) := by rw [cells_at hbx]; rfl
        have p2 := lt_of_block hbx
        clear hY hbx
        go_wp2_with fail
        refine (frac_go _ Y D (by omega) hdb.1 (by omega)).mono ?_
        rintro e w6 ⟨rfl, hb⟩
        rw [← HYF.out]
        obtain ⟨yf, hyf⟩ : ∃ yf, yF W p g = yf := ⟨_, rfl⟩
        rw [hyf]
        have HYX := Lib.hid hyf
        have HB6 := Lib.hid (btr HB2.out (btr HC.out hb))
        have hr := persist HRB.out HB6.out
        have r0 : w6.cell? ⟨w.heap.size + 1, 0, none⟩ = some (.int .i64 0) := by rw [cells_at hr]; rfl
        have r1 : w6.cell? ⟨w.heap.size + 1, 1, none⟩ = some (.int .i64 0) := by rw [cells_at hr]; rfl
        have r2 := free_at hr 0
        have r3 := free_at hr 1
        have r4 := lt_of_block hr
        have HR2 := Lib.hid (set_at (set_at hr 0 (.int .i64 yf.n)) 1 (.int .i64 yf.d))
        have HBE := Lib.hid ((((btr HB0.out HB6.out).setCell (p := ⟨w.heap.size + 1, 0, none⟩) (by show w.heap.size ≤ w.heap.size + 1; omega) (.int .i64 yf.n))).setCell (p := ⟨w.heap.size + 1, 1, none⟩) (by show w.heap.size ≤ w.heap.size + 1; omega) (.int .i64 yf.d))
        have s0 : ((w6.setCell ⟨w.heap.size + 1, 0, none⟩ (.int .i64 yf.n)).setCell ⟨w.heap.size + 1, 1, none⟩ (.int .i64 yf.d)).cell? ⟨w.heap.size + 1, 0, none⟩ = some (.int .i64 yf.n) := by rw [cells_at HR2.out]; rfl
        have s1 : ((w6.setCell ⟨w.heap.size + 1, 0, none⟩ (.int .i64 yf.n)).setCell ⟨w.heap.size + 1, 1, none⟩ (.int .i64 yf.d)).cell? ⟨w.heap.size + 1, 1, none⟩ = some (.int .i64 yf.d) := by rw [cells_at HR2.out]; rfl
        clear hyf hb hr HR2 p1
        go_wp2
        exact bodyPost_ret (v := .tuple #[.agg #[.int .i64 yf.n, .int .i64 yf.d], .int .i64 0]) (by simp [results, Try.results41, go_sem, *]) rfl ⟨by rw [HYV.out, HYX.out], HBE.out⟩
set_option maxHeartbeats 2000000 in
theorem yieldU_no (w : World) (x y : Option Addr) (n c m d : Nat) (f : Int) (W : Wd) (p : List Int) (hA : A2Sl w x n c W.acts) (hp : Sl w y m d p) (hs : stB W p f = false) :
    Calls Try.prog 41 #[wv W.a W.b x n c, .slice y m d, .int .i64 f] w (GivesY ⟨0, 0⟩ 2 w) := by
  have hb0 := bal (bal (Below.refl w.heap.size w) (.cells #[.int .i64 W.a, .int .i64 W.b, .slice x n c] 33)) (.cells #[.int .i64 0, .int .i64 0] 53)
  have HRB := Lib.hid (box_res w W.a W.b x n c)
  have HA := Lib.hid (hA.mono hb0)
  have HP := Lib.hid (hp.mono hb0)
  have HB0 := Lib.hid hb0
  have HS := Lib.hid hs
  clear hA hp hb0 hs
  go_enter Try.func41, Try.ntmps41
  go_wp2_with fail
  generalize (w.alloc (.cells #[.int .i64 W.a, .int .i64 W.b, .slice x n c] 33)).alloc (.cells #[.int .i64 0, .int .i64 0] 53) = V0 at *
  refine (isstate_go _ x y n c m d f W p HA.out HP.out).mono ?_
  rintro e U ⟨rfl, hb⟩
  rw [HS.out]
  have HB1 := Lib.hid hb
  have hr := persist HRB.out hb
  have r0 : U.cell? ⟨w.heap.size + 1, 0, none⟩ = some (.int .i64 0) := by rw [cells_at hr]; rfl
  have r1 : U.cell? ⟨w.heap.size + 1, 1, none⟩ = some (.int .i64 0) := by rw [cells_at hr]; rfl
  have r2 := free_at hr 0
  have r3 := free_at hr 1
  have r4 := lt_of_block hr
  have HR2 := Lib.hid (set_at (set_at hr 0 (.int .i64 0)) 1 (.int .i64 0))
  have HBE := Lib.hid ((((btr HB0.out HB1.out).setCell (p := ⟨w.heap.size + 1, 0, none⟩) (by show w.heap.size ≤ w.heap.size + 1; omega) (.int .i64 0))).setCell (p := ⟨w.heap.size + 1, 1, none⟩) (by show w.heap.size ≤ w.heap.size + 1; omega) (.int .i64 0))
  have s0 : ((U.setCell ⟨w.heap.size + 1, 0, none⟩ (.int .i64 0)).setCell ⟨w.heap.size + 1, 1, none⟩ (.int .i64 0)).cell? ⟨w.heap.size + 1, 0, none⟩ = some (.int .i64 0) := by rw [cells_at HR2.out]; rfl
  have s1 : ((U.setCell ⟨w.heap.size + 1, 0, none⟩ (.int .i64 0)).setCell ⟨w.heap.size + 1, 1, none⟩ (.int .i64 0)).cell? ⟨w.heap.size + 1, 1, none⟩ = some (.int .i64 0) := by rw [cells_at HR2.out]; rfl
  clear hb hr HR2
  go_wp2
  exact bodyPost_ret (v := .tuple #[.agg #[.int .i64 0, .int .i64 0], .int .i64 2]) (by simp [results, Try.results41, go_sem, *]) rfl ⟨rfl, HBE.out⟩
end Go.Proofs.Ytcmakddnjmeklaa
