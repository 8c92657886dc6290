/- Chapter 9: Yield; the reference: Rest and Yield; the walk of StemsRest. -/
import Derived.Test.YtcmakddnjmeklaaRea
import Derived.Test.YtcmakddnjmeklaaRa
import Derived.Test.YtcmakddnjmeklaaHe
import Derived.Test.YtcmakddnjmeklaaWr
/- Chapter 9: Yield. -/
namespace Go.Proofs.Ytcmakddnjmeklaa
open Go.RowKit
set_option linter.unusedSimpArgs false

def gainP (W : Wd) (p : List Int) (s : Nat) : Int := (pact W.acts p s).g
def yN (W : Wd) (p : List Int) (f : Nat) : Int := sumN (fun s => nth (restN W p f) s * gainP W p s) W.acts.length
def yF (W : Wd) (p : List Int) (f : Nat) : Fr := toFr ((yN W p f : Rat) / (restD W p f : Rat))
theorem field_gain (w : World) (g : Int) (z : Option Addr) (m q : Nat) : (Instr.field 50 (.agg #[.int .i64 g, .slice z m q]) 0).run Try.prog w = .ok (.int .i64 g) w := by kernel_rfl
theorem wpList_gain {ops : Array Oper} {rest : List Oper} {o : Oper} {a : Go.Act} {Q : Exit → Go.Act → World → Prop} {w : World} (hgd : o.guard = none) (x : Operand) (ho : o.op = .field 50 x 0) (g : Int) (z : Option Addr) (m q : Nat)
    (hx : a.eval x = .agg #[.int .i64 g, .slice z m q]) (h : wpList Try.prog ops Q rest (a.put o.dst (.int .i64 g)) w) : wpList Try.prog ops Q (o :: rest) a w := by
  refine wpList_plain hgd fun K hK' => ?_
  unfold Oper.wp
  simp [execOp, ho, hx, field_gain, Result.andThen]
  exact hK' _ _ h
def GivesY (x : Fr) (err : Int) (w : World) (e : Ending) (w' : World) : Prop := e = .returned (.tuple #[.agg #[.int .i64 x.n, .int .i64 x.d], .int .i64 err]) ∧ Below w.heap.size w w'
theorem yN_bd {W : Wd} {p : List Int} {f : Nat} (h : isPlanB W p = true) (ho : agOk W p f = true) (hf : f < W.acts.length) : ∀ k, k ≤ W.acts.length → -(186624 * (k : Int)) ≤ sumN (fun s => nth (restN W p f) s * gainP W p s) k ∧ sumN (fun s => nth (restN W p f) s * gainP W p s) k ≤ 186624 * (k : Int)
  | 0, _ => by simp [sumN]
  | k + 1, hk => by
    have ih := yN_bd h ho hf k (by omega)
    have h1 := rest_bd h ho hf (s := k) (by omega)
    have h2 := vAc_at (vAc_pact h (s := k) (by omega))
    have h3 : -9 ≤ gainP W p k ∧ gainP W p k ≤ 9 := ⟨h2.1, h2.2.1⟩
    have := mul_le3 (A := 20736) (B := 9) (show -20736 ≤ nth (restN W p f) k by omega) h1.2.1 h3.1 h3.2 (by omega)
    show _ ≤ sumN (fun s => nth (restN W p f) s * gainP W p s) k + nth (restN W p f) k * gainP W p k ∧ sumN (fun s => nth (restN W p f) s * gainP W p s) k + nth (restN W p f) k * gainP W p k ≤ _
    omega
theorem box_res (w : World) (a b : Int) (x : Option Addr) (n c : Nat) : ((w.alloc (.cells #[.int .i64 a, .int .i64 b, .slice x n c] 33)).alloc (.cells #[.int .i64 0, .int .i64 0] 53)).heap[w.heap.size + 1]? = some (.cells #[.int .i64 0, .int .i64 0] 53 (0, 0)) := by
  have h := new_at (w.alloc (.cells #[.int .i64 a, .int .i64 b, .slice x n c] 33)) (.cells #[.int .i64 0, .int .i64 0] 53)
  simpa using h
set_option maxRecDepth 100000 in
set_option maxHeartbeats 4000000 in
theorem yieldU_go (w : World) (x y : Option Addr) (n c m d g : Nat) (W : Wd) (p : List Int) (hA : A2Sl w x n c W.acts) (hp : Sl w y m d p) (hok : isPlanB W p = true) (hg : g < n) (yv : Fr) (er : Int) (hv1 : agOk W p g = true → yv = yF W p g ∧ er = 0) (hv2 : agOk W p g = false → yv = ⟨0, 0⟩ ∧ er = 5) :
    Calls Try.prog 41 #[wv W.a W.b x n c, .slice y m d, .int .i64 g] w (GivesY yv er w) := by
  have hb0 := bal (bal (Below.refl w.heap.size w) (.cells #[.int .i64 W.a, .int .i64 W.b, .slice x n c] 33)) (.cells #[.int .i64 0, .int .i64 0] 53)
  have HZ := Lib.hid (show BoxW ((w.alloc (.cells #[.int .i64 W.a, .int .i64 W.b, .slice x n c] 33)).alloc (.cells #[.int .i64 0, .int .i64 0] 53)) w.heap.size W.a W.b x n c from persist (new_at w _) (bal (Below.refl _ _) _))
  have HRB := Lib.hid (box_res w W.a W.b x n c)
  have HV1 := Lib.hid hv1
  have HV2 := Lib.hid hv2
  have HA := Lib.hid (hA.mono hb0)
  have HP := Lib.hid (hp.mono hb0)
  have HB0 := Lib.hid hb0
  have HNA := Lib.hid hA.1
  have hgA : g < W.acts.length := by rw [HNA.out]; exact hg
  have HS := Lib.hid (stB_of hok hgA)
  have HOK := Lib.hid hok
  obtain ⟨_, hpl, hpa, ⟨hn1, hn4, _⟩, _⟩ := plan_parts hok
  have hnA := hA.1
  have hmp := hp.len
  obtain rfl : m = n := by omega
  have hn1 : 1 ≤ m := by omega
  have hn4 : m ≤ 4 := by omega
  have HPP := Lib.hid (show ∀ s, s < m → 0 ≤ nth p s ∧ nth p s < (acl W.acts s).length from fun s hs => hpa s (by omega))
  clear hA hp hb0 hok hpl hpa hnA hmp hv1 hv2
  go_enter Try.func41, Try.ntmps41
  go_wp2_with fail
  generalize (w.alloc (.cells #[.int .i64 W.a, .int .i64 W.b, .slice x m c] 33)).alloc (.cells #[.int .i64 0, .int .i64 0] 53) = V0 at *
  refine (isstate_go _ x y m c m d (g : Int) W p HA.out HP.out).mono ?_
  rintro e w1 ⟨rfl, hb⟩
  rw [HS.out]
  have HB1 := Lib.hid hb
  clear hb
  obtain ⟨z0, z1, z2, z3⟩ := BoxW.cells (persist HZ.out HB1.out)
  go_wp2_with fail
  refine (rest_go _ x y m c m d g W p (HA.out.mono HB1.out) (HP.out.mono HB1.out) HOK.out hg).mono ?_
  rintro e w2 hq
  have hrl : w.heap.size + 1 < V0.heap.size := lt_of_block HRB.out
  cases hk : agOk W p g with
  | false =>
    unfold GivesRs at hq
    rw [if_neg (by rw [hk]; simp)] at hq
    obtain ⟨rfl, hb⟩ := hq
    have HB2 := Lib.hid (bal (btr HB1.out hb) (.cells #[.slice none 0 0, .int .i64 0] 80))
    obtain ⟨rfl, rfl⟩ := HV2.out hk
    clear hb z0 z1 z2 z3 hk
    have hr := persist HRB.out HB2.out
    obtain ⟨U, hU⟩ : ∃ U, w2.alloc (.cells #[.slice none 0 0, .int .i64 0] 80) = U := ⟨_, rfl⟩
    rw [hU] at hr
    have r0 : U.cell? ⟨w.heap.size + 1, 0, none⟩ = some (.int .i64 0) := by rw [cells_at hr]; rfl
    have r1 : U.cell? ⟨w.heap.size + 1, 1, none⟩ = some (.int .i64 0) := by rw [cells_at hr]; rfl
    have r2 := free_at hr 0
    have r3 := free_at hr 1
    have r4 := lt_of_block hr
    have HR2 := Lib.hid (set_at (set_at hr 0 (.int .i64 0)) 1 (.int .i64 0))
    have HBE := Lib.hid ((((btr HB0.out (show Below V0.heap.size V0 U by rw [← hU]; exact HB2.out)).setCell (p := ⟨w.heap.size + 1, 0, none⟩) (by show w.heap.size ≤ w.heap.size + 1; omega) (.int .i64 0))).setCell (p := ⟨w.heap.size + 1, 1, none⟩) (by show w.heap.size ≤ w.heap.size + 1; omega) (.int .i64 0))
    have s0 : ((U.setCell ⟨w.heap.size + 1, 0, none⟩ (.int .i64 0)).setCell ⟨w.heap.size + 1, 1, none⟩ (.int .i64 0)).cell? ⟨w.heap.size + 1, 0, none⟩ = some (.int .i64 0) := by rw [cells_at HR2.out]; rfl
    have s1 : ((U.setCell ⟨w.heap.size + 1, 0, none⟩ (.int .i64 0)).setCell ⟨w.heap.size + 1, 1, none⟩ (.int .i64 0)).cell? ⟨w.heap.size + 1, 1, none⟩ = some (.int .i64 0) := by rw [cells_at HR2.out]; rfl
    rw [← hU] at r0 r1 r2 r3 r4 s0 s1 HBE
    clear hU hr HR2
    go_wp2
    exact bodyPost_ret (v := .tuple #[.agg #[.int .i64 0, .int .i64 0], .int .i64 5]) (by simp [results, Try.results41, go_sem, *]) rfl ⟨rfl, HBE.out⟩
  | true =>
    unfold GivesRs at hq
    rw [if_pos hk] at hq
    obtain ⟨ra, rc, rfl, hS, hb⟩ := hq
    obtain ⟨hyv, rfl⟩ := HV1.out hk
    have HYV := Lib.hid hyv
    clear hyv
    have HRB2 := Lib.hid (fun s (hs : s < W.acts.length) => rest_bd HOK.out hk hgA hs)
    have HVA := Lib.hid (fun s (hs : s < W.acts.length) => vAc_at (vAc_pact HOK.out hs))
    have HYB := Lib.hid (yN_bd HOK.out hk hgA)
    have hdb := restD_bd HOK.out hk hgA
    have HB2 := Lib.hid (bal (btr HB1.out hb) (.cells #[.slice ra m rc, .int .i64 (restD W p g)] 80))
    have HBX := Lib.hid (new_at w2 (.cells #[.slice ra m rc, .int .i64 (restD W p g)] 80))
    have HSL := Lib.hid (hS.mono (bal (Below.refl _ _) (.cells #[.slice ra m rc, .int .i64 (restD W p g)] 80)))
    clear hb hS z0 z1 z2 z3 hk
    obtain ⟨D, hD⟩ : ∃ z, restD W p g = z := ⟨_, rfl⟩
    have HDE := Lib.hid hD
    rw [hD] at HB2 HBX HSL hdb ⊢
    clear hD
    have p0 : (w2.alloc (.cells #[.slice ra m rc, .int .i64 D] 80)).cell? ⟨w2.heap.size, 0, none⟩ = some (.slice ra m rc) := by rw [cells_at HBX.out]; rfl
    go_wp2
    generalize w2.alloc (.cells #[.slice ra m rc, .int .i64 D] 80) = U at *
    have hcr := HSL.out.cap
    unfold maxLen at hcr
    clear p0
    go_loopw [10, 32] (fun v t2 wr => ∃ s : Nat, s ≤ m ∧ t2 = .int .i64 s ∧ v = .int .i64 (sumN (fun s => nth (restN W p g) s * gainP W p s) s) ∧ Hid (Below U.heap.size U wr)) (fun _ t2 _ => m - (intOf t2).toNat)
    case atStart => exact ⟨0, by omega, rfl, rfl, Lib.hid (Below.refl _ _)⟩
    case round =>
      obtain ⟨s, hs, rfl, rfl, HC⟩ := hrel
      by_cases hls : s < m
      · have hsA : s < W.acts.length := by rw [HNA.out]; exact hls
        have hpa := HPP.out s hls
        obtain ⟨b1, o1, rfl, hb1, hc1⟩ := (HSL.out.mono HC.out).at (by omega)
        have e1 := hc1 s hls
        have hrb := HRB2.out s hsA
        have hva := HVA.out s hsA
        have hyb := HYB.out s (by omega)
        have hyb2 := HYB.out (s + 1) (by omega)
        have HSN := Lib.hid (show sumN (fun s => nth (restN W p g) s * gainP W p s) (s + 1) = sumN (fun s => nth (restN W p g) s * gainP W p s) s + nth (restN W p g) s * gainP W p s from rfl)
        obtain ⟨X, hX⟩ : ∃ X, sumN (fun s => nth (restN W p g) s * gainP W p s) s = X := ⟨_, rfl⟩
        rw [HSN.out, hX] at hyb2
        rw [hX] at hyb HSN ⊢
        have hgg9 : -9 ≤ gainP W p s ∧ gainP W p s ≤ 9 := ⟨hva.1, hva.2.1⟩
        have HGG := Lib.hid (show (pact W.acts p s).g = gainP W p s from rfl)
        obtain ⟨gg, hgg⟩ : ∃ gg, gainP W p s = gg := ⟨_, rfl⟩
        rw [hgg] at HGG HSN hgg9 hyb2
        obtain ⟨rn, hrn⟩ : ∃ rn, nth (restN W p g) s = rn := ⟨_, rfl⟩
        rw [hrn] at e1 hrb HSN hyb2
        have hmb := mul_le3 (A := 20736) (B := 9) (show -20736 ≤ rn by omega) hrb.2.1 hgg9.1 hgg9.2 (by omega)
        have k1 : IntKind.i64.wrap (rn * gg) = rn * gg := wrap_i64j _ (by omega) (by omega)
        have k2 : IntKind.i64.wrap (X + rn * gg) = X + rn * gg := wrap_i64j _ (by omega) (by omega)
        obtain ⟨zz, hh0, hh1, hh2⟩ := BoxW.cells (persist HZ.out (btr HB2.out HC.out))
        clear hc1 hX hgg hrn hva hrb
        go_wp2_with fail
        refine (act_goW V0 _ (btr HB2.out HC.out) W.a W.b x y m c m d s W.acts p HA.out HP.out hls hls hpa.1 hpa.2).mono ?_
        rintro e w5 ⟨z, k, q, rfl, hZ, hb⟩
        rw [HGG.out]
        have HC2 := Lib.hid (btr HC.out hb)
        clear hZ hb zz hh0 hh1 hh2 hpa
        unfold av
        go_wp2_with (refine wpList_gain rfl _ rfl gg z k q rfl ?_)
        go_roundw
        case rel => go_light; exact ⟨s + 1, by omega, by go_num, by rw [HSN.out], HC2⟩
        case measure => simp [intOf]; omega
      · obtain rfl : s = m := by omega
        have HYE := Lib.hid (show sumN (fun s => nth (restN W p g) s * gainP W p s) s = yN W p g by unfold yN; rw [HNA.out])
        have hyb := HYB.out s (by have := HNA.out; omega)
        rw [HYE.out] at hyb ⊢
        have HYF := Lib.hid (show yF W p g = toFr ((yN W p g : Rat) / (D : Rat)) by unfold yF; rw [HDE.out])
        obtain ⟨Y, hY⟩ : ∃ Y, yN W p g = Y := ⟨_, rfl⟩
        rw [hY] at hyb HYF ⊢
        have hbx := persist HBX.out HC.out
        have p1 : wr.cell? ⟨w2.heap.size, 1, none⟩ = some (.int .i64 D) := by rw [cells_at hbx]; rfl
        have p2 := lt_of_block hbx
        clear hY hbx
        go_wp2_with fail
        refine (frac_go _ Y D (by omega) hdb.1 (by omega)).mono ?_
        rintro e w6 ⟨rfl, hb⟩
        rw [← HYF.out]
        obtain ⟨yf, hyf⟩ : ∃ yf, yF W p g = yf := ⟨_, rfl⟩
        rw [hyf]
        have HYX := Lib.hid hyf
        have HB6 := Lib.hid (btr HB2.out (btr HC.out hb))
        have hr := persist HRB.out HB6.out
        have r0 : w6.cell? ⟨w.heap.size + 1, 0, none⟩ = some (.int .i64 0) := by rw [cells_at hr]; rfl
        have r1 : w6.cell? ⟨w.heap.size + 1, 1, none⟩ = some (.int .i64 0) := by rw [cells_at hr]; rfl
        have r2 := free_at hr 0
        have r3 := free_at hr 1
        have r4 := lt_of_block hr
        have HR2 := Lib.hid (set_at (set_at hr 0 (.int .i64 yf.n)) 1 (.int .i64 yf.d))
        have HBE := Lib.hid ((((btr HB0.out HB6.out).setCell (p := ⟨w.heap.size + 1, 0, none⟩) (by show w.heap.size ≤ w.heap.size + 1; omega) (.int .i64 yf.n))).setCell (p := ⟨w.heap.size + 1, 1, none⟩) (by show w.heap.size ≤ w.heap.size + 1; omega) (.int .i64 yf.d))
        have s0 : ((w6.setCell ⟨w.heap.size + 1, 0, none⟩ (.int .i64 yf.n)).setCell ⟨w.heap.size + 1, 1, none⟩ (.int .i64 yf.d)).cell? ⟨w.heap.size + 1, 0, none⟩ = some (.int .i64 yf.n) := by rw [cells_at HR2.out]; rfl
        have s1 : ((w6.setCell ⟨w.heap.size + 1, 0, none⟩ (.int .i64 yf.n)).setCell ⟨w.heap.size + 1, 1, none⟩ (.int .i64 yf.d)).cell? ⟨w.heap.size + 1, 1, none⟩ = some (.int .i64 yf.d) := by rw [cells_at HR2.out]; rfl
        clear hyf hb hr HR2 p1
        go_wp2
        exact bodyPost_ret (v := .tuple #[.agg #[.int .i64 yf.n, .int .i64 yf.d], .int .i64 0]) (by simp [results, Try.results41, go_sem, *]) rfl ⟨by rw [HYV.out, HYX.out], HBE.out⟩
set_option maxHeartbeats 2000000 in
theorem yieldU_no (w : World) (x y : Option Addr) (n c m d : Nat) (f : Int) (W : Wd) (p : List Int) (hA : A2Sl w x n c W.acts) (hp : Sl w y m d p) (hs : stB W p f = false) :
    Calls Try.prog 41 #[wv W.a W.b x n c, .slice y m d, .int .i64 f] w (GivesY ⟨0, 0⟩ 2 w) := by
  have hb0 := bal (bal (Below.refl w.heap.size w) (.cells #[.int .i64 W.a, .int .i64 W.b, .slice x n c] 33)) (.cells #[.int .i64 0, .int .i64 0] 53)
  have HRB := Lib.hid (box_res w W.a W.b x n c)
  have HA := Lib.hid (hA.mono hb0)
  have HP := Lib.hid (hp.mono hb0)
  have HB0 := Lib.hid hb0
  have HS := Lib.hid hs
  clear hA hp hb0 hs
  go_enter Try.func41, Try.ntmps41
  go_wp2_with fail
  generalize (w.alloc (.cells #[.int .i64 W.a, .int .i64 W.b, .slice x n c] 33)).alloc (.cells #[.int .i64 0, .int .i64 0] 53) = V0 at *
  refine (isstate_go _ x y n c m d f W p HA.out HP.out).mono ?_
  rintro e U ⟨rfl, hb⟩
  rw [HS.out]
  have HB1 := Lib.hid hb
  have hr := persist HRB.out hb
  have r0 : U.cell? ⟨w.heap.size + 1, 0, none⟩ = some (.int .i64 0) := by rw [cells_at hr]; rfl
  have r1 : U.cell? ⟨w.heap.size + 1, 1, none⟩ = some (.int .i64 0) := by rw [cells_at hr]; rfl
  have r2 := free_at hr 0
  have r3 := free_at hr 1
  have r4 := lt_of_block hr
  have HR2 := Lib.hid (set_at (set_at hr 0 (.int .i64 0)) 1 (.int .i64 0))
  have HBE := Lib.hid ((((btr HB0.out HB1.out).setCell (p := ⟨w.heap.size + 1, 0, none⟩) (by show w.heap.size ≤ w.heap.size + 1; omega) (.int .i64 0))).setCell (p := ⟨w.heap.size + 1, 1, none⟩) (by show w.heap.size ≤ w.heap.size + 1; omega) (.int .i64 0))
  have s0 : ((U.setCell ⟨w.heap.size + 1, 0, none⟩ (.int .i64 0)).setCell ⟨w.heap.size + 1, 1, none⟩ (.int .i64 0)).cell? ⟨w.heap.size + 1, 0, none⟩ = some (.int .i64 0) := by rw [cells_at HR2.out]; rfl
  have s1 : ((U.setCell ⟨w.heap.size + 1, 0, none⟩ (.int .i64 0)).setCell ⟨w.heap.size + 1, 1, none⟩ (.int .i64 0)).cell? ⟨w.heap.size + 1, 1, none⟩ = some (.int .i64 0) := by rw [cells_at HR2.out]; rfl
  clear hb hr HR2
  go_wp2
  exact bodyPost_ret (v := .tuple #[.agg #[.int .i64 0, .int .i64 0], .int .i64 2]) (by simp [results, Try.results41, go_sem, *]) rfl ⟨rfl, HBE.out⟩
end Go.Proofs.Ytcmakddnjmeklaa

/- Chapter 9, the reference: Rest: its answer. -/
namespace Go.Proofs.Ytcmakddnjmeklaa
open Go.RowKit
set_option linter.unusedSimpArgs false

theorem rtimes_S (w : World) (mu D S : Int) (hm : 0 ≤ mu ∧ mu ≤ 1728) (hD : 0 < D ∧ D ≤ 82944) (hS : 1 ≤ S ∧ S ≤ 12) :
    Calls Try.prog 71 #[.agg #[.int .i64 (toFr ((mu : Rat) / (D : Rat))).n, .int .i64 (toFr ((mu : Rat) / (D : Rat))).d], .agg #[.int .i64 S, .int .i64 1]] w fun e w' => e = .returned (.agg #[.int .i64 (toFr (((mu * S : Int) : Rat) / (D : Rat))).n, .int .i64 (toFr (((mu * S : Int) : Rat) / (D : Rat))).d]) ∧ Below w.heap.size w w' := by
  have hb := ov_bd (q := (mu : Rat) / (D : Rat)) (D := D) (Z := 1728) ⟨mu, rfl, by omega, by omega⟩ hD.1
  have h := rtimes_raw w ((mu : Rat) / (D : Rat)) (S : Rat) _ (rr_time mu S D) (by omega) (by rw [Rat.den_intCast, Rat.num_intCast]; omega)
  rw [toFr_int] at h
  exact h
theorem heap_cell {w w' : World} {b : Nat} (h : w'.heap[b]? = w.heap[b]?) (o : Nat) : w'.cell? ⟨b, o, none⟩ = w.cell? ⟨b, o, none⟩ := by
  unfold World.cell?
  simp only [h]

set_option maxRecDepth 100000 in
set_option maxHeartbeats 4000000 in
theorem rr_out9 (V V1 : World) (pw n c m d K lc f go fb fo fc : Nat) (W : Wd) (x y la : Option Addr) (p : List Int) (L : List Nat) (hw : BoxR V pw W.a W.b x n c) (hA : A2Sl V x n c W.acts) (hp : Sl V y m d p) (hok : isPlanB W p = true) (hl : Sl V la K lc (natI L)) (hlK : L.length = K) (hL : ∀ i, i < K → gN L i < n) (hK : K ≤ 4) (hf : f < n) (hag : agOk W p f = true) (hLX : L = stL (agSet W p f) W.acts.length) (hB : Below V.heap.size V V1) (hgo : V.heap.size ≤ go) (hout : RgSt V1 go m m (rrF W p f 0)) (hfb : fb < V1.heap.size) (hne : fb ≠ go) (hF : ∀ j, j < K → V1.cell? ⟨fb, fo + j * 2, none⟩ = some (.int .i64 (toFr ((muR W p f (gN L j) : Rat) / (restD W p f : Rat))).n) ∧ V1.cell? ⟨fb, fo + j * 2 + 1, none⟩ = some (.int .i64 (toFr ((muR W p f (gN L j) : Rat) / (restD W p f : Rat))).d)) (hfc : K ≤ fc ∧ fc ≤ maxLen) (R : Act → World → Prop)
    (c0 c2 c4 c5 c6 c7 c8 c10 c11 c12 c13 c14 c15 c16 c17 c18 c19 c20 c21 c22 c23 c24 c25 c27 c28 c29 c30 c31 c32 c33 c34 c35 c36 c37 c38 c39 c40 c41 c42 c43 c44 c45 c46 c47 c48 c49 c50 c51 c52 c53 c54 c55 c56 c57 c58 c59 c60 c61 c62 c63 c64 c65 c66 c67 c68 c69 c70 c71 c72 c73 c74 c75 c76 c77 c78 c79 c80 c81 c82 c83 c84 c85 c86 c87 c88 c89 c90 c91 c92 c93 c94 c95 c96 c97 c98 c99 c100 c101 c102 c103 c104 c105 c106 c107 c108 c109 c110 c111 c112 c113 c114 c115 c116 c117 c118 c119 c120 c121 c122 c123 c124 c125 c126 c127 c128 c129 c130 c131 c132 c133 c134 c135 c136 c137 c138 c139 c140 c141 c142 c143 c144 c145 c146 c147 c148 c149 c150 c151 c152 c153 c154 c155 c156 c157 c158 c159 c160 c161 c162 c163 c164 c165 c166 c167 c168 c169 c170 c171 c172 c173 c174 c175 c176 c177 c178 c179 c180 c181 c182 c183 c184 c185 c186 c187 c188 c189 c190 c191 c192 c193 c194 c195 c196 c197 c198 c199 c200 c201 c202 c203 c204 c205 c206 c207 c211 c212 c213 c214 c215 c216 c217 c218 c219 c220 c221 c222 c223 c224 c225 c226 c227 c228 c229 c230 c231 c232 c233 c234 c235 c236 c237 c238 c239 : Value)
    (hexit : ∀ (u28 u29 u30 u210 u211 u212 u213 u214 u215 u216 u217 u218 u219 u220 u221 u222 u223 u224 u225 u226 u227 u228 u229 u230 u231 u232 u233 u234 u235 u236 u237 u238 : Value) (w' : World), RgSt w' go m m (rrF W p f K) → Below V.heap.size V w' → R ⟨List.toArray (c0 :: .slice y m d :: c2 :: .pointer (some ⟨pw, 0, none⟩) :: c4 :: c5 :: c6 :: c7 :: c8 :: .slice la K lc :: c10 :: c11 :: c12 :: c13 :: c14 :: c15 :: c16 :: c17 :: c18 :: c19 :: c20 :: c21 :: c22 :: c23 :: c24 :: c25 :: .slice (some ⟨go, 0, none⟩) m m :: c27 :: u28 :: u29 :: u30 :: c31 :: c32 :: c33 :: c34 :: c35 :: c36 :: c37 :: c38 :: c39 :: c40 :: c41 :: c42 :: c43 :: c44 :: c45 :: c46 :: c47 :: c48 :: c49 :: c50 :: c51 :: c52 :: c53 :: c54 :: c55 :: c56 :: c57 :: c58 :: c59 :: c60 :: c61 :: c62 :: c63 :: c64 :: c65 :: c66 :: c67 :: c68 :: c69 :: c70 :: c71 :: c72 :: c73 :: c74 :: c75 :: c76 :: c77 :: c78 :: c79 :: c80 :: c81 :: c82 :: c83 :: c84 :: c85 :: c86 :: c87 :: c88 :: c89 :: c90 :: c91 :: c92 :: c93 :: c94 :: c95 :: c96 :: c97 :: c98 :: c99 :: c100 :: c101 :: c102 :: c103 :: c104 :: c105 :: c106 :: c107 :: c108 :: c109 :: c110 :: c111 :: c112 :: c113 :: c114 :: c115 :: c116 :: c117 :: c118 :: c119 :: c120 :: c121 :: c122 :: c123 :: c124 :: c125 :: c126 :: c127 :: c128 :: c129 :: c130 :: c131 :: c132 :: c133 :: c134 :: c135 :: c136 :: c137 :: c138 :: c139 :: c140 :: c141 :: c142 :: c143 :: c144 :: c145 :: c146 :: c147 :: c148 :: c149 :: c150 :: c151 :: c152 :: c153 :: c154 :: c155 :: c156 :: c157 :: c158 :: c159 :: c160 :: c161 :: c162 :: c163 :: c164 :: c165 :: c166 :: c167 :: c168 :: c169 :: c170 :: c171 :: c172 :: c173 :: c174 :: c175 :: c176 :: c177 :: c178 :: c179 :: c180 :: c181 :: c182 :: c183 :: c184 :: c185 :: c186 :: c187 :: c188 :: c189 :: c190 :: c191 :: c192 :: c193 :: c194 :: c195 :: c196 :: c197 :: c198 :: c199 :: c200 :: c201 :: c202 :: c203 :: c204 :: c205 :: c206 :: c207 :: .slice (some ⟨fb, fo, none⟩) K fc :: .int .i64 K :: u210 :: u211 :: u212 :: u213 :: u214 :: u215 :: u216 :: u217 :: u218 :: u219 :: u220 :: u221 :: u222 :: u223 :: u224 :: u225 :: u226 :: u227 :: u228 :: u229 :: u230 :: u231 :: u232 :: u233 :: u234 :: u235 :: u236 :: u237 :: u238 :: c239 :: []), []⟩ w') :
    Code.wp Try.prog (Code.loop (rrBody 8)) (OnExit 16 R) ⟨List.toArray (c0 :: .slice y m d :: c2 :: .pointer (some ⟨pw, 0, none⟩) :: c4 :: c5 :: c6 :: c7 :: c8 :: .slice la K lc :: c10 :: c11 :: c12 :: c13 :: c14 :: c15 :: c16 :: c17 :: c18 :: c19 :: c20 :: c21 :: c22 :: c23 :: c24 :: c25 :: .slice (some ⟨go, 0, none⟩) m m :: c27 :: c28 :: c29 :: c30 :: c31 :: c32 :: c33 :: c34 :: c35 :: c36 :: c37 :: c38 :: c39 :: c40 :: c41 :: c42 :: c43 :: c44 :: c45 :: c46 :: c47 :: c48 :: c49 :: c50 :: c51 :: c52 :: c53 :: c54 :: c55 :: c56 :: c57 :: c58 :: c59 :: c60 :: c61 :: c62 :: c63 :: c64 :: c65 :: c66 :: c67 :: c68 :: c69 :: c70 :: c71 :: c72 :: c73 :: c74 :: c75 :: c76 :: c77 :: c78 :: c79 :: c80 :: c81 :: c82 :: c83 :: c84 :: c85 :: c86 :: c87 :: c88 :: c89 :: c90 :: c91 :: c92 :: c93 :: c94 :: c95 :: c96 :: c97 :: c98 :: c99 :: c100 :: c101 :: c102 :: c103 :: c104 :: c105 :: c106 :: c107 :: c108 :: c109 :: c110 :: c111 :: c112 :: c113 :: c114 :: c115 :: c116 :: c117 :: c118 :: c119 :: c120 :: c121 :: c122 :: c123 :: c124 :: c125 :: c126 :: c127 :: c128 :: c129 :: c130 :: c131 :: c132 :: c133 :: c134 :: c135 :: c136 :: c137 :: c138 :: c139 :: c140 :: c141 :: c142 :: c143 :: c144 :: c145 :: c146 :: c147 :: c148 :: c149 :: c150 :: c151 :: c152 :: c153 :: c154 :: c155 :: c156 :: c157 :: c158 :: c159 :: c160 :: c161 :: c162 :: c163 :: c164 :: c165 :: c166 :: c167 :: c168 :: c169 :: c170 :: c171 :: c172 :: c173 :: c174 :: c175 :: c176 :: c177 :: c178 :: c179 :: c180 :: c181 :: c182 :: c183 :: c184 :: c185 :: c186 :: c187 :: c188 :: c189 :: c190 :: c191 :: c192 :: c193 :: c194 :: c195 :: c196 :: c197 :: c198 :: c199 :: c200 :: c201 :: c202 :: c203 :: c204 :: c205 :: c206 :: c207 :: .slice (some ⟨fb, fo, none⟩) K fc :: .int .i64 K :: .int .i64 0 :: c211 :: c212 :: c213 :: c214 :: c215 :: c216 :: c217 :: c218 :: c219 :: c220 :: c221 :: c222 :: c223 :: c224 :: c225 :: c226 :: c227 :: c228 :: c229 :: c230 :: c231 :: c232 :: c233 :: c234 :: c235 :: c236 :: c237 :: c238 :: c239 :: []), []⟩ V1 := by
  conv => arg 2; arg 1; whnf
  obtain ⟨_, hpl, _, ⟨hn1, hn4, _⟩, _⟩ := plan_parts hok
  have hnA := hA.1
  have hmp := hp.len
  have hlcap := hl.cap
  unfold maxLen at hlcap
  obtain rfl : m = n := by omega
  have HNA := Lib.hid hnA
  have HLK := Lib.hid hlK
  have HLN := Lib.hid hL
  have hm4 : m ≤ 4 := by omega
  have HOK := Lib.hid hok
  have HA := Lib.hid hA
  have HP := Lib.hid hp
  have HW := Lib.hid hw
  have HL := Lib.hid hl
  unfold maxLen at hfc
  have HF := Lib.hid hF
  have HLX := Lib.hid hLX
  have HFA := Lib.hid (show f < W.acts.length by omega)
  have HAG := Lib.hid hag
  have hD := restD_bd hok hag (by omega)
  have HMU := Lib.hid (fun s (hs : s < W.acts.length) => mu_bd hok hag (f := f) (by omega) hs)
  have HRN := Lib.hid (fun s (hs : s < W.acts.length) => restN_at (f := f) hok hs)
  have HFSU := Lib.hid (fun i s (hi : i < K) (hs : s < W.acts.length) => rrF_succ (W := W) (p := p) (f := f) (i := i) (s := s) (by rw [← hLX, hlK]; exact hi) hs)
  obtain ⟨D, hDE⟩ : ∃ D, restD W p f = D := ⟨_, rfl⟩
  rw [hDE] at HF hD HFSU
  have HB0 := Lib.hid hB
  have HO0 := Lib.hid hout
  clear hA hp hw hl hok hpl hnA hmp hn1 hn4 hL hlK hF hB hout hDE hag
  go_loopw [210] (fun t2 wr => ∃ i : Nat, i ≤ K ∧ t2 = .int .i64 i ∧ Hid (RgSt wr go m m (rrF W p f i)) ∧ Hid (Below V.heap.size V wr) ∧ Hid (∀ b, b ≠ go → b < V1.heap.size → wr.heap[b]? = V1.heap[b]?) ∧ Hid (V1.heap.size ≤ wr.heap.size)) (fun t2 _ => K - (intOf t2).toNat)
  case atStart => exact ⟨0, by omega, rfl, HO0, HB0, Lib.hid (fun _ _ _ => rfl), Lib.hid (Nat.le_refl _)⟩
  case round =>
    clear HB0 HO0
    obtain ⟨i, hi, rfl, HO, HB, HK, HS⟩ := hrel
    by_cases hli : i < K
    · obtain ⟨s, hs⟩ : ∃ t, gN L i = t := ⟨_, rfl⟩
      have hsm := HLN.out i hli
      have hFi := HF.out i hli
      rw [hs] at hsm hFi
      have HSE := Lib.hid hs
      have hsA : s < W.acts.length := by rw [HNA.out]; exact hsm
      have hmu := HMU.out s hsA
      have hS := pa_of0 HOK.out hsA
      obtain ⟨b0, o0, rfl, hb0, hc0⟩ := HL.out.at (by omega)
      have e0 := hc0 i hli
      rw [natI_at, hs, ← (bcell HB.out).1 _ _ hb0] at e0
      obtain ⟨p1, p2⟩ := hFi
      rw [← heap_cell (HK.out fb hne hfb)] at p1 p2
      obtain ⟨b3, o3, b4, o4, b5, o5, m2, q2, t0, z, q, rfl, rfl, hb3, hb4, hb5, e2, htm2, hcq, e5, eo, hSl⟩ := pod_cells HA.out HP.out HOK.out hsm
      unfold maxLen at hcq
      have hzc := hSl.cap
      unfold maxLen at hzc
      have HOR := Lib.hid (show ∀ y ∈ podds W p s, 0 ≤ y ∧ y ≤ 3 from (vAc_at (vAc_pact HOK.out hsA)).2.2.2.1)
      have HSUC := Lib.hid (fun u (hu : u < m) => HFSU.out i u hli (by rw [HNA.out]; exact hu))
      have HNX := Lib.hid (show nth (restN W p f) s = muR W p f s * isum (podds W p s) from HRN.out s hsA)
      obtain ⟨S, hSE⟩ : ∃ S, isum (podds W p s) = S := ⟨_, rfl⟩
      have HSS := Lib.hid hSE
      rw [hSE] at hS HNX
      obtain ⟨mu, hmE⟩ : ∃ S, muR W p f s = S := ⟨_, rfl⟩
      rw [hmE] at hmu HNX p1 p2
      have HMB := Lib.hid (show 0 ≤ mu ∧ mu ≤ 1728 from ⟨hmu.1, hmu.2.1⟩)
      have HDB := Lib.hid hD
      have HSB := Lib.hid hS
      have HTI := Lib.hid (fun w' => rtimes_S w' mu D S HMB.out HDB.out HSB.out)
      obtain ⟨FX, hFX⟩ : ∃ z, toFr ((mu : Rat) / (D : Rat)) = z := ⟨_, rfl⟩
      obtain ⟨FZ, hFZ⟩ : ∃ z, toFr (((mu * S : Int) : Rat) / (D : Rat)) = z := ⟨_, rfl⟩
      rw [hFX, hFZ] at HTI
      rw [hFX] at p1 p2
      have HOZ := Lib.hid (show ∀ u, u < m → rrF W p f (i + 1) u = if u = s then FZ else rrF W p f i u from fun u hu => by
        rw [HSUC.out u hu, ← HLX.out, HSE.out]
        split
        · rename_i e; subst e; rw [HNX.out, hFZ]
        · rfl)
      have hwz := HB.out.size
      have hgw := HO.out.lt
      have HBT := Lib.hid (bal HB.out (.cells #[.int .i64 FX.n, .int .i64 FX.d] 53))
      have HNW := Lib.hid (new_at wr (.cells #[.int .i64 FX.n, .int .i64 FX.d] 53))
      have HOT := Lib.hid (HO.out.mono (bal (Below.refl _ _) (.cells #[.int .i64 FX.n, .int .i64 FX.d] 53)))
      have HKT := Lib.hid (fun b (h1 : b ≠ go) (h2 : b < V1.heap.size) => (Below.heap_alloc wr (.cells #[.int .i64 FX.n, .int .i64 FX.d] 53) b (Nat.lt_of_lt_of_le h2 HS.out)).trans (HK.out b h1 h2))
      have HST := Lib.hid (show V1.heap.size ≤ (wr.alloc (.cells #[.int .i64 FX.n, .int .i64 FX.d] 53)).heap.size by have := HS.out; simp; omega)
      have e0' : (wr.alloc (.cells #[.int .i64 FX.n, .int .i64 FX.d] 53)).cell? ⟨b0, o0 + i, none⟩ = some (.int .i64 (s : Int)) := ((bcell HBT.out).1 _ _ hb0).trans (((bcell HB.out).1 _ _ hb0).symm.trans e0)
      have hb0w : b0 < wr.heap.size := Nat.lt_of_lt_of_le hb0 hwz
      have E2 := Lib.hid e2
      have E5 := Lib.hid e5
      have EO := Lib.hid eo
      have HSL := Lib.hid hSl
      clear hs hc0 hSE hmE hFX hFZ hmu hS HMU HF hSl e2 e5 eo
      go_wp2
      obtain ⟨T, hT⟩ : ∃ T, wr.alloc (.cells #[.int .i64 FX.n, .int .i64 FX.d] 53) = T := ⟨_, rfl⟩
      clear e0 e0'
      rw [hT] at HBT HNW HOT HKT HST ⊢
      clear hT
      have HSX := Lib.hid (fun (w' : World) (hb : Below T.heap.size T w') =>
        (show w'.cell? ⟨wr.heap.size, 0, none⟩ = some (.int .i64 FX.n) ∧ w'.cell? ⟨wr.heap.size, 1, none⟩ = some (.int .i64 FX.d) ∧ w'.cell? ⟨pw, 2, none⟩ = some (.slice (some ⟨b3, o3, none⟩) m c) ∧ w'.cell? ⟨b3, o3 + s, none⟩ = some (.slice (some ⟨b4, o4, none⟩) m2 q2) ∧ w'.cell? ⟨b5, o5 + s, none⟩ = some (.int .i64 (t0 : Int)) ∧ w'.cell? ⟨b4, o4 + t0 * 2 + 1, none⟩ = some (.slice z m q) from
          have hv := btr HBT.out hb
          have hn := persist HNW.out hb
          ⟨by rw [cells_at hn]; rfl, by rw [cells_at hn]; rfl, (BoxR.cells (persist HW.out hv)).2.2.2, ((bcell hv).1 _ _ hb3).trans E2.out, ((bcell hv).1 _ _ hb5).trans E5.out, ((bcell hv).1 _ _ hb4).trans EO.out⟩))
      have hpw := (BoxR.cells HW.out).1
      have HSY := Lib.hid (fun (w' : World) (hb : Below T.heap.size T w') (v1 v2 : Value) =>
        (show ((w'.setCell ⟨go, s * 2, none⟩ v1).setCell ⟨go, s * 2 + 1, none⟩ v2).cell? ⟨wr.heap.size, 0, none⟩ = some (.int .i64 FX.n) ∧ ((w'.setCell ⟨go, s * 2, none⟩ v1).setCell ⟨go, s * 2 + 1, none⟩ v2).cell? ⟨wr.heap.size, 1, none⟩ = some (.int .i64 FX.d) ∧ ((w'.setCell ⟨go, s * 2, none⟩ v1).setCell ⟨go, s * 2 + 1, none⟩ v2).cell? ⟨pw, 2, none⟩ = some (.slice (some ⟨b3, o3, none⟩) m c) ∧ ((w'.setCell ⟨go, s * 2, none⟩ v1).setCell ⟨go, s * 2 + 1, none⟩ v2).cell? ⟨b3, o3 + s, none⟩ = some (.slice (some ⟨b4, o4, none⟩) m2 q2) ∧ ((w'.setCell ⟨go, s * 2, none⟩ v1).setCell ⟨go, s * 2 + 1, none⟩ v2).cell? ⟨b5, o5 + s, none⟩ = some (.int .i64 (t0 : Int)) ∧ ((w'.setCell ⟨go, s * 2, none⟩ v1).setCell ⟨go, s * 2 + 1, none⟩ v2).cell? ⟨b4, o4 + t0 * 2 + 1, none⟩ = some (.slice z m q) from
          have hA : ∀ (u : World) (i : Nat) (v : Value) (blk off : Nat), blk ≠ go → (u.setCell ⟨go, i, none⟩ v).cell? ⟨blk, off, none⟩ = u.cell? ⟨blk, off, none⟩ := fun u i v blk off hne => World.cell?_setCell_other _ _ _ _ (by intro e; injection e with e; exact hne e.symm)
          have n0 : wr.heap.size ≠ go := by omega
          have n1 : pw ≠ go := by omega
          have n2 : b3 ≠ go := by omega
          have n3 : b5 ≠ go := by omega
          have n4 : b4 ≠ go := by omega
          have h := HSX.out _ hb
          ⟨by rw [hA _ _ _ _ _ n0, hA _ _ _ _ _ n0]; exact h.1, by rw [hA _ _ _ _ _ n0, hA _ _ _ _ _ n0]; exact h.2.1, by rw [hA _ _ _ _ _ n1, hA _ _ _ _ _ n1]; exact h.2.2.1, by rw [hA _ _ _ _ _ n2, hA _ _ _ _ _ n2]; exact h.2.2.2.1, by rw [hA _ _ _ _ _ n3, hA _ _ _ _ _ n3]; exact h.2.2.2.2.1, by rw [hA _ _ _ _ _ n4, hA _ _ _ _ _ n4]; exact h.2.2.2.2.2⟩))
      have hD : Below T.heap.size T T.drew := (Below.refl _ _).drew
      obtain ⟨r1, r2, r3, r4, r5, r6⟩ := HSX.out _ hD
      have hz1 := HOT.out.lt
      clear p1 p2
      go_region_held3 (fun w' => w'.cell? ⟨wr.heap.size, 0, none⟩ = some (.int .i64 FX.n) ∧ w'.cell? ⟨wr.heap.size, 1, none⟩ = some (.int .i64 FX.d) ∧ w'.cell? ⟨pw, 2, none⟩ = some (.slice (some ⟨b3, o3, none⟩) m c) ∧ w'.cell? ⟨b3, o3 + s, none⟩ = some (.slice (some ⟨b4, o4, none⟩) m2 q2) ∧ w'.cell? ⟨b5, o5 + s, none⟩ = some (.int .i64 (t0 : Int)) ∧ w'.cell? ⟨b4, o4 + t0 * 2 + 1, none⟩ = some (.slice z m q))
        (first | exact HSX.out _ hD | exact HSY.out _ hD _ _ | go_keep)
        (first
          | ((with_reducible refine (rsum_go _ z m q (podds W p s) (HSL.out.mono (btr HBT.out hD)) (by omega) HOR.out).mono ?_); rintro e w' ⟨rfl, rfl⟩; rw [HSS.out])
          | ((with_reducible refine (HTI.out _).mono ?_); rintro e w' ⟨rfl, hb⟩; replace hD := btr hD hb; clear hb; obtain ⟨v1, v2, q1, q2', q3, q4⟩ := (HOT.out.mono hD).slot hsm; have q5 := (HOT.out.mono hD).lt))
      have HO4 := Lib.hid ((HOT.out.mono hD).put hsm FZ (k' := m) (G := rrF W p f (i + 1)) (fun u hu => HOZ.out u hu) (fun u hu => .inr hu))
      have HB4 := Lib.hid (((btr HBT.out hD).setCell (p := ⟨go, s * 2, none⟩) hgo (.int .i64 FZ.n)).setCell (p := ⟨go, s * 2 + 1, none⟩) hgo (.int .i64 FZ.d))
      have HK4 := Lib.hid (fun b (h1 : b ≠ go) (h2 : b < V1.heap.size) => (Below.heap_setCell _ ⟨go, s * 2 + 1, none⟩ (.int .i64 FZ.d) b h1).trans ((Below.heap_setCell _ ⟨go, s * 2, none⟩ (.int .i64 FZ.n) b h1).trans ((hD.block b (Nat.lt_of_lt_of_le h2 HST.out)).trans (HKT.out b h1 h2))))
      have HS4 := Lib.hid (Nat.le_trans HST.out (Nat.le_trans hD.size (show _ ≤ (World.setCell (World.setCell _ ⟨go, s * 2, none⟩ (.int .i64 FZ.n)) ⟨go, s * 2 + 1, none⟩ (.int .i64 FZ.d)).heap.size by rw [World.size_setCell, World.size_setCell]; exact Nat.le_refl _)))
      clear hD r1 r2 r3 r4 r5 r6
      go_wp2
      go_roundw
      case rel => go_light; exact ⟨i + 1, by omega, by go_num, HO4, HB4, HK4, HS4⟩
      case measure => simp [intOf]; omega
    · obtain rfl : i = K := by omega
      have HO2 := Lib.hid HO.out
      go_wp2
      exact ⟨rfl, hexit _ _ _ _ _ _ _ _ _ _ _ _ _ _ _ _ _ _ _ _ _ _ _ _ _ _ _ _ _ _ _ _ _ HO2.out HB.out⟩
end Go.Proofs.Ytcmakddnjmeklaa

/- Chapter 9, the reference: Rest, whole. -/
namespace Go.Proofs.Ytcmakddnjmeklaa
open Go.RowKit
set_option linter.unusedSimpArgs false

def GivesRr (W : Wd) (p : List Int) (f n : Nat) (w : World) (e : Ending) (w' : World) : Prop := (agOk W p f = true → GivesFS (restF W p f) n w e w') ∧ (agOk W p f = false → GivesNo 5 w e w')
theorem rr_frac (w : World) (k : Nat) (D det a : Int) (hdet : det = sgn k * D) (hD : 0 < D ∧ D ≤ 82944) (ha : -4000000000000000000 ≤ a ∧ a ≤ 4000000000000000000) :
    Calls Try.prog 80 #[.int .i64 a, .int .i64 det] w fun e w' => e = .returned (fv (toFr ((a : Rat) / (det : Rat)))) ∧ Below w.heap.size w w' := by
  rcases sgn_cases k with e | e
  · rw [e, Int.one_mul] at hdet
    subst hdet
    exact rfrac_go w a det ha hD.1 (by omega)
  · rw [e, Int.neg_mul, Int.one_mul] at hdet
    subst hdet
    have h := rfrac_neg w (-a) D (by omega) hD.1 (by omega)
    rw [Int.neg_neg] at h
    have h2 : ((-a : Int) : Rat) / (D : Rat) = (a : Rat) / ((-D : Int) : Rat) := by
      rw [Rat.intCast_neg, Rat.intCast_neg]
      have h0 : (D : Rat) ≠ 0 := by
        intro h2
        have : D = 0 := by exact_mod_cast h2
        omega
      generalize (D : Rat) = d at *
      generalize (a : Rat) = m
      grind
    rw [h2] at h
    exact h

set_option maxRecDepth 100000 in
set_option maxHeartbeats 4000000 in
theorem rrest_go (w : World) (x y : Option Addr) (n c m d f : Nat) (W : Wd) (p : List Int) (hA : A2Sl w x n c W.acts) (hp : Sl w y m d p) (hok : isPlanB W p = true) (hf : f < n) :
    Calls Try.prog 43 #[wv W.a W.b x n c, .slice y m d, .int .i64 f] w (GivesRr W p f n w) := by
  obtain ⟨i0, hi, hz0, hz1, hz2⟩ := info_parts infoFr
  have hb0 := bal (Below.refl w.heap.size w) (.cells #[.int .i64 W.a, .int .i64 W.b, .slice x n c] 25)
  have HZ := Lib.hid (boxR_new w W.a W.b x n c)
  have HA := Lib.hid (hA.mono hb0)
  have HP := Lib.hid (hp.mono hb0)
  have HB0 := Lib.hid hb0
  have HOK := Lib.hid hok
  have HNA := Lib.hid hA.1
  obtain ⟨_, hpl, _, ⟨hn1, hn4, _⟩, _⟩ := plan_parts hok
  have hnA := hA.1
  have hmp := hp.len
  obtain rfl : m = n := by omega
  have hn1 : 1 ≤ m := by omega
  have hn4 : m ≤ 4 := by omega
  have HAL := Lib.hid (ag_len (W := W) (p := p) (f := f) hok (by omega))
  clear hA hp hb0 hok hpl hnA hmp
  go_enter Try.func43, Try.ntmps43
  go_wp2_with fail
  generalize w.alloc (.cells #[.int .i64 W.a, .int .i64 W.b, .slice x m c] 25) = V0 at *
  refine (rreach_go _ x y m c m d f W p HA.out HP.out HOK.out hf).mono ?_
  rintro e w1 ⟨rfl, hb⟩
  have HB1 := Lib.hid hb
  clear hb
  go_wp2
  refine wp_onExit (k := 0) (rr_again w1 w.heap.size m c m d f W x y p (HZ.out.mono HB1.out) (HA.out.mono HB1.out) (HP.out.mono HB1.out) HOK.out hf _ _ _ _ _ _ _ _ _ _ _ _ _ _ _ _ _ _ _ _ _ _ _ _ _ _ _ _ _ _ _ _ _ _ _ _ _ _ _ _ _ _ _ _ _ _ _ _ _ _ _ _ _ _ _ _ _ _ _ _ _ _ _ _ _ _ _ _ _ _ _ _ _ _ _ _ _ _ _ _ _ _ _ _ _ _ _ _ _ _ _ _ _ _ _ _ _ _ _ _ _ _ _ _ _ _ _ _ _ _ _ _ _ _ _ _ _ _ _ _ _ _ _ _ _ _ _ _ _ _ _ _ _ _ _ _ _ _ _ _ _ _ _ _ _ _ _ _ _ _ _ _ _ _ _ _ _ _ _ _ _ _ _ _ _ _ _ _ _ _ _ _ _ _ _ _ _ _ _ _ _ _ _ _ _ _ _ _ _ _ _ _ _ _ _ _ _ _ _ _ _ _ _ _ _ _ _ _ _ _ _ _ _ _ _ _ _ _ _ _ _ _ _ _ _ _ _ _ _ _ _ _ _ _ _ ?_)
  intro la K lc v10 v11 v12 v37 v38 v39 v40 v41 v42 v43 v44 v45 v46 v47 v48 v49 v50 v51 v52 v53 v54 v55 v56 v57 v58 v59 v60 v61 v62 v63 v64 v65 v66 v67 v68 v69 v70 v71 v72 v73 v74 v75 v76 v77 w2 hKe hsl hB2
  have HB2 := Lib.hid (btr HB1.out hB2)
  have HKE := Lib.hid hKe
  have HSL := Lib.hid hsl
  have hK4 : K ≤ 4 := by have := HAL.out; omega
  have hK1 : 1 ≤ K := by have := HAL.out; omega
  have hlcap := hsl.cap
  unfold maxLen at hlcap
  clear hB2 hKe hsl
  go_wp2
  refine wp_onEnd (k := 4) (rr_check w2 w.heap.size m c m d K lc f W x y la p (HZ.out.mono HB2.out) (HA.out.mono HB2.out) (HP.out.mono HB2.out) HOK.out hf HKE.out HSL.out _ _ _ _ _ _ _ _ _ _ _ _ _ _ _ _ _ _ _ _ _ _ _ _ _ _ _ _ _ _ _ _ _ _ _ _ _ _ _ _ _ _ _ _ _ _ _ _ _ _ _ _ _ _ _ _ _ _ _ _ _ _ _ _ _ _ _ _ _ _ _ _ _ _ _ _ _ _ _ _ _ _ _ _ _ _ _ _ _ _ _ _ _ _ _ _ _ _ _ _ _ _ _ _ _ _ _ _ _ _ _ _ _ _ _ _ _ _ _ _ _ _ _ _ _ _ _ _ _ _ _ _ _ _ _ _ _ _ _ _ _ _ _ _ _ _ _ _ _ _ _ _ _ _ _ _ _ _ _ _ _ _ _ _ _ _ _ _ _ _ _ _ _ _ _ _ _ _ _ _ _ _ _ _ _ _ _ _ _ _ _ _ _ _ _ _ _ _ _ _ _ _ _ _ _ _ _ _ _ _ _ _ _ _ _ _ _ _ _ _ _ _ _ _ _ _ _ _ _ _ _ _ _ _ _ _ (Lib.hid fun hgood => ?_) (Lib.hid fun hbad => ?_))
  · intro v6 v7 v14 v16 v80 v81 v82 v83 v84 v85 v86 v87 v88 v89 v90 v91 v92 v93 v94 v95 v96 v97 v98 v99 w3 hb3
    have HG := Lib.hid hgood
    have HB3 := Lib.hid (btr HB2.out hb3)
    have HSL3 := Lib.hid (HSL.out.mono hb3)
    have HLT := Lib.hid (show ∀ i, i < K → gN (stL (agSet W p f) W.acts.length) i < m from fun i hi => by have h := stL_ltA (W := W) (X := agSet W p f) (i := i) (by rw [← HKE.out]; exact hi); exact Nat.lt_of_lt_of_le h (Nat.le_of_eq HNA.out))
    have HPLN := Lib.hid (fun j (hj : j < (stL (agSet W p f) W.acts.length).length) => rr_sol (W := W) (p := p) (f := f) (j := j) HOK.out hgood (by rw [HNA.out]; exact hf) hj)
    have HSQ := Lib.hid (rr_sq (W := W) (p := p) (f := f) HOK.out)
    have HEND := Lib.hid (show ∀ s, s < m → fr (restF W p f) s = rrF W p f K s from fun s hs => by rw [HKE.out]; exact (rrF_end HOK.out hgood (by rw [HNA.out]; exact hf) (by rw [HNA.out]; exact hs)).symm)
    have HDET := Lib.hid (rr_det (W := W) (p := p) (f := f) HOK.out hgood (by rw [HNA.out]; exact hf))
    have HD := Lib.hid (restD_bd (W := W) (p := p) (f := f) HOK.out hgood (by rw [HNA.out]; exact hf))
    obtain ⟨L, hL⟩ : ∃ L, stL (agSet W p f) W.acts.length = L := ⟨_, rfl⟩
    have HLE := Lib.hid hL
    rw [hL] at HKE HSL3 HLT HPLN HSQ HDET
    clear hb3 hgood hL HSL
    rw [← HKE.out] at HPLN HSQ HDET
    go_wp2
    refine wp_onExit (k := 8) (rr_rows5 w3 w.heap.size m c m d K lc W x y la p L (HZ.out.mono HB3.out) (HA.out.mono HB3.out) (HP.out.mono HB3.out) HOK.out HSL3.out HKE.out.symm HLT.out hK4 _ _ _ _ _ _ _ _ _ _ _ _ _ _ _ _ _ _ _ _ _ _ _ _ _ _ _ _ _ _ _ _ _ _ _ _ _ _ _ _ _ _ _ _ _ _ _ _ _ _ _ _ _ _ _ _ _ _ _ _ _ _ _ _ _ _ _ _ _ _ _ _ _ _ _ _ _ _ _ _ _ _ _ _ _ _ _ _ _ _ _ _ _ _ _ _ _ _ _ _ _ _ _ _ _ _ _ _ _ _ _ _ _ _ _ _ _ _ _ _ _ _ _ _ _ _ _ _ _ _ _ _ _ _ _ _ _ _ _ _ _ _ _ _ _ _ _ _ _ _ _ _ _ _ _ _ _ _ _ _ _ _ _ _ _ _ _ _ _ _ _ _ _ _ _ _ _ _ _ _ _ _ _ _ _ _ _ _ _ _ _ _ _ _ _ _ _ _ _ _ _ _ _ _ _ _ _ _ _ _ _ _ _ _ _ _ _ _ _ _ _ _ _ _ _ _ _ _ _ _ _ _ _ ?_)
    intro mv rv v19 v20 v21 v23 v24 v25 v102 v103 v104 v105 v106 v107 v108 v109 v110 v111 v112 v113 v114 v115 v116 v117 v118 v119 v120 v121 v122 v123 v124 v125 v126 v127 v128 v129 v130 v131 v132 v133 v134 v135 v136 v137 v138 v139 v140 v141 v142 v143 v144 v145 v146 v147 v148 v149 v150 v151 v152 v153 v154 v155 v156 v157 v158 v159 v160 v161 v162 v163 v164 v165 v166 v167 v168 v169 v170 v171 v172 v173 v174 v175 v176 v177 v178 v179 v180 v181 v182 v183 v184 v185 v186 v187 w4 hWo hB4
    have HB4 := Lib.hid (btr HB3.out hB4)
    have HSL4 := Lib.hid (HSL3.out.mono hB4)
    obtain ⟨E, D, hT, hlo, hR, hsep⟩ := hWo
    have hrr := hR
    rw [List.length_replicate] at hrr
    obtain ⟨ra, rc, rfl⟩ := own_form hrr
    obtain ⟨gr, rfl, _⟩ := own_cells hrr (by omega)
    obtain ⟨q1, q2, q3, q4, q5, q6, cur, q7⟩ := own_at hrr (by omega)
    have e1 := q3 (K - 1) (by omega)
    have e2 := q4 (K - 1)
    unfold maxLen at q6
    have HW4 := Lib.hid (WoSt.put (w := w4) ⟨E, D, hT, hlo, hR, hsep⟩ (K - 1) 1)
    have hkk : ((K : Int) - 1).toNat = K - 1 := by omega
    have hk0 : (0 : Int) ≤ (K : Int) - 1 := by omega
    have hk1 : (K : Int) - 1 < (K : Int) := by omega
    have hkn : (((K - 1 : Nat)) : Int) = (K : Int) - 1 := by omega
    have HB5 := Lib.hid (HB4.out.setCell (p := ⟨gr, K - 1, none⟩) (show V0.heap.size ≤ gr from Nat.le_trans HB3.out.size q1) (.int .i64 1))
    have hwo := HW4.out.sl
    rw [rrMat_len, HKE.out.symm, List.length_set, List.length_replicate] at hwo
    obtain ⟨⟨ma, mc, rfl, hM⟩, ⟨ra', rc', hre, hRS⟩⟩ := hwo
    injection hre with hre1 hre2 hre3
    subst hre1 hre3
    have HM := Lib.hid hM
    have HRS := Lib.hid (show Sl (w4.setCell ⟨gr, K - 1, none⟩ (.int .i64 1)) (some ⟨gr, 0, none⟩) K rc (rrRt K) from hRS)
    have HB3S := Lib.hid (show Below w3.heap.size w3 (w4.setCell ⟨gr, K - 1, none⟩ (.int .i64 1)) from hB4.setCell (p := ⟨gr, K - 1, none⟩) (show w3.heap.size ≤ gr from q1) (.int .i64 1))
    have hz34 := hB4.size
    have HSZ := Lib.hid (show (w4.setCell ⟨gr, K - 1, none⟩ (.int .i64 1)).heap.size = w4.heap.size by simp)
    clear hT hlo hR hsep hrr q3 q4 q7 hB4 hM hRS hre2
    go_wp2_with (refine wpList_make_full _ rfl _ _ 27 rfl (w4.setCell ⟨gr, K - 1, none⟩ (.int .i64 1)).heap.size 53 i0 (.agg #[.int .i64 0, .int .i64 0]) 2 Try.underlying27 hi hz0 hz1 .i64 .i64 m m m rfl rfl rfl rfl (by rw [hz2]; omega) (by unfold maxLen; omega) (Nat.le_refl _) ?_; intro w6 hown6 hgrow6)
    have HB6 := Lib.hid ((Below.refl (w4.setCell ⟨gr, K - 1, none⟩ (.int .i64 1)).heap.size (w4.setCell ⟨gr, K - 1, none⟩ (.int .i64 1))).grown hgrow6 (Nat.le_refl _) (fun _ h => by cases h))
    have HR6 := Lib.hid (show RgSt w6 w4.heap.size m 0 (fun _ => ⟨0, 1⟩) by have h := rg_made (fun _ => ⟨0, 1⟩) hown6 (by omega); simpa using h)
    clear hown6 hgrow6 e1 e2
    generalize w4.setCell ⟨gr, K - 1, none⟩ (.int .i64 1) = wS at *
    go_loopw [198] (fun t wr => ∃ k : Nat, k ≤ m ∧ t = .int .i64 k ∧ Hid (RgSt wr w4.heap.size m k (fun _ => ⟨0, 1⟩)) ∧ Hid (Below wS.heap.size wS wr)) (fun t _ => m - (intOf t).toNat)
    case atStart => exact ⟨0, by omega, rfl, HR6, HB6⟩
    case round =>
      clear HB6 HR6
      obtain ⟨k, hk, rfl, HR, HB⟩ := hrel
      by_cases hl : k < m
      · obtain ⟨v1, v2, q1, q2, q3, q4⟩ := HR.out.slot hl
        have q5 := HR.out.lt
        have HR2 := Lib.hid (HR.out.put hl ⟨0, 1⟩ (k' := k + 1) (G := fun _ => ⟨0, 1⟩) (fun j hj => by split <;> rfl) (fun j hj => by omega))
        have HB2 := Lib.hid ((HB.out.setCell (p := ⟨w4.heap.size, k * 2, none⟩) (Nat.le_of_eq HSZ.out) (.int .i64 0)).setCell (p := ⟨w4.heap.size, k * 2 + 1, none⟩) (Nat.le_of_eq HSZ.out) (.int .i64 1))
        go_wp2
        go_roundw
        case rel => go_light; exact ⟨k + 1, by omega, by go_num, HR2, HB2⟩
        case measure => simp [intOf]; omega
      · obtain rfl : k = m := by omega
        go_wp2_with fail
        refine (rsolve_go _ ma (some ⟨gr, 0, none⟩) K mc rc (rrMat W p L) (rrRt K) (HM.out.mono HB.out) HSQ.out (HRS.out.mono HB.out) (fun i hi => by rw [rrRt_at hi]; split <;> omega) hK4 (fun w' a ha => rr_frac w' (K - 1) (restD W p f) _ a HDET.out HD.out ha)).mono ?_
        rintro e w9 ⟨fa, fn, fc, rfl, hfn, hfo, hfb⟩
        have hgr := own_fr hfo hfn
        have hfK : fn = K := by rw [hfn, fracsL_len, colDs_len]
        subst hfK
        have hzr := HR.out.lt
        obtain ⟨fb0, e3, hge, _⟩ := own_cells hfo (by omega)
        subst e3
        have hfcap := hgr.2.cap
        obtain ⟨fb, fo, e4, hfbl, hfcl⟩ := hgr.at (by omega)
        injection e4 with e4
        injection e4 with e4 e5
        subst e4 e5
        have HF := Lib.hid (show ∀ j, j < fn → w9.cell? ⟨fb0, 0 + j * 2, none⟩ = some (.int .i64 (toFr ((muR W p f (gN L j) : Rat) / (restD W p f : Rat))).n) ∧ w9.cell? ⟨fb0, 0 + j * 2 + 1, none⟩ = some (.int .i64 (toFr ((muR W p f (gN L j) : Rat) / (restD W p f : Rat))).d) from fun j hj => by
          have h := hfcl j hj
          unfold FrEl at h
          rw [HPLN.out j hj] at h
          exact h)
        have HB9 := Lib.hid (btr HB3S.out (btr HB.out hfb))
        have HO9 := Lib.hid ((HR.out.mono hfb).ext (G := rrF W p f 0) fun j _ => rrF_zero)
        have hne : fb0 ≠ w4.heap.size := by omega
        unfold maxLen at hfcap
        clear hgr hfo hfn hfb hfcl HR HB
        go_wp2
        refine wp_onExit (k := 16) (rr_out9 w3 w9 w.heap.size k c k d fn lc f w4.heap.size fb0 0 fc W x y la p L (HZ.out.mono HB3.out) (HA.out.mono HB3.out) (HP.out.mono HB3.out) HOK.out HSL3.out HKE.out.symm HLT.out hK4 hf HG.out HLE.out.symm HB9.out hz34 HO9.out hfbl hne HF.out (by unfold maxLen; omega) _ _ _ _ _ _ _ _ _ _ _ _ _ _ _ _ _ _ _ _ _ _ _ _ _ _ _ _ _ _ _ _ _ _ _ _ _ _ _ _ _ _ _ _ _ _ _ _ _ _ _ _ _ _ _ _ _ _ _ _ _ _ _ _ _ _ _ _ _ _ _ _ _ _ _ _ _ _ _ _ _ _ _ _ _ _ _ _ _ _ _ _ _ _ _ _ _ _ _ _ _ _ _ _ _ _ _ _ _ _ _ _ _ _ _ _ _ _ _ _ _ _ _ _ _ _ _ _ _ _ _ _ _ _ _ _ _ _ _ _ _ _ _ _ _ _ _ _ _ _ _ _ _ _ _ _ _ _ _ _ _ _ _ _ _ _ _ _ _ _ _ _ _ _ _ _ _ _ _ _ _ _ _ _ _ _ _ _ _ _ _ _ _ _ _ _ _ _ _ _ _ _ _ _ _ _ _ _ _ _ _ _ _ _ _ _ _ _ _ _ _ _ _ _ _ _ _ _ _ _ _ _ _ _ ?_)
        intro v28 v29 v30 v210 v211 v212 v213 v214 v215 v216 v217 v218 v219 v220 v221 v222 v223 v224 v225 v226 v227 v228 v229 v230 v231 v232 v233 v234 v235 v236 v237 v238 wE hO hBE
        have HO := Lib.hid (RgSt.sl (hO.ext (G := fr (restF W p f)) fun s hs => HEND.out s hs) (by rw [restF_len]; exact HNA.out) (by unfold maxLen; omega))
        have HBE := Lib.hid (btr HB0.out (btr HB3.out hBE))
        clear hO hBE
        go_wp2
        go_ret2
        exact ⟨fun _ => ⟨_, _, rfl, HO.out, HBE.out⟩, fun h => absurd (HG.out.symm.trans h) (by decide)⟩
  · intro v14 v16 v80 v81 v82 v83 v84 v85 v86 v87 v88 v89 v90 v91 v92 v93 v94 v95 v96 v97 v98 v99 w3 hb3
    have HG := Lib.hid hbad
    have HB3 := Lib.hid (btr HB2.out hb3)
    clear hb3 hbad
    go_wp2
    go_ret2
    exact ⟨fun h => absurd (HG.out.symm.trans h) (by decide), fun _ => ⟨_, _, rfl, btr HB0.out HB3.out⟩⟩
end Go.Proofs.Ytcmakddnjmeklaa

/- Chapter 9, the reference: Yield. -/
namespace Go.Proofs.Ytcmakddnjmeklaa
open Go.RowKit
set_option linter.unusedSimpArgs false

/-- Where the gain of a plan's act lies. -/
theorem gain_cells {V : World} {x y : Option Addr} {n c m d s : Nat} {W : Wd} {p : List Int} (hA : A2Sl V x n c W.acts) (hp : Sl V y m d p) (hok : isPlanB W p = true) (hs : s < n) :
    ∃ b3 o3 b4 o4 b5 o5 m2 q2 t0, x = some ⟨b3, o3, none⟩ ∧ y = some ⟨b5, o5, none⟩ ∧ b3 < V.heap.size ∧ b4 < V.heap.size ∧ b5 < V.heap.size ∧ V.cell? ⟨b3, o3 + s, none⟩ = some (.slice (some ⟨b4, o4, none⟩) m2 q2) ∧ t0 < m2 ∧ (m2 ≤ q2 ∧ q2 ≤ maxLen) ∧ V.cell? ⟨b5, o5 + s, none⟩ = some (.int .i64 (t0 : Int)) ∧ V.cell? ⟨b4, o4 + t0 * 2, none⟩ = some (.int .i64 (gainP W p s)) := by
  obtain ⟨_, hpl, hpa, ⟨hn1, hn4, _⟩, _⟩ := plan_parts hok
  have hnA := hA.1
  have hmp := hp.len
  obtain rfl : m = n := by omega
  have hsA : s < W.acts.length := by omega
  obtain ⟨hp0, hp1⟩ := hpa s hsA
  obtain ⟨t0, ht0⟩ : ∃ t0 : Nat, nth p s = (t0 : Int) := ⟨(nth p s).toNat, by omega⟩
  have hX : pact W.acts p s = ac (acl W.acts s) t0 := by unfold pact; rw [ht0]; rfl
  obtain ⟨b3, o3, rfl, hb3, hc3⟩ := hA.at (by omega)
  obtain ⟨a2, m2, q2, e2, h2⟩ := hc3 s hs
  have hl2 := h2.1
  have htm : t0 < m2 := by omega
  obtain ⟨b4, o4, rfl, hb4, hc4⟩ := h2.at (by omega)
  obtain ⟨eg, _⟩ := hc4 t0 htm
  obtain ⟨b5, o5, rfl, hb5, hc5⟩ := hp.at (by omega)
  have e5 := hc5 s hs
  rw [ht0] at e5
  exact ⟨b3, o3, b4, o4, b5, o5, m2, q2, t0, rfl, rfl, hb3, hb4, hb5, e2, htm, h2.2.cap, e5, by unfold gainP; rw [hX]; exact eg⟩
theorem rtimes_G (w : World) (r D g : Int) (hr : 0 ≤ r ∧ r ≤ 20736) (hD : 0 < D ∧ D ≤ 82944) (hg : -9 ≤ g ∧ g ≤ 9) :
    Calls Try.prog 71 #[.agg #[.int .i64 (toFr ((r : Rat) / (D : Rat))).n, .int .i64 (toFr ((r : Rat) / (D : Rat))).d], .agg #[.int .i64 g, .int .i64 1]] w fun e w' => e = .returned (.agg #[.int .i64 (toFr (((r * g : Int) : Rat) / (D : Rat))).n, .int .i64 (toFr (((r * g : Int) : Rat) / (D : Rat))).d]) ∧ Below w.heap.size w w' := by
  have hb := ov_bd (q := (r : Rat) / (D : Rat)) (D := D) (Z := 20736) ⟨r, rfl, by omega, by omega⟩ hD.1
  have h := rtimes_raw w ((r : Rat) / (D : Rat)) (g : Rat) _ (rr_time r g D) (by omega) (by rw [Rat.den_intCast, Rat.num_intCast]; omega)
  rw [toFr_int] at h
  exact h
theorem rat_sum (a b D : Int) : ((a : Rat) / (D : Rat)) + ((b : Rat) / (D : Rat)) = ((a + b : Int) : Rat) / (D : Rat) := by
  rw [Rat.intCast_add]
  grind
theorem rplus_G (w : World) (a b D : Int) (ha : -746496 ≤ a ∧ a ≤ 746496) (hD : 0 < D ∧ D ≤ 82944) (hb : -746496 ≤ b ∧ b ≤ 746496) :
    Calls Try.prog 72 #[.agg #[.int .i64 (toFr ((a : Rat) / (D : Rat))).n, .int .i64 (toFr ((a : Rat) / (D : Rat))).d], .agg #[.int .i64 (toFr ((b : Rat) / (D : Rat))).n, .int .i64 (toFr ((b : Rat) / (D : Rat))).d]] w fun e w' => e = .returned (.agg #[.int .i64 (toFr (((a + b : Int) : Rat) / (D : Rat))).n, .int .i64 (toFr (((a + b : Int) : Rat) / (D : Rat))).d]) ∧ Below w.heap.size w w' := by
  have h1 := ov_bd (q := (a : Rat) / (D : Rat)) (D := D) (Z := 746496) ⟨a, rfl, by omega, by omega⟩ hD.1
  have h2 := ov_bd (q := (b : Rat) / (D : Rat)) (D := D) (Z := 746496) ⟨b, rfl, by omega, by omega⟩ hD.1
  exact rplus_raw w ((a : Rat) / (D : Rat)) ((b : Rat) / (D : Rat)) _ (rat_sum a b D) (by omega) (by omega)
theorem box_resR (w : World) (a b : Int) (x : Option Addr) (n c : Nat) : ((w.alloc (.cells #[.int .i64 a, .int .i64 b, .slice x n c] 25)).alloc (.cells #[.int .i64 0, .int .i64 0] 53)).heap[w.heap.size + 1]? = some (.cells #[.int .i64 0, .int .i64 0] 53 (0, 0)) := by
  have h := new_at (w.alloc (.cells #[.int .i64 a, .int .i64 b, .slice x n c] 25)) (.cells #[.int .i64 0, .int .i64 0] 53)
  simpa using h
def ySum (W : Wd) (p : List Int) (f k : Nat) : Int := sumN (fun s => nth (restN W p f) s * gainP W p s) k
def GivesRy (W : Wd) (p : List Int) (f : Nat) (w : World) (e : Ending) (w' : World) : Prop := (agOk W p f = true → GivesY (yF W p f) 0 w e w') ∧ (agOk W p f = false → GivesY ⟨0, 0⟩ 5 w e w')

set_option maxRecDepth 100000 in
set_option maxHeartbeats 4000000 in
theorem ryield_go (w : World) (x y : Option Addr) (n c m d f : Nat) (W : Wd) (p : List Int) (hA : A2Sl w x n c W.acts) (hp : Sl w y m d p) (hok : isPlanB W p = true) (hf : f < n) :
    Calls Try.prog 44 #[wv W.a W.b x n c, .slice y m d, .int .i64 f] w (GivesRy W p f w) := by
  have hb0 := bal (bal (Below.refl w.heap.size w) (.cells #[.int .i64 W.a, .int .i64 W.b, .slice x n c] 25)) (.cells #[.int .i64 0, .int .i64 0] 53)
  have HZ := Lib.hid (show BoxR ((w.alloc (.cells #[.int .i64 W.a, .int .i64 W.b, .slice x n c] 25)).alloc (.cells #[.int .i64 0, .int .i64 0] 53)) w.heap.size W.a W.b x n c from persist (boxR_new w W.a W.b x n c) (bal (Below.refl _ _) _))
  have HRB := Lib.hid (box_resR w W.a W.b x n c)
  have HA := Lib.hid (hA.mono hb0)
  have HP := Lib.hid (hp.mono hb0)
  have HB0 := Lib.hid hb0
  have HNA := Lib.hid hA.1
  have hgA : f < W.acts.length := by rw [HNA.out]; exact hf
  have HOK := Lib.hid hok
  obtain ⟨_, hpl, hpa, ⟨hn1, hn4, _⟩, _⟩ := plan_parts hok
  have hnA := hA.1
  have hmp := hp.len
  obtain rfl : m = n := by omega
  have hn1 : 1 ≤ m := by omega
  have hn4 : m ≤ 4 := by omega
  clear hA hp hb0 hok hpl hpa hnA hmp
  have hrl : w.heap.size + 1 < ((w.alloc (.cells #[.int .i64 W.a, .int .i64 W.b, .slice x m c] 25)).alloc (.cells #[.int .i64 0, .int .i64 0] 53)).heap.size := lt_of_block HRB.out
  go_enter Try.func44, Try.ntmps44
  go_wp2_with fail
  generalize (w.alloc (.cells #[.int .i64 W.a, .int .i64 W.b, .slice x m c] 25)).alloc (.cells #[.int .i64 0, .int .i64 0] 53) = V0 at *
  refine (rrest_go _ x y m c m d f W p HA.out HP.out HOK.out hf).mono ?_
  rintro e w2 ⟨hq1, hq2⟩
  cases hk : agOk W p f with
  | false =>
    obtain ⟨ra, rc, rfl, hb⟩ := hq2 hk
    have HK := Lib.hid hk
    have HB2 := Lib.hid hb
    have hr := persist HRB.out hb
    clear hq1 hq2 hb hk
    have r0 : w2.cell? ⟨w.heap.size + 1, 0, none⟩ = some (.int .i64 0) := by rw [cells_at hr]; rfl
    have r1 : w2.cell? ⟨w.heap.size + 1, 1, none⟩ = some (.int .i64 0) := by rw [cells_at hr]; rfl
    have r2 := free_at hr 0
    have r3 := free_at hr 1
    have r4 := lt_of_block hr
    have HR2 := Lib.hid (set_at (set_at hr 0 (.int .i64 0)) 1 (.int .i64 0))
    have HBE := Lib.hid ((((btr HB0.out HB2.out).setCell (p := ⟨w.heap.size + 1, 0, none⟩) (by show w.heap.size ≤ w.heap.size + 1; omega) (.int .i64 0))).setCell (p := ⟨w.heap.size + 1, 1, none⟩) (by show w.heap.size ≤ w.heap.size + 1; omega) (.int .i64 0))
    have s0 : ((w2.setCell ⟨w.heap.size + 1, 0, none⟩ (.int .i64 0)).setCell ⟨w.heap.size + 1, 1, none⟩ (.int .i64 0)).cell? ⟨w.heap.size + 1, 0, none⟩ = some (.int .i64 0) := by rw [cells_at HR2.out]; rfl
    have s1 : ((w2.setCell ⟨w.heap.size + 1, 0, none⟩ (.int .i64 0)).setCell ⟨w.heap.size + 1, 1, none⟩ (.int .i64 0)).cell? ⟨w.heap.size + 1, 1, none⟩ = some (.int .i64 0) := by rw [cells_at HR2.out]; rfl
    clear hr
    go_wp2
    exact bodyPost_ret (v := .tuple #[.agg #[.int .i64 0, .int .i64 0], .int .i64 5]) (by simp [results, Try.results44, go_sem, *]) rfl ⟨fun h => absurd (HK.out.symm.trans h) (by decide), fun _ => ⟨rfl, HBE.out⟩⟩
  | true =>
    obtain ⟨ra, rc, rfl, hS, hb⟩ := hq1 hk
    have HK := Lib.hid hk
    have HRBD := Lib.hid (fun s (hs : s < W.acts.length) => rest_bd HOK.out hk hgA hs)
    have HVA := Lib.hid (fun s (hs : s < W.acts.length) => vAc_at (vAc_pact HOK.out hs))
    have HYB := Lib.hid (yN_bd HOK.out hk hgA)
    have HD := Lib.hid (restD_bd HOK.out hk hgA)
    have HFA := Lib.hid (show ∀ s, s < W.acts.length → fr (restF W p f) s = toFr ((nth (restN W p f) s : Rat) / (restD W p f : Rat)) from fun s hs => by
      unfold restF
      rw [fracsL_at (by unfold restN; rw [nTo_len]; exact hs)])
    have HYE := Lib.hid (show yF W p f = toFr ((ySum W p f m : Rat) / (restD W p f : Rat)) by unfold yF yN ySum; rw [HNA.out])
    obtain ⟨D, hD⟩ : ∃ z, restD W p f = z := ⟨_, rfl⟩
    have HF := Lib.hid hS
    have hcap := hS.2.cap
    unfold maxLen at hcap
    have HB2 := Lib.hid hb
    rw [hD] at HD HFA HYE
    have hz2 := hb.size
    clear hq1 hq2 hb hS hk hD
    have HS0 := Lib.hid (show FrAt (w2.alloc (.cells #[.int .i64 0, .int .i64 1] 53)) w2.heap.size (toFr ((ySum W p f 0 : Rat) / (D : Rat))) by
      rw [show toFr ((ySum W p f 0 : Rat) / (D : Rat)) = ⟨0, 1⟩ by simp [ySum, sumN, toFr, Rat.div_def]]
      exact FrAt.new (new_at w2 _))
    have HB3 := Lib.hid (bal (Below.refl w2.heap.size w2) (.cells #[.int .i64 0, .int .i64 1] 53))
    go_wp2
    generalize w2.alloc (.cells #[.int .i64 0, .int .i64 1] 53) = V2 at *
    go_loopw [27] (fun t2 wr => ∃ k : Nat, k ≤ m ∧ t2 = .int .i64 k ∧ Hid (FrAt wr w2.heap.size (toFr ((ySum W p f k : Rat) / (D : Rat)))) ∧ Hid (Below w2.heap.size w2 wr)) (fun t2 _ => m - (intOf t2).toNat)
    case atStart => exact ⟨0, by omega, rfl, HS0, HB3⟩
    case round =>
      clear HS0 HB3
      obtain ⟨k, hk, rfl, HS, HB⟩ := hrel
      by_cases hlk : k < m
      · have hkA : k < W.acts.length := by rw [HNA.out]; exact hlk
        have HBV := Lib.hid (btr HB2.out HB.out)
        obtain ⟨b6, o6, rfl, hb6, hc6⟩ := (HF.out.mono HB.out).at (by omega)
        have hc6k := hc6 k hlk
        unfold FrEl at hc6k
        rw [HFA.out k hkA] at hc6k
        obtain ⟨p1, p2⟩ := hc6k
        obtain ⟨b3, o3, b4, o4, b5, o5, m2, q2, t0, rfl, rfl, hb3, hb4, hb5, e2, htm2, hcq, e5, eg⟩ := gain_cells HA.out HP.out HOK.out hlk
        unfold maxLen at hcq
        have hrb := HRBD.out k hkA
        have hva := HVA.out k hkA
        have hy1 := HYB.out k (by omega)
        have HSN := Lib.hid (show ySum W p f (k + 1) = ySum W p f k + nth (restN W p f) k * gainP W p k from rfl)
        have hgg : -9 ≤ gainP W p k ∧ gainP W p k ≤ 9 := ⟨hva.1, hva.2.1⟩
        have hmb := mul_le3 (A := 20736) (B := 9) (show -20736 ≤ nth (restN W p f) k by omega) hrb.2.1 hgg.1 hgg.2 (by omega)
        have HYK := Lib.hid (show -746496 ≤ ySum W p f k ∧ ySum W p f k ≤ 746496 by unfold ySum; omega)
        have HTI := Lib.hid (fun w' => rtimes_G w' (nth (restN W p f) k) D (gainP W p k) ⟨hrb.1, hrb.2.1⟩ HD.out hgg)
        have HPL := Lib.hid (fun w' => rplus_G w' (ySum W p f k) (nth (restN W p f) k * gainP W p k) D HYK.out HD.out (by omega))
        rw [← HSN.out] at HPL
        obtain ⟨gg, hgE⟩ : ∃ z, gainP W p k = z := ⟨_, rfl⟩
        rw [hgE] at HTI HPL eg
        obtain ⟨FS, hFS⟩ : ∃ z, toFr ((ySum W p f k : Rat) / (D : Rat)) = z := ⟨_, rfl⟩
        obtain ⟨FX, hFX⟩ : ∃ z, toFr ((nth (restN W p f) k : Rat) / (D : Rat)) = z := ⟨_, rfl⟩
        obtain ⟨FP, hFP⟩ : ∃ z, toFr (((nth (restN W p f) k * gg : Int) : Rat) / (D : Rat)) = z := ⟨_, rfl⟩
        obtain ⟨FN, hFN⟩ : ∃ z, toFr ((ySum W p f (k + 1) : Rat) / (D : Rat)) = z := ⟨_, rfl⟩
        have HFN := Lib.hid hFN
        rw [hFX, hFP] at HTI
        rw [hFS, hFP, hFN] at HPL
        rw [hFX] at p1 p2
        rw [hFS] at HS
        have hwz := HB.out.size
        have HBT := Lib.hid (bal HBV.out (.cells #[.int .i64 FX.n, .int .i64 FX.d] 53))
        have HCT := Lib.hid (bal HB.out (.cells #[.int .i64 FX.n, .int .i64 FX.d] 53))
        have HNW := Lib.hid (new_at wr (.cells #[.int .i64 FX.n, .int .i64 FX.d] 53))
        have HST := Lib.hid (HS.out.mono (bal (Below.refl _ _) (.cells #[.int .i64 FX.n, .int .i64 FX.d] 53)))
        have E2 := Lib.hid e2
        have E5 := Lib.hid e5
        have EG := Lib.hid eg
        clear hc6 hrb hva hy1 hgg hmb hgE hFS hFX hFP hFN e2 e5 eg
        go_wp2
        clear p1 p2
        obtain ⟨T, hT⟩ : ∃ T, wr.alloc (.cells #[.int .i64 FX.n, .int .i64 FX.d] 53) = T := ⟨_, rfl⟩
        rw [hT] at HBT HNW HST HCT ⊢
        clear hT
        have HSX := Lib.hid (fun (w' : World) (hb : Below T.heap.size T w') =>
          (show w'.cell? ⟨w2.heap.size, 0, none⟩ = some (.int .i64 FS.n) ∧ w'.cell? ⟨w2.heap.size, 1, none⟩ = some (.int .i64 FS.d) ∧ w'.cell? ⟨wr.heap.size, 0, none⟩ = some (.int .i64 FX.n) ∧ w'.cell? ⟨wr.heap.size, 1, none⟩ = some (.int .i64 FX.d) ∧ w'.cell? ⟨w.heap.size, 2, none⟩ = some (.slice (some ⟨b3, o3, none⟩) m c) ∧ w'.cell? ⟨b3, o3 + k, none⟩ = some (.slice (some ⟨b4, o4, none⟩) m2 q2) ∧ w'.cell? ⟨b5, o5 + k, none⟩ = some (.int .i64 (t0 : Int)) ∧ w'.cell? ⟨b4, o4 + t0 * 2, none⟩ = some (.int .i64 gg) from
            have hv := btr HBT.out hb
            have hn := persist HNW.out hb
            have hs := HST.out.mono hb
            ⟨hs.2.1, hs.2.2.1, by rw [cells_at hn]; rfl, by rw [cells_at hn]; rfl, (BoxR.cells (persist HZ.out hv)).2.2.2, ((bcell hv).1 _ _ hb3).trans E2.out, ((bcell hv).1 _ _ hb5).trans E5.out, ((bcell hv).1 _ _ hb4).trans EG.out⟩))
        have hC : Below T.heap.size T T.drew := (Below.refl _ _).drew
        refine wp_region_F (S := (fun w' => w'.cell? ⟨w2.heap.size, 0, none⟩ = some (.int .i64 FS.n) ∧ w'.cell? ⟨w2.heap.size, 1, none⟩ = some (.int .i64 FS.d) ∧ w'.cell? ⟨wr.heap.size, 0, none⟩ = some (.int .i64 FX.n) ∧ w'.cell? ⟨wr.heap.size, 1, none⟩ = some (.int .i64 FX.d) ∧ w'.cell? ⟨w.heap.size, 2, none⟩ = some (.slice (some ⟨b3, o3, none⟩) m c) ∧ w'.cell? ⟨b3, o3 + k, none⟩ = some (.slice (some ⟨b4, o4, none⟩) m2 q2) ∧ w'.cell? ⟨b5, o5 + k, none⟩ = some (.int .i64 (t0 : Int)) ∧ w'.cell? ⟨b4, o4 + t0 * 2, none⟩ = some (.int .i64 gg))) 17 (by kernel_rfl) (HSX.out _ hC) (fun hHeld => ?_)
        refine wpAnyF_take (i := 0) (oi := _) (v := ?_) rfl (by kernel_rfl) (by kernel_rfl) (by kernel_rfl) (by kernel_rfl) (fun _ _ _ h => h) (Or.inl ⟨by rfl, ?_⟩) (by assumption) ?_
        rotate_left
        · intro w hSw
          (try dsimp only at hSw)
          go_simp
          all_goals with_reducible rfl
        (try simp only [Act.put, List.setIfInBounds_toArray, List.set_cons_zero, List.set_cons_succ])
        refine wpAnyF_take (i := 1) (oi := _) (v := ?_) rfl (by kernel_rfl) (by kernel_rfl) (by kernel_rfl) (by kernel_rfl) (fun _ _ _ h => h) (Or.inl ⟨by rfl, ?_⟩) (by assumption) ?_
        rotate_left
        · intro w hSw
          (try dsimp only at hSw)
          go_simp
          all_goals with_reducible rfl
        (try simp only [Act.put, List.setIfInBounds_toArray, List.set_cons_zero, List.set_cons_succ])
        refine wpAnyF_take (i := 2) (oi := _) (v := ?_) rfl (by kernel_rfl) (by kernel_rfl) (by kernel_rfl) (by kernel_rfl) (fun _ _ _ h => h) (Or.inl ⟨by rfl, ?_⟩) (by assumption) ?_
        rotate_left
        · intro w hSw
          (try dsimp only at hSw)
          go_simp
          all_goals with_reducible rfl
        (try simp only [Act.put, List.setIfInBounds_toArray, List.set_cons_zero, List.set_cons_succ])
        refine wpAnyF_take (i := 3) (oi := _) (v := ?_) rfl (by kernel_rfl) (by kernel_rfl) (by kernel_rfl) (by kernel_rfl) (fun _ _ _ h => h) (Or.inl ⟨by rfl, ?_⟩) (by assumption) ?_
        rotate_left
        · intro w hSw
          (try dsimp only at hSw)
          go_simp
          all_goals with_reducible rfl
        (try simp only [Act.put, List.setIfInBounds_toArray, List.set_cons_zero, List.set_cons_succ])
        refine wpAnyF_take (i := 4) (oi := _) (v := ?_) rfl (by kernel_rfl) (by kernel_rfl) (by kernel_rfl) (by kernel_rfl) (fun _ _ _ h => h) (Or.inl ⟨by rfl, ?_⟩) (by assumption) ?_
        rotate_left
        · intro w hSw
          (try dsimp only at hSw)
          go_simp
          all_goals with_reducible rfl
        (try simp only [Act.put, List.setIfInBounds_toArray, List.set_cons_zero, List.set_cons_succ])
        refine wpAnyF_take (i := 5) (oi := _) (v := ?_) rfl (by kernel_rfl) (by kernel_rfl) (by kernel_rfl) (by kernel_rfl) (fun _ _ _ h => h) (Or.inl ⟨by rfl, ?_⟩) (by assumption) ?_
        rotate_left
        · intro w hSw
          (try dsimp only at hSw)
          go_simp
          all_goals with_reducible rfl
        (try simp only [Act.put, List.setIfInBounds_toArray, List.set_cons_zero, List.set_cons_succ])
        refine wpAnyF_take (i := 6) (oi := _) (v := ?_) rfl (by kernel_rfl) (by kernel_rfl) (by kernel_rfl) (by kernel_rfl) (fun _ _ _ h => h) (Or.inl ⟨by rfl, ?_⟩) (by assumption) ?_
        rotate_left
        · intro w hSw
          (try dsimp only at hSw)
          go_simp
          all_goals with_reducible rfl
        (try simp only [Act.put, List.setIfInBounds_toArray, List.set_cons_zero, List.set_cons_succ])
        refine wpAnyF_take (i := 7) (oi := _) (v := ?_) rfl (by kernel_rfl) (by kernel_rfl) (by kernel_rfl) (by kernel_rfl) (fun _ _ _ h => h) (Or.inl ⟨by rfl, ?_⟩) (by assumption) ?_
        rotate_left
        · intro w hSw
          (try dsimp only at hSw)
          go_simp
          all_goals with_reducible rfl
        (try simp only [Act.put, List.setIfInBounds_toArray, List.set_cons_zero, List.set_cons_succ])
        refine wpAnyF_take (i := 8) (oi := _) (v := ?_) rfl (by kernel_rfl) (by kernel_rfl) (by kernel_rfl) (by kernel_rfl) (fun _ _ _ h => h) (Or.inl ⟨by rfl, ?_⟩) (by assumption) ?_
        rotate_left
        · intro w hSw
          (try dsimp only at hSw)
          go_simp
          all_goals with_reducible rfl
        (try simp only [Act.put, List.setIfInBounds_toArray, List.set_cons_zero, List.set_cons_succ])
        refine wpAnyF_take (i := 9) (oi := _) (v := ?_) rfl (by kernel_rfl) (by kernel_rfl) (by kernel_rfl) (by kernel_rfl) (fun _ _ _ h => h) (Or.inl ⟨by rfl, ?_⟩) (by assumption) ?_
        rotate_left
        · intro w hSw
          (try dsimp only at hSw)
          go_simp
          all_goals with_reducible rfl
        (try simp only [Act.put, List.setIfInBounds_toArray, List.set_cons_zero, List.set_cons_succ])
        refine wpAnyF_take (i := 10) (oi := _) (v := ?_) rfl (by kernel_rfl) (by kernel_rfl) (by kernel_rfl) (by kernel_rfl) (fun _ _ _ h => h) (Or.inl ⟨by rfl, ?_⟩) (by assumption) ?_
        rotate_left
        · intro w hSw
          (try dsimp only at hSw)
          go_simp
          all_goals with_reducible rfl
        (try simp only [Act.put, List.setIfInBounds_toArray, List.set_cons_zero, List.set_cons_succ])
        refine wpAnyF_take (i := 11) (oi := _) (v := ?_) rfl (by kernel_rfl) (by kernel_rfl) (by kernel_rfl) (by kernel_rfl) (fun _ _ _ h => h) (Or.inl ⟨by rfl, ?_⟩) (by assumption) ?_
        rotate_left
        · intro w hSw
          (try dsimp only at hSw)
          go_simp
          all_goals with_reducible rfl
        (try simp only [Act.put, List.setIfInBounds_toArray, List.set_cons_zero, List.set_cons_succ])
        refine wpAnyF_take (i := 12) (oi := _) (v := ?_) rfl (by kernel_rfl) (by kernel_rfl) (by kernel_rfl) (by kernel_rfl) (fun _ _ _ h => h) (Or.inl ⟨by rfl, ?_⟩) (by assumption) ?_
        rotate_left
        · intro w hSw
          (try dsimp only at hSw)
          go_simp
          all_goals with_reducible rfl
        (try simp only [Act.put, List.setIfInBounds_toArray, List.set_cons_zero, List.set_cons_succ])
        refine wpAnyF_take (i := 13) (oi := _) (v := ?_) rfl (by kernel_rfl) (by kernel_rfl) (by kernel_rfl) (by kernel_rfl) (fun _ _ _ h => h) (Or.inl ⟨by rfl, ?_⟩) (by assumption) ?_
        rotate_left
        · intro w hSw
          (try dsimp only at hSw)
          go_simp
          all_goals with_reducible rfl
        (try simp only [Act.put, List.setIfInBounds_toArray, List.set_cons_zero, List.set_cons_succ])
        refine wpAnyF_take (i := 14) (oi := _) (v := ?_) rfl (by kernel_rfl) (by kernel_rfl) (by kernel_rfl) (by kernel_rfl) (fun _ _ _ h => h) (Or.inl ⟨by rfl, ?_⟩) (by assumption) ?_
        rotate_left
        · intro w hSw
          (try dsimp only at hSw)
          go_simp
          all_goals with_reducible rfl
        (try simp only [Act.put, List.setIfInBounds_toArray, List.set_cons_zero, List.set_cons_succ])
        refine wpAnyF_one (i := 15) (o := _) (by kernel_rfl) rfl (fun K hK => ?_)
        go_simp
        refine (HTI.out _).mono ?_
        rintro e w' ⟨rfl, hb⟩
        replace hC := btr hC hb
        clear hb
        refine hK.out _ _ (HSX.out _ hC) (fun hHeld => ?_)
        clear hK K
        (try simp only [Act.put, List.setIfInBounds_toArray, List.set_cons_zero, List.set_cons_succ])
        refine wpAnyF_one (i := 16) (o := _) (by kernel_rfl) rfl (fun K hK => ?_)
        go_simp
        refine (HPL.out _).mono ?_
        rintro e w' ⟨rfl, hb⟩
        replace hC := btr hC hb
        clear hb
        refine hK.out _ _ (HSX.out _ hC) (fun hHeld => ?_)
        clear hK K
        (try simp only [Act.put, List.setIfInBounds_toArray, List.set_cons_zero, List.set_cons_succ])
        refine wpAnyF_last (o := _) (by kernel_rfl) rfl (by kernel_rfl) (fun K hK => ?_)
        obtain ⟨u1z, u2z, u3z, u4z, u5z⟩ := HST.out.mono hC
        go_simp
        refine hK.out _ _ ?_
        clear hK K
        (try simp only [Act.put, List.setIfInBounds_toArray, List.set_cons_zero, List.set_cons_succ])
        have HS4 := Lib.hid ((HST.out.mono hC).store FN)
        have HC4 := Lib.hid (((btr HCT.out hC).setCell (p := ⟨w2.heap.size, 0, none⟩) (Nat.le_refl _) (.int .i64 FN.n)).setCell (p := ⟨w2.heap.size, 1, none⟩) (Nat.le_refl _) (.int .i64 FN.d))
        clear hC
        go_wp2
        go_roundw
        case rel => go_light; exact ⟨k + 1, by omega, by go_num, by rw [HFN.out]; exact HS4, HC4⟩
        case measure => simp [intOf]; omega
      · obtain rfl : k = m := by omega
        rw [← HYE.out] at HS
        obtain ⟨yf, hyf⟩ : ∃ yf, yF W p f = yf := ⟨_, rfl⟩
        have HYX := Lib.hid hyf
        rw [hyf] at HS
        obtain ⟨t1, t2, t3, _, _⟩ := HS.out
        have HBV := Lib.hid (btr HB2.out HB.out)
        have hr := persist HRB.out HBV.out
        clear hyf
        have r0 : wr.cell? ⟨w.heap.size + 1, 0, none⟩ = some (.int .i64 0) := by rw [cells_at hr]; rfl
        have r1 : wr.cell? ⟨w.heap.size + 1, 1, none⟩ = some (.int .i64 0) := by rw [cells_at hr]; rfl
        have r2 := free_at hr 0
        have r3 := free_at hr 1
        have r4 := lt_of_block hr
        have HR2 := Lib.hid (set_at (set_at hr 0 (.int .i64 yf.n)) 1 (.int .i64 yf.d))
        have HBE := Lib.hid ((((btr HB0.out HBV.out).setCell (p := ⟨w.heap.size + 1, 0, none⟩) (by show w.heap.size ≤ w.heap.size + 1; omega) (.int .i64 yf.n))).setCell (p := ⟨w.heap.size + 1, 1, none⟩) (by show w.heap.size ≤ w.heap.size + 1; omega) (.int .i64 yf.d))
        have s0 : ((wr.setCell ⟨w.heap.size + 1, 0, none⟩ (.int .i64 yf.n)).setCell ⟨w.heap.size + 1, 1, none⟩ (.int .i64 yf.d)).cell? ⟨w.heap.size + 1, 0, none⟩ = some (.int .i64 yf.n) := by rw [cells_at HR2.out]; rfl
        have s1 : ((wr.setCell ⟨w.heap.size + 1, 0, none⟩ (.int .i64 yf.n)).setCell ⟨w.heap.size + 1, 1, none⟩ (.int .i64 yf.d)).cell? ⟨w.heap.size + 1, 1, none⟩ = some (.int .i64 yf.d) := by rw [cells_at HR2.out]; rfl
        clear hr
        go_wp2
        exact bodyPost_ret (v := .tuple #[.agg #[.int .i64 yf.n, .int .i64 yf.d], .int .i64 0]) (by simp [results, Try.results44, go_sem, *]) rfl ⟨fun _ => ⟨by rw [HYX.out], HBE.out⟩, fun h => absurd (HK.out.symm.trans h) (by decide)⟩
end Go.Proofs.Ytcmakddnjmeklaa

/- Chapter 9: StemsRest's walk. -/
namespace Go.Proofs.Ytcmakddnjmeklaa
open Go.RowKit
set_option linter.unusedSimpArgs false

theorem rest_bad (w : World) (x y : Option Addr) (n c m d : Nat) (f : Int) (W : Wd) (p : List Int) (hA : A2Sl w x n c (trW W).acts) (hp : Sl w y m d (p.take 7)) (hs : stB W p f = false) :
    Calls Try.prog 40 #[wv W.a W.b x n c, .slice y m d, .int .i64 f] w (GivesNo 2 w) :=
  restU_no w x y n c m d f (trW W) (p.take 7) hA hp (by rw [stB_tr]; exact hs)
theorem yield_bad (w : World) (x y : Option Addr) (n c m d : Nat) (f : Int) (W : Wd) (p : List Int) (hA : A2Sl w x n c (trW W).acts) (hp : Sl w y m d (p.take 7)) (hs : stB W p f = false) :
    Calls Try.prog 41 #[wv W.a W.b x n c, .slice y m d, .int .i64 f] w fun e w' => e = .returned (.tuple #[.agg #[.int .i64 0, .int .i64 0], .int .i64 2]) ∧ Below w.heap.size w w' :=
  yieldU_no w x y n c m d f (trW W) (p.take 7) hA hp (by rw [stB_tr]; exact hs)
theorem reach_bad (w : World) (x y : Option Addr) (n c m d : Nat) (f : Int) (W : Wd) (p : List Int) (hA : A2Sl w x n c (trW W).acts) (hp : Sl w y m d (p.take 7)) (hs : stB W p f = false) :
    Calls Try.prog 42 #[wv W.a W.b x n c, .slice y m d, .int .i64 f] w (GivesNum 0 2 w) := by
  have h := reachU_go w x y n c m d f (trW W) (p.take 7) hA hp
  rw [stB_tr, hs] at h
  exact h
theorem reach_ok (w : World) (x y : Option Addr) (n c m d g : Nat) (W : Wd) (p : List Int) (hA : A2Sl w x n c W.acts) (hp : Sl w y m d p) (hok : isPlanB W p = true) (hg : g < W.acts.length) :
    Calls Try.prog 42 #[wv W.a W.b x n c, .slice y m d, .int .i64 g] w (GivesNum (rch W p g) 0 w) := by
  have h := reachU_go w x y n c m d (g : Int) W p hA hp
  rw [stB_of hok hg] at h
  exact h
theorem yield_not (w : World) (x y : Option Addr) (n c m d g : Nat) (W : Wd) (p : List Int) (hA : A2Sl w x n c W.acts) (hp : Sl w y m d p) (hok : isPlanB W p = true) (hg : g < n) (hag : agOk W p g = false) :
    Calls Try.prog 41 #[wv W.a W.b x n c, .slice y m d, .int .i64 g] w fun e w' => e = .returned (.tuple #[.agg #[.int .i64 0, .int .i64 0], .int .i64 5]) ∧ Below w.heap.size w w' :=
  yieldU_go w x y n c m d g W p hA hp hok hg ⟨0, 0⟩ 5 (fun h => by rw [hag] at h; cases h) (fun _ => ⟨rfl, rfl⟩)
theorem yield_ok (w : World) (x y : Option Addr) (n c m d g : Nat) (W : Wd) (p : List Int) (hA : A2Sl w x n c W.acts) (hp : Sl w y m d p) (hok : isPlanB W p = true) (hg : g < n) (hag : agOk W p g = true) {yn yd : Int} (h1 : (yF W p g).n = yn) (h2 : (yF W p g).d = yd) :
    Calls Try.prog 41 #[wv W.a W.b x n c, .slice y m d, .int .i64 g] w fun e w' => e = .returned (.tuple #[.agg #[.int .i64 yn, .int .i64 yd], .int .i64 0]) ∧ Below w.heap.size w w' := by
  subst h1 h2
  exact yieldU_go w x y n c m d g W p hA hp hok hg (yF W p g) 0 (fun _ => ⟨rfl, rfl⟩) (fun h => by rw [hag] at h; cases h)
def FrBx (w : World) (p : Nat) (a b : Int) : Prop := w.heap[p]? = some (.cells #[.int .i64 a, .int .i64 b] 53 (0, 0))
theorem FrBx.mono {w w' : World} {p : Nat} {a b : Int} (h : FrBx w p a b) (hb : Below w.heap.size w w') : FrBx w' p a b := persist h hb
theorem FrBx.cells {w : World} {p : Nat} {a b : Int} (h : FrBx w p a b) : p < w.heap.size ∧ w.cell? ⟨p, 0, none⟩ = some (.int .i64 a) ∧ w.cell? ⟨p, 1, none⟩ = some (.int .i64 b) := ⟨lt_of_block h, by rw [cells_at h]; rfl, by rw [cells_at h]; rfl⟩
theorem freq_nil (w : World) (a b : Option Addr) (c d : Nat) :
    Calls Try.prog 34 #[.slice a 0 c, .slice b 0 d] w fun e w' => e = .returned (.bool true) ∧ ∃ m, w' = w.drewN m := by
  go_enter Try.func34, Try.ntmps34
  go_wp2
  go_loop [13] (fun i => i = .int .i64 0) (fun _ => 0)
  case atStart => rfl
  case round =>
    subst hrel
    go_wp2
    go_ret
    exact ⟨rfl, 0, rfl⟩
theorem rrest_not (w : World) (x y : Option Addr) (n c m d g : Nat) (W : Wd) (p : List Int) (hA : A2Sl w x n c W.acts) (hp : Sl w y m d p) (hok : isPlanB W p = true) (hg : g < n) (hag : agOk W p g = false) :
    Calls Try.prog 43 #[wv W.a W.b x n c, .slice y m d, .int .i64 g] w (GivesNo 5 w) :=
  (rrest_go w x y n c m d g W p hA hp hok hg).mono fun _ _ h => h.2 hag
theorem rrest_ok (w : World) (x y : Option Addr) (n c m d g : Nat) (W : Wd) (p : List Int) (hA : A2Sl w x n c W.acts) (hp : Sl w y m d p) (hok : isPlanB W p = true) (hg : g < n) (hag : agOk W p g = true) :
    Calls Try.prog 43 #[wv W.a W.b x n c, .slice y m d, .int .i64 g] w (GivesFS (restF W p g) n w) :=
  (rrest_go w x y n c m d g W p hA hp hok hg).mono fun _ _ h => h.1 hag
theorem ryield_not (w : World) (x y : Option Addr) (n c m d g : Nat) (W : Wd) (p : List Int) (hA : A2Sl w x n c W.acts) (hp : Sl w y m d p) (hok : isPlanB W p = true) (hg : g < n) (hag : agOk W p g = false) :
    Calls Try.prog 44 #[wv W.a W.b x n c, .slice y m d, .int .i64 g] w fun e w' => e = .returned (.tuple #[.agg #[.int .i64 0, .int .i64 0], .int .i64 5]) ∧ Below w.heap.size w w' :=
  (ryield_go w x y n c m d g W p hA hp hok hg).mono fun _ _ h => h.2 hag
theorem ryield_ok (w : World) (x y : Option Addr) (n c m d g : Nat) (W : Wd) (p : List Int) (hA : A2Sl w x n c W.acts) (hp : Sl w y m d p) (hok : isPlanB W p = true) (hg : g < n) (hag : agOk W p g = true) {yn yd : Int} (h1 : (yF W p g).n = yn) (h2 : (yF W p g).d = yd) :
    Calls Try.prog 44 #[wv W.a W.b x n c, .slice y m d, .int .i64 g] w fun e w' => e = .returned (.tuple #[.agg #[.int .i64 yn, .int .i64 yd], .int .i64 0]) ∧ Below w.heap.size w w' := by
  subst h1 h2
  exact (ryield_go w x y n c m d g W p hA hp hok hg).mono fun _ _ h => h.1 hag
theorem stB_why {W : Wd} {p : List Int} {f : Int} (h : stB W p f = false) (hv : isPlanB W p = true) : f < 0 ∨ (W.acts.length : Int) ≤ f := by
  unfold stB at h
  rw [hv, Bool.true_and, Bool.and_eq_false_iff, decide_eq_false_iff_not, decide_eq_false_iff_not] at h
  omega
set_option maxRecDepth 100000 in
set_option maxHeartbeats 16000000 in
theorem lre_walk (w : World) (x : Option Addr) (n c : Nat) (W : Wd) (hA : A2Sl w x n c W.acts) (y : Option Addr) (m d : Nat) (p : List Int) (hp : Sl w y m d p) (_hpb : ∀ z ∈ p, -9223372036854775808 ≤ z ∧ z ≤ 9223372036854775807) (st : Int) (_hd1 : -9223372036854775808 ≤ st) (_hd2 : st ≤ 9223372036854775807) :
    Calls Try.prog 11 #[wv W.a W.b x n c, .slice y m d, .int .i64 st] w fun e w' => e = .returned (.bool true) ∧ Below w.heap.size w w' := by
  have hb0 := bal (Below.refl w.heap.size w) (.cells #[.int .i64 W.a, .int .i64 W.b, .slice x n c] 25)
  have HZ := Lib.hid (boxR_new w W.a W.b x n c)
  have HA := Lib.hid (hA.mono hb0)
  have HB0 := Lib.hid hb0
  have HB := Lib.hid (Bel.refl (w.alloc (.cells #[.int .i64 W.a, .int .i64 W.b, .slice x n c] 25)))
  have HNA := Lib.hid hA.1
  have hcn := hA.2.cap
  have HP := Lib.hid (hp.mono hb0)
  have hcm := hp.cap
  unfold maxLen at hcn hcm
  clear hA hp hb0
  cases hs : stB W p st with
  | false =>
    have HS0 := Lib.hid hs
    cases hv : isPlanB W p with
    | false =>
      have HV := Lib.hid hv
      clear hs hv
      go_enter Try.func11, Try.ntmps11
      go_wp2_with fail
      refine (of_any _ x n c W HA.out).mono ?_
      rintro e w1 ⟨x2, n2, c2, rfl, hs, hb⟩
      replace HZ := Lib.hid (HZ.out.mono hb)
      replace HA := Lib.hid (HA.out.mono hb)
      replace HB := Lib.hid (HB.out.mono hb)
      replace HP := Lib.hid (HP.out.mono hb)
      have HS := Lib.hid hs
      clear hb
      obtain ⟨z0, z1, z2, z3⟩ := HZ.out.cells
      go_wp2_with fail
      refine (list_go _ y m d p HP.out).mono ?_
      rintro e w2 ⟨ua, un, uc, rfl, ho, hb⟩
      replace HZ := Lib.hid (HZ.out.mono hb)
      replace HA := Lib.hid (HA.out.mono hb)
      replace HB := Lib.hid (HB.out.mono hb)
      replace HP := Lib.hid (HP.out.mono hb)
      replace HS := Lib.hid (HS.out.mono hb)
      have HU := Lib.hid (own_sl ho)
      clear ho
      clear z0 z1 z2 z3
      clear hb
      obtain ⟨z0, z1, z2, z3⟩ := HZ.out.cells
      go_wp2_with fail
      refine (rest_bad _ x2 ua n2 c2 un uc st W p HS.out HU.out HS0.out).mono ?_
      rintro e w3 ⟨a3, d3, rfl, hb⟩
      replace HZ := Lib.hid (HZ.out.mono hb)
      replace HA := Lib.hid (HA.out.mono hb)
      replace HB := Lib.hid (HB.out.mono hb)
      replace HP := Lib.hid (HP.out.mono hb)
      replace HS := Lib.hid (HS.out.mono hb)
      replace HU := Lib.hid (HU.out.mono hb)
      clear z0 z1 z2 z3
      clear hb
      obtain ⟨z0, z1, z2, z3⟩ := HZ.out.cells
      go_wp2_with fail
      refine (of_any _ x n c W HA.out).mono ?_
      rintro e w4 ⟨x5, n5, c5, rfl, hs, hb⟩
      replace HZ := Lib.hid (HZ.out.mono hb)
      replace HA := Lib.hid (HA.out.mono hb)
      replace HB := Lib.hid (HB.out.mono hb)
      replace HP := Lib.hid (HP.out.mono hb)
      replace HS := Lib.hid (HS.out.mono hb)
      replace HU := Lib.hid (HU.out.mono hb)
      have HS5 := Lib.hid hs
      clear z0 z1 z2 z3
      clear hb
      obtain ⟨z0, z1, z2, z3⟩ := HZ.out.cells
      go_wp2_with fail
      refine (list_go _ y m d p HP.out).mono ?_
      rintro e w5 ⟨ub, um, ud, rfl, ho, hb⟩
      replace HZ := Lib.hid (HZ.out.mono hb)
      replace HA := Lib.hid (HA.out.mono hb)
      replace HB := Lib.hid (HB.out.mono hb)
      replace HP := Lib.hid (HP.out.mono hb)
      replace HS := Lib.hid (HS.out.mono hb)
      replace HU := Lib.hid (HU.out.mono hb)
      replace HS5 := Lib.hid (HS5.out.mono hb)
      have HU5 := Lib.hid (own_sl ho)
      clear ho
      clear z0 z1 z2 z3
      clear hb
      obtain ⟨z0, z1, z2, z3⟩ := HZ.out.cells
      go_wp2_with fail
      refine (yield_bad _ x5 ub n5 c5 um ud st W p HS5.out HU5.out HS0.out).mono ?_
      rintro e w6 ⟨rfl, hb⟩
      replace HZ := Lib.hid (HZ.out.mono hb)
      replace HA := Lib.hid (HA.out.mono hb)
      replace HB := Lib.hid (HB.out.mono hb)
      replace HP := Lib.hid (HP.out.mono hb)
      replace HS := Lib.hid (HS.out.mono hb)
      replace HU := Lib.hid (HU.out.mono hb)
      replace HS5 := Lib.hid (HS5.out.mono hb)
      replace HU5 := Lib.hid (HU5.out.mono hb)
      replace HZ := Lib.hid (HZ.out.mono (bal (Below.refl _ _) (.cells #[.int .i64 0, .int .i64 0] 53)))
      replace HA := Lib.hid (HA.out.mono (bal (Below.refl _ _) (.cells #[.int .i64 0, .int .i64 0] 53)))
      replace HB := Lib.hid (HB.out.mono (bal (Below.refl _ _) (.cells #[.int .i64 0, .int .i64 0] 53)))
      replace HP := Lib.hid (HP.out.mono (bal (Below.refl _ _) (.cells #[.int .i64 0, .int .i64 0] 53)))
      replace HS := Lib.hid (HS.out.mono (bal (Below.refl _ _) (.cells #[.int .i64 0, .int .i64 0] 53)))
      replace HU := Lib.hid (HU.out.mono (bal (Below.refl _ _) (.cells #[.int .i64 0, .int .i64 0] 53)))
      replace HS5 := Lib.hid (HS5.out.mono (bal (Below.refl _ _) (.cells #[.int .i64 0, .int .i64 0] 53)))
      replace HU5 := Lib.hid (HU5.out.mono (bal (Below.refl _ _) (.cells #[.int .i64 0, .int .i64 0] 53)))
      have HYB := Lib.hid (show FrBx (w6.alloc (.cells #[.int .i64 0, .int .i64 0] 53)) w6.heap.size 0 0 from new_at w6 (.cells #[.int .i64 0, .int .i64 0] 53))
      clear z0 z1 z2 z3
      clear hb
      obtain ⟨z0, z1, z2, z3⟩ := HZ.out.cells
      go_wp2_with fail
      refine (of_any _ x n c W HA.out).mono ?_
      rintro e w7 ⟨x6, n6, c6, rfl, hs, hb⟩
      replace HZ := Lib.hid (HZ.out.mono hb)
      replace HA := Lib.hid (HA.out.mono hb)
      replace HB := Lib.hid (HB.out.mono hb)
      replace HP := Lib.hid (HP.out.mono hb)
      replace HYB := Lib.hid (HYB.out.mono hb)
      have HS6 := Lib.hid hs
      clear z0 z1 z2 z3
      clear hb
      obtain ⟨z0, z1, z2, z3⟩ := HZ.out.cells
      go_wp2_with fail
      refine (list_go _ y m d p HP.out).mono ?_
      rintro e w8 ⟨uv, uw, ux, rfl, ho, hb⟩
      replace HZ := Lib.hid (HZ.out.mono hb)
      replace HA := Lib.hid (HA.out.mono hb)
      replace HB := Lib.hid (HB.out.mono hb)
      replace HP := Lib.hid (HP.out.mono hb)
      replace HYB := Lib.hid (HYB.out.mono hb)
      replace HS6 := Lib.hid (HS6.out.mono hb)
      have HU6 := Lib.hid (own_sl ho)
      clear ho
      clear z0 z1 z2 z3
      clear hb
      obtain ⟨z0, z1, z2, z3⟩ := HZ.out.cells
      go_wp2_with fail
      refine (reach_bad _ x6 uv n6 c6 uw ux st W p HS6.out HU6.out HS0.out).mono ?_
      rintro e w9 ⟨rfl, hb⟩
      replace HZ := Lib.hid (HZ.out.mono hb)
      replace HA := Lib.hid (HA.out.mono hb)
      replace HB := Lib.hid (HB.out.mono hb)
      replace HP := Lib.hid (HP.out.mono hb)
      replace HYB := Lib.hid (HYB.out.mono hb)
      replace HS6 := Lib.hid (HS6.out.mono hb)
      replace HU6 := Lib.hid (HU6.out.mono hb)
      clear z0 z1 z2 z3
      clear hb
      obtain ⟨z0, z1, z2, z3⟩ := HZ.out.cells
      go_wp2_with fail
      refine (fine_go _ x y n c m d W p HA.out HP.out).mono ?_
      rintro e w10 ⟨rfl, hb⟩
      replace HZ := Lib.hid (HZ.out.mono hb)
      replace HA := Lib.hid (HA.out.mono hb)
      replace HB := Lib.hid (HB.out.mono hb)
      replace HP := Lib.hid (HP.out.mono hb)
      replace HYB := Lib.hid (HYB.out.mono hb)
      rw [HV.out]
      obtain ⟨y0, y1, y2⟩ := HYB.out.cells
      clear z0 z1 z2 z3
      clear hb
      obtain ⟨z0, z1, z2, z3⟩ := HZ.out.cells
      go_wp2_with fail
      refine (awake_go _).mono ?_
      rintro e w11 ⟨rfl, hb⟩
      replace HZ := Lib.hid (HZ.out.mono hb)
      replace HA := Lib.hid (HA.out.mono hb)
      replace HB := Lib.hid (HB.out.mono hb)
      replace HP := Lib.hid (HP.out.mono hb)
      replace HYB := Lib.hid (HYB.out.mono hb)
      clear hb
      go_wp2
      go_ret
      exact ⟨rfl, btr HB0.out HB.out⟩
    | true =>
      have HV := Lib.hid hv
      have hw := stB_why hs hv
      rw [HNA.out] at hw
      clear hs hv
      by_cases hlt : st < 0
      · have d1 : decide (st < 0) = true := by simpa using hlt
        clear hw hlt
        go_enter Try.func11, Try.ntmps11
        go_wp2_with fail
        refine (of_any _ x n c W HA.out).mono ?_
        rintro e w1 ⟨x2, n2, c2, rfl, hs, hb⟩
        replace HZ := Lib.hid (HZ.out.mono hb)
        replace HA := Lib.hid (HA.out.mono hb)
        replace HB := Lib.hid (HB.out.mono hb)
        replace HP := Lib.hid (HP.out.mono hb)
        have HS := Lib.hid hs
        clear hb
        obtain ⟨z0, z1, z2, z3⟩ := HZ.out.cells
        go_wp2_with fail
        refine (list_go _ y m d p HP.out).mono ?_
        rintro e w2 ⟨ua, un, uc, rfl, ho, hb⟩
        replace HZ := Lib.hid (HZ.out.mono hb)
        replace HA := Lib.hid (HA.out.mono hb)
        replace HB := Lib.hid (HB.out.mono hb)
        replace HP := Lib.hid (HP.out.mono hb)
        replace HS := Lib.hid (HS.out.mono hb)
        have HU := Lib.hid (own_sl ho)
        clear ho
        clear z0 z1 z2 z3
        clear hb
        obtain ⟨z0, z1, z2, z3⟩ := HZ.out.cells
        go_wp2_with fail
        refine (rest_bad _ x2 ua n2 c2 un uc st W p HS.out HU.out HS0.out).mono ?_
        rintro e w3 ⟨a3, d3, rfl, hb⟩
        replace HZ := Lib.hid (HZ.out.mono hb)
        replace HA := Lib.hid (HA.out.mono hb)
        replace HB := Lib.hid (HB.out.mono hb)
        replace HP := Lib.hid (HP.out.mono hb)
        replace HS := Lib.hid (HS.out.mono hb)
        replace HU := Lib.hid (HU.out.mono hb)
        clear z0 z1 z2 z3
        clear hb
        obtain ⟨z0, z1, z2, z3⟩ := HZ.out.cells
        go_wp2_with fail
        refine (of_any _ x n c W HA.out).mono ?_
        rintro e w4 ⟨x5, n5, c5, rfl, hs, hb⟩
        replace HZ := Lib.hid (HZ.out.mono hb)
        replace HA := Lib.hid (HA.out.mono hb)
        replace HB := Lib.hid (HB.out.mono hb)
        replace HP := Lib.hid (HP.out.mono hb)
        replace HS := Lib.hid (HS.out.mono hb)
        replace HU := Lib.hid (HU.out.mono hb)
        have HS5 := Lib.hid hs
        clear z0 z1 z2 z3
        clear hb
        obtain ⟨z0, z1, z2, z3⟩ := HZ.out.cells
        go_wp2_with fail
        refine (list_go _ y m d p HP.out).mono ?_
        rintro e w5 ⟨ub, um, ud, rfl, ho, hb⟩
        replace HZ := Lib.hid (HZ.out.mono hb)
        replace HA := Lib.hid (HA.out.mono hb)
        replace HB := Lib.hid (HB.out.mono hb)
        replace HP := Lib.hid (HP.out.mono hb)
        replace HS := Lib.hid (HS.out.mono hb)
        replace HU := Lib.hid (HU.out.mono hb)
        replace HS5 := Lib.hid (HS5.out.mono hb)
        have HU5 := Lib.hid (own_sl ho)
        clear ho
        clear z0 z1 z2 z3
        clear hb
        obtain ⟨z0, z1, z2, z3⟩ := HZ.out.cells
        go_wp2_with fail
        refine (yield_bad _ x5 ub n5 c5 um ud st W p HS5.out HU5.out HS0.out).mono ?_
        rintro e w6 ⟨rfl, hb⟩
        replace HZ := Lib.hid (HZ.out.mono hb)
        replace HA := Lib.hid (HA.out.mono hb)
        replace HB := Lib.hid (HB.out.mono hb)
        replace HP := Lib.hid (HP.out.mono hb)
        replace HS := Lib.hid (HS.out.mono hb)
        replace HU := Lib.hid (HU.out.mono hb)
        replace HS5 := Lib.hid (HS5.out.mono hb)
        replace HU5 := Lib.hid (HU5.out.mono hb)
        replace HZ := Lib.hid (HZ.out.mono (bal (Below.refl _ _) (.cells #[.int .i64 0, .int .i64 0] 53)))
        replace HA := Lib.hid (HA.out.mono (bal (Below.refl _ _) (.cells #[.int .i64 0, .int .i64 0] 53)))
        replace HB := Lib.hid (HB.out.mono (bal (Below.refl _ _) (.cells #[.int .i64 0, .int .i64 0] 53)))
        replace HP := Lib.hid (HP.out.mono (bal (Below.refl _ _) (.cells #[.int .i64 0, .int .i64 0] 53)))
        replace HS := Lib.hid (HS.out.mono (bal (Below.refl _ _) (.cells #[.int .i64 0, .int .i64 0] 53)))
        replace HU := Lib.hid (HU.out.mono (bal (Below.refl _ _) (.cells #[.int .i64 0, .int .i64 0] 53)))
        replace HS5 := Lib.hid (HS5.out.mono (bal (Below.refl _ _) (.cells #[.int .i64 0, .int .i64 0] 53)))
        replace HU5 := Lib.hid (HU5.out.mono (bal (Below.refl _ _) (.cells #[.int .i64 0, .int .i64 0] 53)))
        have HYB := Lib.hid (show FrBx (w6.alloc (.cells #[.int .i64 0, .int .i64 0] 53)) w6.heap.size 0 0 from new_at w6 (.cells #[.int .i64 0, .int .i64 0] 53))
        clear z0 z1 z2 z3
        clear hb
        obtain ⟨z0, z1, z2, z3⟩ := HZ.out.cells
        go_wp2_with fail
        refine (of_any _ x n c W HA.out).mono ?_
        rintro e w7 ⟨x6, n6, c6, rfl, hs, hb⟩
        replace HZ := Lib.hid (HZ.out.mono hb)
        replace HA := Lib.hid (HA.out.mono hb)
        replace HB := Lib.hid (HB.out.mono hb)
        replace HP := Lib.hid (HP.out.mono hb)
        replace HYB := Lib.hid (HYB.out.mono hb)
        have HS6 := Lib.hid hs
        clear z0 z1 z2 z3
        clear hb
        obtain ⟨z0, z1, z2, z3⟩ := HZ.out.cells
        go_wp2_with fail
        refine (list_go _ y m d p HP.out).mono ?_
        rintro e w8 ⟨uv, uw, ux, rfl, ho, hb⟩
        replace HZ := Lib.hid (HZ.out.mono hb)
        replace HA := Lib.hid (HA.out.mono hb)
        replace HB := Lib.hid (HB.out.mono hb)
        replace HP := Lib.hid (HP.out.mono hb)
        replace HYB := Lib.hid (HYB.out.mono hb)
        replace HS6 := Lib.hid (HS6.out.mono hb)
        have HU6 := Lib.hid (own_sl ho)
        clear ho
        clear z0 z1 z2 z3
        clear hb
        obtain ⟨z0, z1, z2, z3⟩ := HZ.out.cells
        go_wp2_with fail
        refine (reach_bad _ x6 uv n6 c6 uw ux st W p HS6.out HU6.out HS0.out).mono ?_
        rintro e w9 ⟨rfl, hb⟩
        replace HZ := Lib.hid (HZ.out.mono hb)
        replace HA := Lib.hid (HA.out.mono hb)
        replace HB := Lib.hid (HB.out.mono hb)
        replace HP := Lib.hid (HP.out.mono hb)
        replace HYB := Lib.hid (HYB.out.mono hb)
        replace HS6 := Lib.hid (HS6.out.mono hb)
        replace HU6 := Lib.hid (HU6.out.mono hb)
        clear z0 z1 z2 z3
        clear hb
        obtain ⟨z0, z1, z2, z3⟩ := HZ.out.cells
        go_wp2_with fail
        refine (fine_go _ x y n c m d W p HA.out HP.out).mono ?_
        rintro e w10 ⟨rfl, hb⟩
        replace HZ := Lib.hid (HZ.out.mono hb)
        replace HA := Lib.hid (HA.out.mono hb)
        replace HB := Lib.hid (HB.out.mono hb)
        replace HP := Lib.hid (HP.out.mono hb)
        replace HYB := Lib.hid (HYB.out.mono hb)
        rw [HV.out]
        obtain ⟨y0, y1, y2⟩ := HYB.out.cells
        clear z0 z1 z2 z3
        clear hb
        obtain ⟨z0, z1, z2, z3⟩ := HZ.out.cells
        go_wp2_with fail
        refine (awake_go _).mono ?_
        rintro e w11 ⟨rfl, hb⟩
        replace HZ := Lib.hid (HZ.out.mono hb)
        replace HA := Lib.hid (HA.out.mono hb)
        replace HB := Lib.hid (HB.out.mono hb)
        replace HP := Lib.hid (HP.out.mono hb)
        replace HYB := Lib.hid (HYB.out.mono hb)
        clear hb
        go_wp2
        go_ret
        exact ⟨rfl, btr HB0.out HB.out⟩
      · have d1 : decide (st < 0) = false := by simpa using hlt
        have d2 : decide ((n : Int) ≤ st) = true := by simp; omega
        clear hw hlt
        go_enter Try.func11, Try.ntmps11
        go_wp2_with fail
        refine (of_any _ x n c W HA.out).mono ?_
        rintro e w1 ⟨x2, n2, c2, rfl, hs, hb⟩
        replace HZ := Lib.hid (HZ.out.mono hb)
        replace HA := Lib.hid (HA.out.mono hb)
        replace HB := Lib.hid (HB.out.mono hb)
        replace HP := Lib.hid (HP.out.mono hb)
        have HS := Lib.hid hs
        clear hb
        obtain ⟨z0, z1, z2, z3⟩ := HZ.out.cells
        go_wp2_with fail
        refine (list_go _ y m d p HP.out).mono ?_
        rintro e w2 ⟨ua, un, uc, rfl, ho, hb⟩
        replace HZ := Lib.hid (HZ.out.mono hb)
        replace HA := Lib.hid (HA.out.mono hb)
        replace HB := Lib.hid (HB.out.mono hb)
        replace HP := Lib.hid (HP.out.mono hb)
        replace HS := Lib.hid (HS.out.mono hb)
        have HU := Lib.hid (own_sl ho)
        clear ho
        clear z0 z1 z2 z3
        clear hb
        obtain ⟨z0, z1, z2, z3⟩ := HZ.out.cells
        go_wp2_with fail
        refine (rest_bad _ x2 ua n2 c2 un uc st W p HS.out HU.out HS0.out).mono ?_
        rintro e w3 ⟨a3, d3, rfl, hb⟩
        replace HZ := Lib.hid (HZ.out.mono hb)
        replace HA := Lib.hid (HA.out.mono hb)
        replace HB := Lib.hid (HB.out.mono hb)
        replace HP := Lib.hid (HP.out.mono hb)
        replace HS := Lib.hid (HS.out.mono hb)
        replace HU := Lib.hid (HU.out.mono hb)
        clear z0 z1 z2 z3
        clear hb
        obtain ⟨z0, z1, z2, z3⟩ := HZ.out.cells
        go_wp2_with fail
        refine (of_any _ x n c W HA.out).mono ?_
        rintro e w4 ⟨x5, n5, c5, rfl, hs, hb⟩
        replace HZ := Lib.hid (HZ.out.mono hb)
        replace HA := Lib.hid (HA.out.mono hb)
        replace HB := Lib.hid (HB.out.mono hb)
        replace HP := Lib.hid (HP.out.mono hb)
        replace HS := Lib.hid (HS.out.mono hb)
        replace HU := Lib.hid (HU.out.mono hb)
        have HS5 := Lib.hid hs
        clear z0 z1 z2 z3
        clear hb
        obtain ⟨z0, z1, z2, z3⟩ := HZ.out.cells
        go_wp2_with fail
        refine (list_go _ y m d p HP.out).mono ?_
        rintro e w5 ⟨ub, um, ud, rfl, ho, hb⟩
        replace HZ := Lib.hid (HZ.out.mono hb)
        replace HA := Lib.hid (HA.out.mono hb)
        replace HB := Lib.hid (HB.out.mono hb)
        replace HP := Lib.hid (HP.out.mono hb)
        replace HS := Lib.hid (HS.out.mono hb)
        replace HU := Lib.hid (HU.out.mono hb)
        replace HS5 := Lib.hid (HS5.out.mono hb)
        have HU5 := Lib.hid (own_sl ho)
        clear ho
        clear z0 z1 z2 z3
        clear hb
        obtain ⟨z0, z1, z2, z3⟩ := HZ.out.cells
        go_wp2_with fail
        refine (yield_bad _ x5 ub n5 c5 um ud st W p HS5.out HU5.out HS0.out).mono ?_
        rintro e w6 ⟨rfl, hb⟩
        replace HZ := Lib.hid (HZ.out.mono hb)
        replace HA := Lib.hid (HA.out.mono hb)
        replace HB := Lib.hid (HB.out.mono hb)
        replace HP := Lib.hid (HP.out.mono hb)
        replace HS := Lib.hid (HS.out.mono hb)
        replace HU := Lib.hid (HU.out.mono hb)
        replace HS5 := Lib.hid (HS5.out.mono hb)
        replace HU5 := Lib.hid (HU5.out.mono hb)
        replace HZ := Lib.hid (HZ.out.mono (bal (Below.refl _ _) (.cells #[.int .i64 0, .int .i64 0] 53)))
        replace HA := Lib.hid (HA.out.mono (bal (Below.refl _ _) (.cells #[.int .i64 0, .int .i64 0] 53)))
        replace HB := Lib.hid (HB.out.mono (bal (Below.refl _ _) (.cells #[.int .i64 0, .int .i64 0] 53)))
        replace HP := Lib.hid (HP.out.mono (bal (Below.refl _ _) (.cells #[.int .i64 0, .int .i64 0] 53)))
        replace HS := Lib.hid (HS.out.mono (bal (Below.refl _ _) (.cells #[.int .i64 0, .int .i64 0] 53)))
        replace HU := Lib.hid (HU.out.mono (bal (Below.refl _ _) (.cells #[.int .i64 0, .int .i64 0] 53)))
        replace HS5 := Lib.hid (HS5.out.mono (bal (Below.refl _ _) (.cells #[.int .i64 0, .int .i64 0] 53)))
        replace HU5 := Lib.hid (HU5.out.mono (bal (Below.refl _ _) (.cells #[.int .i64 0, .int .i64 0] 53)))
        have HYB := Lib.hid (show FrBx (w6.alloc (.cells #[.int .i64 0, .int .i64 0] 53)) w6.heap.size 0 0 from new_at w6 (.cells #[.int .i64 0, .int .i64 0] 53))
        clear z0 z1 z2 z3
        clear hb
        obtain ⟨z0, z1, z2, z3⟩ := HZ.out.cells
        go_wp2_with fail
        refine (of_any _ x n c W HA.out).mono ?_
        rintro e w7 ⟨x6, n6, c6, rfl, hs, hb⟩
        replace HZ := Lib.hid (HZ.out.mono hb)
        replace HA := Lib.hid (HA.out.mono hb)
        replace HB := Lib.hid (HB.out.mono hb)
        replace HP := Lib.hid (HP.out.mono hb)
        replace HYB := Lib.hid (HYB.out.mono hb)
        have HS6 := Lib.hid hs
        clear z0 z1 z2 z3
        clear hb
        obtain ⟨z0, z1, z2, z3⟩ := HZ.out.cells
        go_wp2_with fail
        refine (list_go _ y m d p HP.out).mono ?_
        rintro e w8 ⟨uv, uw, ux, rfl, ho, hb⟩
        replace HZ := Lib.hid (HZ.out.mono hb)
        replace HA := Lib.hid (HA.out.mono hb)
        replace HB := Lib.hid (HB.out.mono hb)
        replace HP := Lib.hid (HP.out.mono hb)
        replace HYB := Lib.hid (HYB.out.mono hb)
        replace HS6 := Lib.hid (HS6.out.mono hb)
        have HU6 := Lib.hid (own_sl ho)
        clear ho
        clear z0 z1 z2 z3
        clear hb
        obtain ⟨z0, z1, z2, z3⟩ := HZ.out.cells
        go_wp2_with fail
        refine (reach_bad _ x6 uv n6 c6 uw ux st W p HS6.out HU6.out HS0.out).mono ?_
        rintro e w9 ⟨rfl, hb⟩
        replace HZ := Lib.hid (HZ.out.mono hb)
        replace HA := Lib.hid (HA.out.mono hb)
        replace HB := Lib.hid (HB.out.mono hb)
        replace HP := Lib.hid (HP.out.mono hb)
        replace HYB := Lib.hid (HYB.out.mono hb)
        replace HS6 := Lib.hid (HS6.out.mono hb)
        replace HU6 := Lib.hid (HU6.out.mono hb)
        clear z0 z1 z2 z3
        clear hb
        obtain ⟨z0, z1, z2, z3⟩ := HZ.out.cells
        go_wp2_with fail
        refine (fine_go _ x y n c m d W p HA.out HP.out).mono ?_
        rintro e w10 ⟨rfl, hb⟩
        replace HZ := Lib.hid (HZ.out.mono hb)
        replace HA := Lib.hid (HA.out.mono hb)
        replace HB := Lib.hid (HB.out.mono hb)
        replace HP := Lib.hid (HP.out.mono hb)
        replace HYB := Lib.hid (HYB.out.mono hb)
        rw [HV.out]
        obtain ⟨y0, y1, y2⟩ := HYB.out.cells
        clear z0 z1 z2 z3
        clear hb
        obtain ⟨z0, z1, z2, z3⟩ := HZ.out.cells
        go_wp2_with fail
        refine (awake_go _).mono ?_
        rintro e w11 ⟨rfl, hb⟩
        replace HZ := Lib.hid (HZ.out.mono hb)
        replace HA := Lib.hid (HA.out.mono hb)
        replace HB := Lib.hid (HB.out.mono hb)
        replace HP := Lib.hid (HP.out.mono hb)
        replace HYB := Lib.hid (HYB.out.mono hb)
        clear hb
        go_wp2
        go_ret
        exact ⟨rfl, btr HB0.out HB.out⟩
  | true =>
    obtain ⟨hv, g, rfl, hg⟩ := stB_parts hs
    obtain ⟨_, hpl, hpa, ⟨hn1, hn4, ha1, hab, hbb4⟩, _⟩ := plan_parts hv
    have HGA := Lib.hid hg
    rw [HNA.out] at hn1 hn4 hpl hpa hg
    have hmn : m = n := by have := HP.out.len; omega
    subst hmn
    have HV := Lib.hid hv
    have HVW := Lib.hid (show vWd W = true from (plan_parts hv).1)
    have d1 : decide ((g : Int) < 0) = false := by rw [decide_eq_false_iff_not]; omega
    have d2 : decide ((m : Int) ≤ (g : Int)) = false := by rw [decide_eq_false_iff_not]; omega
    clear hv hpa hs
    cases hag : agOk W p g with
    | false =>
      have HAG := Lib.hid hag
      clear hag
      go_enter Try.func11, Try.ntmps11
      go_wp2_with fail
      refine (of_ok _ x m c W HA.out HVW.out).mono ?_
      rintro e w1 ⟨x2, cc2, rfl, hs, hb⟩
      replace HZ := Lib.hid (HZ.out.mono hb)
      replace HA := Lib.hid (HA.out.mono hb)
      replace HB := Lib.hid (HB.out.mono hb)
      replace HP := Lib.hid (HP.out.mono hb)
      have HS := Lib.hid hs
      clear hb
      obtain ⟨z0, z1, z2, z3⟩ := HZ.out.cells
      go_wp2_with fail
      refine (list_ok _ y m d W p HP.out HV.out).mono ?_
      rintro e w2 ⟨ua, uc, rfl, hl, hb⟩
      replace HZ := Lib.hid (HZ.out.mono hb)
      replace HA := Lib.hid (HA.out.mono hb)
      replace HB := Lib.hid (HB.out.mono hb)
      replace HP := Lib.hid (HP.out.mono hb)
      replace HS := Lib.hid (HS.out.mono hb)
      have HU := Lib.hid hl
      clear z0 z1 z2 z3
      clear hb
      obtain ⟨z0, z1, z2, z3⟩ := HZ.out.cells
      go_wp2_with fail
      refine (restU_not _ x2 ua m cc2 m uc g W p HS.out HU.out HV.out hg HAG.out).mono ?_
      rintro e w3 ⟨a3, d3, rfl, hb⟩
      replace HZ := Lib.hid (HZ.out.mono hb)
      replace HA := Lib.hid (HA.out.mono hb)
      replace HB := Lib.hid (HB.out.mono hb)
      replace HP := Lib.hid (HP.out.mono hb)
      replace HS := Lib.hid (HS.out.mono hb)
      replace HU := Lib.hid (HU.out.mono hb)
      clear z0 z1 z2 z3
      clear hb
      obtain ⟨z0, z1, z2, z3⟩ := HZ.out.cells
      go_wp2_with fail
      refine (of_ok _ x m c W HA.out HVW.out).mono ?_
      rintro e w4 ⟨x5, cc5, rfl, hs, hb⟩
      replace HZ := Lib.hid (HZ.out.mono hb)
      replace HA := Lib.hid (HA.out.mono hb)
      replace HB := Lib.hid (HB.out.mono hb)
      replace HP := Lib.hid (HP.out.mono hb)
      have HS5 := Lib.hid hs
      clear z0 z1 z2 z3
      clear hb
      obtain ⟨z0, z1, z2, z3⟩ := HZ.out.cells
      go_wp2_with fail
      refine (list_ok _ y m d W p HP.out HV.out).mono ?_
      rintro e w5 ⟨ub, ud, rfl, hl, hb⟩
      replace HZ := Lib.hid (HZ.out.mono hb)
      replace HA := Lib.hid (HA.out.mono hb)
      replace HB := Lib.hid (HB.out.mono hb)
      replace HP := Lib.hid (HP.out.mono hb)
      replace HS5 := Lib.hid (HS5.out.mono hb)
      have HU5 := Lib.hid hl
      clear z0 z1 z2 z3
      clear hb
      obtain ⟨z0, z1, z2, z3⟩ := HZ.out.cells
      go_wp2_with fail
      refine (yield_not _ x5 ub m cc5 m ud g W p HS5.out HU5.out HV.out hg HAG.out).mono ?_
      rintro e w6 ⟨rfl, hb⟩
      replace HZ := Lib.hid (HZ.out.mono hb)
      replace HA := Lib.hid (HA.out.mono hb)
      replace HB := Lib.hid (HB.out.mono hb)
      replace HP := Lib.hid (HP.out.mono hb)
      replace HS5 := Lib.hid (HS5.out.mono hb)
      replace HU5 := Lib.hid (HU5.out.mono hb)
      replace HZ := Lib.hid (HZ.out.mono (bal (Below.refl _ _) (.cells #[.int .i64 0, .int .i64 0] 53)))
      replace HA := Lib.hid (HA.out.mono (bal (Below.refl _ _) (.cells #[.int .i64 0, .int .i64 0] 53)))
      replace HB := Lib.hid (HB.out.mono (bal (Below.refl _ _) (.cells #[.int .i64 0, .int .i64 0] 53)))
      replace HP := Lib.hid (HP.out.mono (bal (Below.refl _ _) (.cells #[.int .i64 0, .int .i64 0] 53)))
      replace HS5 := Lib.hid (HS5.out.mono (bal (Below.refl _ _) (.cells #[.int .i64 0, .int .i64 0] 53)))
      replace HU5 := Lib.hid (HU5.out.mono (bal (Below.refl _ _) (.cells #[.int .i64 0, .int .i64 0] 53)))
      have HYB := Lib.hid (show FrBx (w6.alloc (.cells #[.int .i64 0, .int .i64 0] 53)) w6.heap.size 0 0 from new_at w6 (.cells #[.int .i64 0, .int .i64 0] 53))
      clear z0 z1 z2 z3
      clear hb
      obtain ⟨z0, z1, z2, z3⟩ := HZ.out.cells
      go_wp2_with fail
      refine (of_ok _ x m c W HA.out HVW.out).mono ?_
      rintro e w7 ⟨x6, cc6, rfl, hs, hb⟩
      replace HZ := Lib.hid (HZ.out.mono hb)
      replace HA := Lib.hid (HA.out.mono hb)
      replace HB := Lib.hid (HB.out.mono hb)
      replace HP := Lib.hid (HP.out.mono hb)
      replace HYB := Lib.hid (HYB.out.mono hb)
      have HS6 := Lib.hid hs
      clear z0 z1 z2 z3
      clear hb
      obtain ⟨z0, z1, z2, z3⟩ := HZ.out.cells
      go_wp2_with fail
      refine (list_ok _ y m d W p HP.out HV.out).mono ?_
      rintro e w8 ⟨uv, uw, rfl, hl, hb⟩
      replace HZ := Lib.hid (HZ.out.mono hb)
      replace HA := Lib.hid (HA.out.mono hb)
      replace HB := Lib.hid (HB.out.mono hb)
      replace HP := Lib.hid (HP.out.mono hb)
      replace HYB := Lib.hid (HYB.out.mono hb)
      replace HS6 := Lib.hid (HS6.out.mono hb)
      have HU6 := Lib.hid hl
      clear z0 z1 z2 z3
      clear hb
      obtain ⟨z0, z1, z2, z3⟩ := HZ.out.cells
      go_wp2_with fail
      refine (reach_ok _ x6 uv m cc6 m uw g W p HS6.out HU6.out HV.out HGA.out).mono ?_
      rintro e w9 ⟨rfl, hb⟩
      replace HZ := Lib.hid (HZ.out.mono hb)
      replace HA := Lib.hid (HA.out.mono hb)
      replace HB := Lib.hid (HB.out.mono hb)
      replace HP := Lib.hid (HP.out.mono hb)
      replace HYB := Lib.hid (HYB.out.mono hb)
      replace HS6 := Lib.hid (HS6.out.mono hb)
      replace HU6 := Lib.hid (HU6.out.mono hb)
      clear z0 z1 z2 z3
      clear hb
      obtain ⟨z0, z1, z2, z3⟩ := HZ.out.cells
      go_wp2_with fail
      refine (fine_go _ x y m c m d W p HA.out HP.out).mono ?_
      rintro e w10 ⟨rfl, hb⟩
      replace HZ := Lib.hid (HZ.out.mono hb)
      replace HA := Lib.hid (HA.out.mono hb)
      replace HB := Lib.hid (HB.out.mono hb)
      replace HP := Lib.hid (HP.out.mono hb)
      replace HYB := Lib.hid (HYB.out.mono hb)
      rw [HV.out]
      clear z0 z1 z2 z3
      clear hb
      obtain ⟨z0, z1, z2, z3⟩ := HZ.out.cells
      go_wp2_with fail
      refine (rrest_not _ x y m c m d g W p HA.out HP.out HV.out hg HAG.out).mono ?_
      rintro e w11 ⟨b3, e3, rfl, hb⟩
      replace HZ := Lib.hid (HZ.out.mono hb)
      replace HA := Lib.hid (HA.out.mono hb)
      replace HB := Lib.hid (HB.out.mono hb)
      replace HP := Lib.hid (HP.out.mono hb)
      replace HYB := Lib.hid (HYB.out.mono hb)
      clear z0 z1 z2 z3
      clear hb
      obtain ⟨z0, z1, z2, z3⟩ := HZ.out.cells
      go_wp2_with fail
      refine (ryield_not _ x y m c m d g W p HA.out HP.out HV.out hg HAG.out).mono ?_
      rintro e w12 ⟨rfl, hb⟩
      replace HZ := Lib.hid (HZ.out.mono hb)
      replace HA := Lib.hid (HA.out.mono hb)
      replace HB := Lib.hid (HB.out.mono hb)
      replace HP := Lib.hid (HP.out.mono hb)
      replace HYB := Lib.hid (HYB.out.mono hb)
      replace HZ := Lib.hid (HZ.out.mono (bal (Below.refl _ _) (.cells #[.int .i64 0, .int .i64 0] 53)))
      replace HA := Lib.hid (HA.out.mono (bal (Below.refl _ _) (.cells #[.int .i64 0, .int .i64 0] 53)))
      replace HB := Lib.hid (HB.out.mono (bal (Below.refl _ _) (.cells #[.int .i64 0, .int .i64 0] 53)))
      replace HP := Lib.hid (HP.out.mono (bal (Below.refl _ _) (.cells #[.int .i64 0, .int .i64 0] 53)))
      replace HYB := Lib.hid (HYB.out.mono (bal (Below.refl _ _) (.cells #[.int .i64 0, .int .i64 0] 53)))
      have HY2 := Lib.hid (show FrBx (w12.alloc (.cells #[.int .i64 0, .int .i64 0] 53)) w12.heap.size 0 0 from new_at w12 (.cells #[.int .i64 0, .int .i64 0] 53))
      clear z0 z1 z2 z3
      clear hb
      obtain ⟨z0, z1, z2, z3⟩ := HZ.out.cells
      go_wp2_with fail
      refine (freq_nil _ a3 b3 d3 e3).mono ?_
      rintro e w13 ⟨rfl, hb⟩
      have hb := drewB hb
      replace HZ := Lib.hid (HZ.out.mono hb)
      replace HA := Lib.hid (HA.out.mono hb)
      replace HB := Lib.hid (HB.out.mono hb)
      replace HP := Lib.hid (HP.out.mono hb)
      replace HYB := Lib.hid (HYB.out.mono hb)
      replace HY2 := Lib.hid (HY2.out.mono hb)
      obtain ⟨y0, y1, y2⟩ := HYB.out.cells
      obtain ⟨y3, y4, y5⟩ := HY2.out.cells
      clear z0 z1 z2 z3
      clear hb
      obtain ⟨z0, z1, z2, z3⟩ := HZ.out.cells
      go_wp2_with fail
      refine (rreach_go _ x y m c m d g W p HA.out HP.out HV.out hg).mono ?_
      rintro e w14 ⟨rfl, hb⟩
      replace HZ := Lib.hid (HZ.out.mono hb)
      replace HA := Lib.hid (HA.out.mono hb)
      replace HB := Lib.hid (HB.out.mono hb)
      replace HP := Lib.hid (HP.out.mono hb)
      replace HYB := Lib.hid (HYB.out.mono hb)
      replace HY2 := Lib.hid (HY2.out.mono hb)
      clear hb
      go_wp2_with fail
      refine (awake_go _).mono ?_
      rintro e w15 ⟨rfl, hb⟩
      replace HZ := Lib.hid (HZ.out.mono hb)
      replace HA := Lib.hid (HA.out.mono hb)
      replace HB := Lib.hid (HB.out.mono hb)
      replace HP := Lib.hid (HP.out.mono hb)
      replace HYB := Lib.hid (HYB.out.mono hb)
      replace HY2 := Lib.hid (HY2.out.mono hb)
      clear hb
      go_wp2
      go_ret
      exact ⟨rfl, btr HB0.out HB.out⟩
    | true =>
      have HAG := Lib.hid hag
      obtain ⟨yn, hyn⟩ : ∃ v, (yF W p g).n = v := ⟨_, rfl⟩
      obtain ⟨yd, hyd⟩ : ∃ v, (yF W p g).d = v := ⟨_, rfl⟩
      have HYN := Lib.hid hyn
      have HYD := Lib.hid hyd
      clear hag hyn hyd
      go_enter Try.func11, Try.ntmps11
      go_wp2_with fail
      refine (of_ok _ x m c W HA.out HVW.out).mono ?_
      rintro e w1 ⟨x2, cc2, rfl, hs, hb⟩
      replace HZ := Lib.hid (HZ.out.mono hb)
      replace HA := Lib.hid (HA.out.mono hb)
      replace HB := Lib.hid (HB.out.mono hb)
      replace HP := Lib.hid (HP.out.mono hb)
      have HS := Lib.hid hs
      clear hb
      obtain ⟨z0, z1, z2, z3⟩ := HZ.out.cells
      go_wp2_with fail
      refine (list_ok _ y m d W p HP.out HV.out).mono ?_
      rintro e w2 ⟨ua, uc, rfl, hl, hb⟩
      replace HZ := Lib.hid (HZ.out.mono hb)
      replace HA := Lib.hid (HA.out.mono hb)
      replace HB := Lib.hid (HB.out.mono hb)
      replace HP := Lib.hid (HP.out.mono hb)
      replace HS := Lib.hid (HS.out.mono hb)
      have HU := Lib.hid hl
      clear z0 z1 z2 z3
      clear hb
      obtain ⟨z0, z1, z2, z3⟩ := HZ.out.cells
      go_wp2_with fail
      refine (restU_ok _ x2 ua m cc2 m uc g W p HS.out HU.out HV.out hg HAG.out).mono ?_
      rintro e w3 ⟨fa, fc, rfl, hF, hb⟩
      replace HZ := Lib.hid (HZ.out.mono hb)
      replace HA := Lib.hid (HA.out.mono hb)
      replace HB := Lib.hid (HB.out.mono hb)
      replace HP := Lib.hid (HP.out.mono hb)
      replace HS := Lib.hid (HS.out.mono hb)
      replace HU := Lib.hid (HU.out.mono hb)
      have HF := Lib.hid hF
      clear z0 z1 z2 z3
      clear hb
      obtain ⟨z0, z1, z2, z3⟩ := HZ.out.cells
      go_wp2_with fail
      refine (of_ok _ x m c W HA.out HVW.out).mono ?_
      rintro e w4 ⟨x5, cc5, rfl, hs, hb⟩
      replace HZ := Lib.hid (HZ.out.mono hb)
      replace HA := Lib.hid (HA.out.mono hb)
      replace HB := Lib.hid (HB.out.mono hb)
      replace HP := Lib.hid (HP.out.mono hb)
      replace HF := Lib.hid (HF.out.mono hb)
      have HS5 := Lib.hid hs
      clear z0 z1 z2 z3
      clear hb
      obtain ⟨z0, z1, z2, z3⟩ := HZ.out.cells
      go_wp2_with fail
      refine (list_ok _ y m d W p HP.out HV.out).mono ?_
      rintro e w5 ⟨ub, ud, rfl, hl, hb⟩
      replace HZ := Lib.hid (HZ.out.mono hb)
      replace HA := Lib.hid (HA.out.mono hb)
      replace HB := Lib.hid (HB.out.mono hb)
      replace HP := Lib.hid (HP.out.mono hb)
      replace HF := Lib.hid (HF.out.mono hb)
      replace HS5 := Lib.hid (HS5.out.mono hb)
      have HU5 := Lib.hid hl
      clear z0 z1 z2 z3
      clear hb
      obtain ⟨z0, z1, z2, z3⟩ := HZ.out.cells
      go_wp2_with fail
      refine (yield_ok _ x5 ub m cc5 m ud g W p HS5.out HU5.out HV.out hg HAG.out HYN.out HYD.out).mono ?_
      rintro e w6 ⟨rfl, hb⟩
      replace HZ := Lib.hid (HZ.out.mono hb)
      replace HA := Lib.hid (HA.out.mono hb)
      replace HB := Lib.hid (HB.out.mono hb)
      replace HP := Lib.hid (HP.out.mono hb)
      replace HF := Lib.hid (HF.out.mono hb)
      replace HS5 := Lib.hid (HS5.out.mono hb)
      replace HU5 := Lib.hid (HU5.out.mono hb)
      replace HZ := Lib.hid (HZ.out.mono (bal (Below.refl _ _) (.cells #[.int .i64 yn, .int .i64 yd] 53)))
      replace HA := Lib.hid (HA.out.mono (bal (Below.refl _ _) (.cells #[.int .i64 yn, .int .i64 yd] 53)))
      replace HB := Lib.hid (HB.out.mono (bal (Below.refl _ _) (.cells #[.int .i64 yn, .int .i64 yd] 53)))
      replace HP := Lib.hid (HP.out.mono (bal (Below.refl _ _) (.cells #[.int .i64 yn, .int .i64 yd] 53)))
      replace HF := Lib.hid (HF.out.mono (bal (Below.refl _ _) (.cells #[.int .i64 yn, .int .i64 yd] 53)))
      replace HS5 := Lib.hid (HS5.out.mono (bal (Below.refl _ _) (.cells #[.int .i64 yn, .int .i64 yd] 53)))
      replace HU5 := Lib.hid (HU5.out.mono (bal (Below.refl _ _) (.cells #[.int .i64 yn, .int .i64 yd] 53)))
      have HYB := Lib.hid (show FrBx (w6.alloc (.cells #[.int .i64 yn, .int .i64 yd] 53)) w6.heap.size yn yd from new_at w6 (.cells #[.int .i64 yn, .int .i64 yd] 53))
      clear z0 z1 z2 z3
      clear hb
      obtain ⟨z0, z1, z2, z3⟩ := HZ.out.cells
      go_wp2_with fail
      refine (of_ok _ x m c W HA.out HVW.out).mono ?_
      rintro e w7 ⟨x6, cc6, rfl, hs, hb⟩
      replace HZ := Lib.hid (HZ.out.mono hb)
      replace HA := Lib.hid (HA.out.mono hb)
      replace HB := Lib.hid (HB.out.mono hb)
      replace HP := Lib.hid (HP.out.mono hb)
      replace HYB := Lib.hid (HYB.out.mono hb)
      replace HF := Lib.hid (HF.out.mono hb)
      have HS6 := Lib.hid hs
      clear z0 z1 z2 z3
      clear hb
      obtain ⟨z0, z1, z2, z3⟩ := HZ.out.cells
      go_wp2_with fail
      refine (list_ok _ y m d W p HP.out HV.out).mono ?_
      rintro e w8 ⟨uv, uw, rfl, hl, hb⟩
      replace HZ := Lib.hid (HZ.out.mono hb)
      replace HA := Lib.hid (HA.out.mono hb)
      replace HB := Lib.hid (HB.out.mono hb)
      replace HP := Lib.hid (HP.out.mono hb)
      replace HYB := Lib.hid (HYB.out.mono hb)
      replace HF := Lib.hid (HF.out.mono hb)
      replace HS6 := Lib.hid (HS6.out.mono hb)
      have HU6 := Lib.hid hl
      clear z0 z1 z2 z3
      clear hb
      obtain ⟨z0, z1, z2, z3⟩ := HZ.out.cells
      go_wp2_with fail
      refine (reach_ok _ x6 uv m cc6 m uw g W p HS6.out HU6.out HV.out HGA.out).mono ?_
      rintro e w9 ⟨rfl, hb⟩
      replace HZ := Lib.hid (HZ.out.mono hb)
      replace HA := Lib.hid (HA.out.mono hb)
      replace HB := Lib.hid (HB.out.mono hb)
      replace HP := Lib.hid (HP.out.mono hb)
      replace HYB := Lib.hid (HYB.out.mono hb)
      replace HF := Lib.hid (HF.out.mono hb)
      replace HS6 := Lib.hid (HS6.out.mono hb)
      replace HU6 := Lib.hid (HU6.out.mono hb)
      clear z0 z1 z2 z3
      clear hb
      obtain ⟨z0, z1, z2, z3⟩ := HZ.out.cells
      go_wp2_with fail
      refine (fine_go _ x y m c m d W p HA.out HP.out).mono ?_
      rintro e w10 ⟨rfl, hb⟩
      replace HZ := Lib.hid (HZ.out.mono hb)
      replace HA := Lib.hid (HA.out.mono hb)
      replace HB := Lib.hid (HB.out.mono hb)
      replace HP := Lib.hid (HP.out.mono hb)
      replace HYB := Lib.hid (HYB.out.mono hb)
      replace HF := Lib.hid (HF.out.mono hb)
      rw [HV.out]
      clear z0 z1 z2 z3
      clear hb
      obtain ⟨z0, z1, z2, z3⟩ := HZ.out.cells
      go_wp2_with fail
      refine (rrest_ok _ x y m c m d g W p HA.out HP.out HV.out hg HAG.out).mono ?_
      rintro e w11 ⟨ga, gc, rfl, hG, hb⟩
      replace HZ := Lib.hid (HZ.out.mono hb)
      replace HA := Lib.hid (HA.out.mono hb)
      replace HB := Lib.hid (HB.out.mono hb)
      replace HP := Lib.hid (HP.out.mono hb)
      replace HYB := Lib.hid (HYB.out.mono hb)
      replace HF := Lib.hid (HF.out.mono hb)
      have HG := Lib.hid hG
      clear z0 z1 z2 z3
      clear hb
      obtain ⟨z0, z1, z2, z3⟩ := HZ.out.cells
      go_wp2_with fail
      refine (ryield_ok _ x y m c m d g W p HA.out HP.out HV.out hg HAG.out HYN.out HYD.out).mono ?_
      rintro e w12 ⟨rfl, hb⟩
      replace HZ := Lib.hid (HZ.out.mono hb)
      replace HA := Lib.hid (HA.out.mono hb)
      replace HB := Lib.hid (HB.out.mono hb)
      replace HP := Lib.hid (HP.out.mono hb)
      replace HYB := Lib.hid (HYB.out.mono hb)
      replace HF := Lib.hid (HF.out.mono hb)
      replace HG := Lib.hid (HG.out.mono hb)
      replace HZ := Lib.hid (HZ.out.mono (bal (Below.refl _ _) (.cells #[.int .i64 yn, .int .i64 yd] 53)))
      replace HA := Lib.hid (HA.out.mono (bal (Below.refl _ _) (.cells #[.int .i64 yn, .int .i64 yd] 53)))
      replace HB := Lib.hid (HB.out.mono (bal (Below.refl _ _) (.cells #[.int .i64 yn, .int .i64 yd] 53)))
      replace HP := Lib.hid (HP.out.mono (bal (Below.refl _ _) (.cells #[.int .i64 yn, .int .i64 yd] 53)))
      replace HYB := Lib.hid (HYB.out.mono (bal (Below.refl _ _) (.cells #[.int .i64 yn, .int .i64 yd] 53)))
      replace HF := Lib.hid (HF.out.mono (bal (Below.refl _ _) (.cells #[.int .i64 yn, .int .i64 yd] 53)))
      replace HG := Lib.hid (HG.out.mono (bal (Below.refl _ _) (.cells #[.int .i64 yn, .int .i64 yd] 53)))
      have HY2 := Lib.hid (show FrBx (w12.alloc (.cells #[.int .i64 yn, .int .i64 yd] 53)) w12.heap.size yn yd from new_at w12 (.cells #[.int .i64 yn, .int .i64 yd] 53))
      clear z0 z1 z2 z3
      clear hb
      obtain ⟨z0, z1, z2, z3⟩ := HZ.out.cells
      go_wp2_with fail
      refine (freq_go _ fa ga m fc m gc _ _ HF.out HG.out).mono ?_
      rintro e w13 ⟨rfl, hb⟩
      have hb := drewB hb
      replace HZ := Lib.hid (HZ.out.mono hb)
      replace HA := Lib.hid (HA.out.mono hb)
      replace HB := Lib.hid (HB.out.mono hb)
      replace HP := Lib.hid (HP.out.mono hb)
      replace HYB := Lib.hid (HYB.out.mono hb)
      replace HF := Lib.hid (HF.out.mono hb)
      replace HG := Lib.hid (HG.out.mono hb)
      replace HY2 := Lib.hid (HY2.out.mono hb)
      rw [decide_eq_true rfl]
      obtain ⟨y0, y1, y2⟩ := HYB.out.cells
      obtain ⟨y3, y4, y5⟩ := HY2.out.cells
      clear z0 z1 z2 z3
      clear hb
      obtain ⟨z0, z1, z2, z3⟩ := HZ.out.cells
      go_wp2_with fail
      refine (rreach_go _ x y m c m d g W p HA.out HP.out HV.out hg).mono ?_
      rintro e w14 ⟨rfl, hb⟩
      replace HZ := Lib.hid (HZ.out.mono hb)
      replace HA := Lib.hid (HA.out.mono hb)
      replace HB := Lib.hid (HB.out.mono hb)
      replace HP := Lib.hid (HP.out.mono hb)
      replace HYB := Lib.hid (HYB.out.mono hb)
      replace HF := Lib.hid (HF.out.mono hb)
      replace HG := Lib.hid (HG.out.mono hb)
      replace HY2 := Lib.hid (HY2.out.mono hb)
      clear hb
      go_wp2_with fail
      refine (awake_go _).mono ?_
      rintro e w15 ⟨rfl, hb⟩
      replace HZ := Lib.hid (HZ.out.mono hb)
      replace HA := Lib.hid (HA.out.mono hb)
      replace HB := Lib.hid (HB.out.mono hb)
      replace HP := Lib.hid (HP.out.mono hb)
      replace HYB := Lib.hid (HYB.out.mono hb)
      replace HF := Lib.hid (HF.out.mono hb)
      replace HG := Lib.hid (HG.out.mono hb)
      replace HY2 := Lib.hid (HY2.out.mono hb)
      clear hb
      go_wp2
      go_ret
      exact ⟨rfl, btr HB0.out HB.out⟩
end Go.Proofs.Ytcmakddnjmeklaa

