/- Chapter 9: the rest of a plan: its numbers. -/
import Derived.Test.YtcmakddnjmeklaaVd
namespace Go.Proofs.Ytcmakddnjmeklaa
open Go.RowKit
set_option linter.unusedSimpArgs false

theorem pa_of0 {W : Wd} {p : List Int} (h : isPlanB W p = true) {s : Nat} (hs : s < W.acts.length) : 1 ≤ isum (podds W p s) ∧ isum (podds W p s) ≤ 12 := by
  obtain ⟨_, _, _, ⟨hn1, hn4, _⟩, _⟩ := plan_parts h
  have hv := vAc_at (vAc_pact h hs)
  unfold podds
  omega
theorem nth_setI {l : List Int} {i j : Nat} {z : Int} (hj : j < l.length) : nth (l.set i z) j = if i = j then z else nth l j := by
  rw [nth_of_lt (by rw [List.length_set]; exact hj), List.getElem_set, nth_of_lt hj]
def fVal (W : Wd) (p : List Int) (L : List Nat) (i : Nat) : Int := detL (L.length - 1) (dropRow (flow W p L) i i) * fS W p L i
def nTo (W : Wd) (p : List Int) (L : List Nat) : Nat → List Int
  | 0 => List.replicate W.acts.length 0
  | i + 1 => (nTo W p L i).set (gN L i) (fVal W p L i)
def dTo (W : Wd) (p : List Int) (L : List Nat) : Nat → Int
  | 0 => 0
  | i + 1 => dTo W p L i + fVal W p L i
def restN (W : Wd) (p : List Int) (f : Nat) : List Int := nTo W p (stL (agSet W p f) W.acts.length) (stL (agSet W p f) W.acts.length).length
def restD (W : Wd) (p : List Int) (f : Nat) : Int := dTo W p (stL (agSet W p f) W.acts.length) (stL (agSet W p f) W.acts.length).length
theorem nTo_len {W : Wd} {p : List Int} {L : List Nat} : ∀ i, (nTo W p L i).length = W.acts.length
  | 0 => by simp [nTo]
  | i + 1 => by show ((nTo W p L i).set _ _).length = _; rw [List.length_set]; exact nTo_len i
theorem rw_dropi (M : List (List Int)) (i j k : Nat) (hk : k + 1 < M.length) : rw_ (dropRow M i j) k = (rw_ M (if k < i then k else k + 1)).take j ++ (rw_ M (if k < i then k else k + 1)).drop (j + 1) := by
  unfold rw_ dropRow
  rw [List.getD_eq_getElem?_getD, List.getElem?_map, List.getElem?_eraseIdx]
  by_cases h : k < i
  · rw [if_pos h, if_pos h, List.getD_eq_getElem?_getD, List.getElem?_eq_getElem (by omega)]; rfl
  · rw [if_neg h, if_neg h, List.getD_eq_getElem?_getD, List.getElem?_eq_getElem hk]; rfl
theorem dropi_len {M : List (List Int)} {i j : Nat} (hi : i < M.length) : (dropRow M i j).length = M.length - 1 := by
  unfold dropRow
  rw [List.length_map, List.length_eraseIdx, if_pos hi]
theorem sq_dropi {n : Nat} {M : List (List Int)} (h : Sq (n + 1) M) {i j : Nat} (hi : i < n + 1) (hj : j < n + 1) : Sq n (dropRow M i j) := by
  obtain ⟨h1, h2⟩ := h
  refine ⟨by rw [dropi_len (by omega)]; omega, fun k hk => ?_⟩
  rw [rw_dropi M i j k (by omega)]
  obtain ⟨h3, h4⟩ := h2 (if k < i then k else k + 1) (by split <;> omega)
  refine ⟨by simp [h3]; omega, fun u hu => ?_⟩
  rw [nth_app]
  have hl : ((rw_ M (if k < i then k else k + 1)).take j).length = j := by simp; omega
  rw [hl]
  split
  · rw [nth_take (by omega)]; exact h4 u (by omega)
  · rw [nth_drop]; exact h4 _ (by omega)
theorem flow_sq {W : Wd} {p : List Int} {L : List Nat} (h : isPlanB W p = true) (hL : ∀ s ∈ L, s < W.acts.length) : Sq L.length (flow W p L) := by
  refine ⟨fTo_len, fun k hk => ?_⟩
  have hkn := hL _ (gN_mem hk)
  have hv := vAc_at (vAc_pact h hkn)
  have hS : 1 ≤ fS W p L k ∧ fS W p L k ≤ 12 := (pa_of0 h hkn)
  unfold flow
  rw [fTo_at hk, if_pos hk]
  refine ⟨by rw [List.length_set, fRow_len], fun j hj => ?_⟩
  have hb := fRow_bd h hkn hj (hL _ (gN_mem hj))
  rw [nth_setI (by rw [fRow_len]; exact hj)]
  split
  · rename_i e; subst e; omega
  · omega
theorem det_own (w : World) (lo hi : Nat) (a : Option Addr) (n c k : Nat) (M : List (List Int)) (h : RwOwn w lo hi (.slice a n c) M) (hS : Sq k M) (hk : k ≤ 4) :
    Calls Try.prog 73 #[.slice a n c] w fun e w' => e = .returned (.int .i64 (detL k M)) ∧ Below w.heap.size w w' := by
  obtain ⟨a2, c2, e, hs⟩ := h.sl
  rw [hS.1] at e hs
  injection e with e1 e2 e3
  subst e1 e2 e3
  exact det_go _ w _ _ M hs hS hk
theorem dB3 {k : Nat} (h : k ≤ 3) : dB k ≤ 750000000 := by
  have : k = 0 ∨ k = 1 ∨ k = 2 ∨ k = 3 := by omega
  rcases this with rfl | rfl | rfl | rfl <;> decide
theorem fVal_bd {W : Wd} {p : List Int} {L : List Nat} (h : isPlanB W p = true) (hL : ∀ s ∈ L, s < W.acts.length) (hK : L.length ≤ 4) {i : Nat} (hi : i < L.length) : -9000000000 ≤ fVal W p L i ∧ fVal W p L i ≤ 9000000000 := by
  have h1 := flow_sq h hL
  obtain ⟨m, hm⟩ : ∃ m, L.length = m + 1 := ⟨L.length - 1, by omega⟩
  rw [hm] at h1
  have h2 := detL_bound m _ (sq_dropi h1 (i := i) (j := i) (by omega) (by omega))
  have h3 := dB3 (k := m) (by omega)
  have h4 : 1 ≤ fS W p L i ∧ fS W p L i ≤ 12 := pa_of0 h (hL _ (gN_mem hi))
  unfold fVal
  rw [hm, Nat.add_sub_cancel]
  have := mul_le3 (A := 750000000) (B := 12) (show -750000000 ≤ detL m (dropRow (flow W p L) i i) by omega) (by omega) (show -12 ≤ fS W p L i by omega) (by omega) (by omega)
  omega
theorem dTo_bd {W : Wd} {p : List Int} {L : List Nat} (h : isPlanB W p = true) (hL : ∀ s ∈ L, s < W.acts.length) (hK : L.length ≤ 4) : ∀ i, i ≤ L.length → -(9000000000 * (i : Int)) ≤ dTo W p L i ∧ dTo W p L i ≤ 9000000000 * (i : Int)
  | 0, _ => by simp [dTo]
  | i + 1, hi => by
    have h1 := dTo_bd h hL hK i (by omega)
    have h2 := fVal_bd h hL hK (i := i) (by omega)
    show _ ≤ dTo W p L i + fVal W p L i ∧ dTo W p L i + fVal W p L i ≤ _
    omega

set_option maxRecDepth 100000 in
set_option maxHeartbeats 4000000 in
theorem rt_nums (V V1 : World) (pw po gn nc n c m d K lc mc top : Nat) (W : Wd) (x y la ma : Option Addr) (p : List Int) (L : List Nat) (hw : BoxW V pw W.a W.b x n c) (hA : A2Sl V x n c W.acts) (hp : Sl V y m d p) (hok : isPlanB W p = true) (hl : Sl V la K lc (natI L)) (hL : ∀ s ∈ L, s < n) (hK : K ≤ 4)
    (hM : RwOwn V1 V.heap.size top (.slice ma K mc) (flow W p L)) (hB : Below V.heap.size V V1) (htop : V.heap.size ≤ top) (hpo : top ≤ po)
    (hbx : V1.heap[po]? = some (.cells #[.slice (some ⟨gn, 0, none⟩) n nc, .int .i64 0] 80 (0, 0))) (hnum : V1.ownsRow top 3 1 (.slice (some ⟨gn, 0, none⟩) n nc) n ((nTo W p L 0).map (Value.int .i64))) (R : Act → World → Prop)
    (c0 c2 c4 c5 c6 c7 c8 c9 c11 c13 c14 c15 c16 c17 c18 c20 c21 c22 c23 c24 c25 c26 c27 c28 c29 c30 c31 c32 c33 c34 c35 c36 c37 c38 c39 c40 c41 c42 c43 c44 c45 c46 c47 c48 c49 c50 c51 c52 c53 c54 c55 c56 c57 c58 c59 c60 c61 c62 c63 c64 c65 c66 c67 c68 c69 c70 c71 c72 c73 c74 c75 c76 c77 c78 c79 c80 c81 c82 c83 c84 c85 c86 c87 c88 c89 c90 c91 c92 c93 c94 c95 c96 c97 c98 c99 c100 c101 c102 c103 c104 c105 c109 c110 c111 c112 c113 c114 c115 c116 c117 c118 c119 c120 c121 c122 c123 c124 c125 c126 c127 c128 c129 c130 c131 c132 c133 c134 c135 c136 c137 c138 : Value)
    (hexit : ∀ (u22 u23 u108 u109 u110 u111 u112 u113 u114 u115 u116 u117 u118 u119 u120 u121 u122 u123 u124 u125 u126 u127 u128 u129 u130 u131 u132 u133 u134 u135 u136 u137 : Value) (w' : World), w'.heap[po]? = some (.cells #[.slice (some ⟨gn, 0, none⟩) n nc, .int .i64 (dTo W p L K)] 80 (0, 0)) → w'.ownsRow top 3 1 (.slice (some ⟨gn, 0, none⟩) n nc) n ((nTo W p L K).map (Value.int .i64)) → Below V.heap.size V w' → R ⟨List.toArray (c0 :: .slice y m d :: c2 :: .pointer (some ⟨pw, 0, none⟩) :: c4 :: c5 :: c6 :: c7 :: c8 :: c9 :: .slice la K lc :: c11 :: .slice ma K mc :: c13 :: c14 :: c15 :: c16 :: c17 :: c18 :: .pointer (some ⟨po, 0, none⟩) :: c20 :: c21 :: u22 :: u23 :: c24 :: c25 :: c26 :: c27 :: c28 :: c29 :: c30 :: c31 :: c32 :: c33 :: c34 :: c35 :: c36 :: c37 :: c38 :: c39 :: c40 :: c41 :: c42 :: c43 :: c44 :: c45 :: c46 :: c47 :: c48 :: c49 :: c50 :: c51 :: c52 :: c53 :: c54 :: c55 :: c56 :: c57 :: c58 :: c59 :: c60 :: c61 :: c62 :: c63 :: c64 :: c65 :: c66 :: c67 :: c68 :: c69 :: c70 :: c71 :: c72 :: c73 :: c74 :: c75 :: c76 :: c77 :: c78 :: c79 :: c80 :: c81 :: c82 :: c83 :: c84 :: c85 :: c86 :: c87 :: c88 :: c89 :: c90 :: c91 :: c92 :: c93 :: c94 :: c95 :: c96 :: c97 :: c98 :: c99 :: c100 :: c101 :: c102 :: c103 :: c104 :: c105 :: .slice la K lc :: .int .i64 K :: u108 :: u109 :: u110 :: u111 :: u112 :: u113 :: u114 :: u115 :: u116 :: u117 :: u118 :: u119 :: u120 :: u121 :: u122 :: u123 :: u124 :: u125 :: u126 :: u127 :: u128 :: u129 :: u130 :: u131 :: u132 :: u133 :: u134 :: u135 :: u136 :: u137 :: c138 :: []), []⟩ w') :
    Code.wp Try.prog (Code.loop (rtBody 4)) (OnExit 8 R) ⟨List.toArray (c0 :: .slice y m d :: c2 :: .pointer (some ⟨pw, 0, none⟩) :: c4 :: c5 :: c6 :: c7 :: c8 :: c9 :: .slice la K lc :: c11 :: .slice ma K mc :: c13 :: c14 :: c15 :: c16 :: c17 :: c18 :: .pointer (some ⟨po, 0, none⟩) :: c20 :: c21 :: c22 :: c23 :: c24 :: c25 :: c26 :: c27 :: c28 :: c29 :: c30 :: c31 :: c32 :: c33 :: c34 :: c35 :: c36 :: c37 :: c38 :: c39 :: c40 :: c41 :: c42 :: c43 :: c44 :: c45 :: c46 :: c47 :: c48 :: c49 :: c50 :: c51 :: c52 :: c53 :: c54 :: c55 :: c56 :: c57 :: c58 :: c59 :: c60 :: c61 :: c62 :: c63 :: c64 :: c65 :: c66 :: c67 :: c68 :: c69 :: c70 :: c71 :: c72 :: c73 :: c74 :: c75 :: c76 :: c77 :: c78 :: c79 :: c80 :: c81 :: c82 :: c83 :: c84 :: c85 :: c86 :: c87 :: c88 :: c89 :: c90 :: c91 :: c92 :: c93 :: c94 :: c95 :: c96 :: c97 :: c98 :: c99 :: c100 :: c101 :: c102 :: c103 :: c104 :: c105 :: .slice la K lc :: .int .i64 K :: .int .i64 0 :: c109 :: c110 :: c111 :: c112 :: c113 :: c114 :: c115 :: c116 :: c117 :: c118 :: c119 :: c120 :: c121 :: c122 :: c123 :: c124 :: c125 :: c126 :: c127 :: c128 :: c129 :: c130 :: c131 :: c132 :: c133 :: c134 :: c135 :: c136 :: c137 :: c138 :: []), []⟩ V1 := by
  conv => arg 2; arg 1; whnf
  have hVA := (fun s (hs : s < W.acts.length) => vAc_at (vAc_pact hok hs))
  obtain ⟨_, hpl, hpa, ⟨hn1, hn4, _⟩, _⟩ := plan_parts hok
  have hnA := hA.1
  have hmp := hp.len
  have hlK : K = L.length := by have := hl.len; rw [natI_len] at this; exact this.symm
  have hlcap := hl.cap
  unfold maxLen at hlcap
  obtain rfl : m = n := by omega
  have hLA : ∀ s ∈ L, s < W.acts.length := fun s hs => by have := hL s hs; omega
  have HVA := Lib.hid hVA
  have HSQ := Lib.hid (flow_sq hok hLA)
  have HFV := Lib.hid (fun i (hi : i < L.length) => fVal_bd hok hLA (by omega) hi)
  have HDV := Lib.hid (dTo_bd hok hLA (by omega))
  have HNA := Lib.hid hnA
  have HLK := Lib.hid hlK
  have HLN := Lib.hid (show ∀ i, i < K → gN L i < m from fun i hi => hL _ (gN_mem (by omega)))
  have HPP := Lib.hid (show ∀ s, s < m → 0 ≤ nth p s ∧ nth p s < (acl W.acts s).length from fun s hs => hpa s (by omega))
  have hm4 : m ≤ 4 := by omega
  have HA := Lib.hid hA
  have HP := Lib.hid hp
  have HW := Lib.hid hw
  have HL := Lib.hid hl
  have HM0 := Lib.hid hM
  have HB0 := Lib.hid hB
  have HX0 := Lib.hid (show V1.heap[po]? = some (.cells #[.slice (some ⟨gn, 0, none⟩) m nc, .int .i64 (dTo W p L 0)] 80 (0, 0)) from hbx)
  have HN0 := Lib.hid hnum
  clear hA hp hw hl hok hpl hpa hnA hmp hn4 hL hlK hM hB hbx hnum hLA hVA
  have hm1 : 1 ≤ m := by have := HNA.out; omega
  clear hn1
  go_loopw [108] (fun t2 wr => ∃ i : Nat, i ≤ K ∧ t2 = .int .i64 i ∧ Hid (RwOwn wr V.heap.size top (.slice ma K mc) (flow W p L)) ∧ Hid (Below V.heap.size V wr) ∧ Hid (wr.heap[po]? = some (.cells #[.slice (some ⟨gn, 0, none⟩) m nc, .int .i64 (dTo W p L i)] 80 (0, 0))) ∧ Hid (wr.ownsRow top 3 1 (.slice (some ⟨gn, 0, none⟩) m nc) m ((nTo W p L i).map (Value.int .i64)))) (fun t _ => K - (intOf t).toNat)
  case atStart => exact ⟨0, by omega, rfl, HM0, HB0, HX0, HN0⟩
  case round =>
    clear HM0 HB0 HX0 HN0
    obtain ⟨i, hi, rfl, HM, HB, HX, HN⟩ := hrel
    by_cases hli : i < K
    · obtain ⟨t, ht⟩ : ∃ t, gN L i = t := ⟨_, rfl⟩
      have htm := HLN.out i hli
      rw [ht] at htm
      have htA : t < W.acts.length := by rw [HNA.out]; exact htm
      have hpa := HPP.out t htm
      have hiL : i < L.length := by rw [← HLK.out]; exact hli
      obtain ⟨b0, o0, rfl, hb0, hc0⟩ := HL.out.at (by omega)
      have e0 := hc0 i hli
      rw [natI_at, ht, ← (bcell HB.out).1 _ _ hb0] at e0
      obtain ⟨_, _, hol, hor, hS1, hS2⟩ := HVA.out t htA
      have HPO := Lib.hid (show podds W p t = (pact W.acts p t).o from rfl)
      rw [← HPO.out] at hol hor hS1 hS2
      obtain ⟨K1, hK1⟩ : ∃ K1, K = K1 + 1 := ⟨K - 1, by omega⟩
      have HK1 := Lib.hid hK1
      have HFV1 := Lib.hid (show fVal W p L i = detL K1 (dropRow (flow W p L) i i) * isum (podds W p t) by unfold fVal fS; rw [ht, ← HLK.out, HK1.out]; rfl)
      have HNS := Lib.hid (show nTo W p L (i + 1) = (nTo W p L i).set t (fVal W p L i) by show (nTo W p L i).set (gN L i) _ = _; rw [ht])
      have HDS := Lib.hid (show dTo W p L (i + 1) = dTo W p L i + fVal W p L i from rfl)
      have hfv := HFV.out i hiL
      have hdv := HDV.out i (by omega)
      have HSQ1 := Lib.hid (show Sq K1 (dropRow (flow W p L) i i) from sq_dropi (by have := HSQ.out; rwa [← HLK.out, HK1.out] at this) (by omega) (by omega))
      have HDL := Lib.hid (show (dropRow (flow W p L) i i).length = K1 from HSQ1.out.1)
      obtain ⟨FV, hFV⟩ : ∃ z, fVal W p L i = z := ⟨_, rfl⟩
      obtain ⟨DV, hDV⟩ : ∃ z, dTo W p L i = z := ⟨_, rfl⟩
      obtain ⟨DT, hDT⟩ : ∃ z, detL K1 (dropRow (flow W p L) i i) = z := ⟨_, rfl⟩
      obtain ⟨S, hSS⟩ : ∃ S, isum (podds W p t) = S := ⟨_, rfl⟩
      have HX := Lib.hid (show wr.heap[po]? = some (.cells #[.slice (some ⟨gn, 0, none⟩) m nc, .int .i64 DV] 80 (0, 0)) by rw [← hDV]; exact HX.out)
      rw [hFV, hDT, hSS] at HFV1
      rw [hFV] at HNS hfv
      rw [hFV, hDV] at HDS
      rw [hDV] at hdv
      have HSE := Lib.hid hSS
      have HDE := Lib.hid hDT
      have HLR := Lib.hid (show ∀ k, k < K → (rw_ (flow W p L) k).length = K from fun k hk => by have h := (HSQ.out.2 k (by rw [← HLK.out]; exact hk)).1; rw [← HLK.out] at h; exact h)
      have k5 : IntKind.i64.wrap (DT * S) = FV := by rw [← HFV1.out]; exact wrap_i64j _ (by omega) (by omega)
      have k6 : IntKind.i64.wrap (DV + FV) = DV + FV := wrap_i64j _ (by omega) (by omega)
      have HOR := Lib.hid hor
      have HOL := Lib.hid hol
      have hK14 : K1 ≤ 4 := by omega
      have hbx := HX.out
      have hpz := lt_of_block hbx
      obtain ⟨_, e1, hgt, hgz, hnc1, hnc2, hcl, hfr, ⟨cur, hcur⟩⟩ := own_cells HN.out (by omega)
      injection e1 with e1
      injection e1 with e1
      subst e1
      unfold maxLen at hnc2
      have hne : po ≠ gn := by
        intro e
        subst e
        rw [hbx] at hcur
        injection hcur with h1
        injection h1 with _ h2
        exact absurd h2 (by decide)
      have HNE := Lib.hid hne
      have HFRZ := Lib.hid (hfr t)
      obtain ⟨old, hold⟩ : ∃ old, wr.cell? ⟨gn, t, none⟩ = some old := ⟨_, hcl t _ (by rw [List.getElem?_map, List.getElem?_eq_getElem (by rw [nTo_len, HNA.out]; exact htm)]; rfl)⟩
      have HOLD := Lib.hid hold
      have hzw : pw < V.heap.size := (BoxW.cells HW.out).1
      have hnw : pw ≠ gn := by omega
      have hst0 : (0 : Int) ≤ (t : Int) := by omega
      have hstm : (t : Int) < (m : Int) := by omega
      have HSX := Lib.hid (fun (w' : World) (hb : Below wr.heap.size wr w') =>
        (show w'.cell? ⟨po, 0, none⟩ = some (.slice (some ⟨gn, 0, none⟩) m nc) ∧ w'.cell? ⟨pw, 0, none⟩ = some (.int .i64 W.a) ∧ w'.cell? ⟨pw, 1, none⟩ = some (.int .i64 W.b) ∧ w'.cell? ⟨pw, 2, none⟩ = some (.slice x m c) from
          have qw := BoxW.cells (persist HW.out (btr HB.out hb))
          ⟨by rw [cells_at (persist HX.out hb)]; rfl, qw.2.1, qw.2.2.1, qw.2.2.2⟩))
      have HSY := Lib.hid (fun (w' : World) (hb : Below wr.heap.size wr w') (v1 : Value) =>
        (show (w'.setCell ⟨gn, t, none⟩ v1).cell? ⟨po, 0, none⟩ = some (.slice (some ⟨gn, 0, none⟩) m nc) ∧ (w'.setCell ⟨gn, t, none⟩ v1).cell? ⟨pw, 0, none⟩ = some (.int .i64 W.a) ∧ (w'.setCell ⟨gn, t, none⟩ v1).cell? ⟨pw, 1, none⟩ = some (.int .i64 W.b) ∧ (w'.setCell ⟨gn, t, none⟩ v1).cell? ⟨pw, 2, none⟩ = some (.slice x m c) from
          have h := HSX.out _ hb
          have hA : ∀ (blk off : Nat), blk ≠ gn → (w'.setCell ⟨gn, t, none⟩ v1).cell? ⟨blk, off, none⟩ = w'.cell? ⟨blk, off, none⟩ := fun blk off hne => World.cell?_setCell_other _ _ _ _ (by intro e; injection e with e; exact hne e.symm)
          ⟨by rw [hA _ _ HNE.out]; exact h.1, by rw [hA _ _ hnw]; exact h.2.1, by rw [hA _ _ hnw]; exact h.2.2.1, by rw [hA _ _ hnw]; exact h.2.2.2⟩))
      have HSF := Lib.hid (fun (w' : World) (hb : Below wr.heap.size wr w') => (show w'.cell? ⟨gn, t, none⟩ = some old ∧ w'.frozen? ⟨gn, t, none⟩ = false ∧ gn < w'.heap.size from ⟨((bcell hb).1 _ _ hgz).trans HOLD.out, ((bcell hb).2 _ _ hgz).trans HFRZ.out, Nat.lt_of_lt_of_le hgz hb.size⟩))
      have HACT := Lib.hid (fun (w' : World) (hb : Below wr.heap.size wr w') => (act_goW V w' (btr HB.out hb) W.a W.b x y m c m d t W.acts p HA.out HP.out htm htm hpa.1 hpa.2).mono (R' := fun e w'' => ∃ z k q, e = .returned (av (pact W.acts p t).g z k q) ∧ Sl V z k q (podds W p t) ∧ k ≤ 8 ∧ Below w'.heap.size w' w'') fun e w'' ⟨z, k, q, h1, h2, h3⟩ => ⟨z, k, q, h1, by rw [HPO.out]; exact h2, by have h4 := h2.len; have h5 := HNA.out; have h6 := HOL.out; rw [HPO.out] at h6; omega, h3⟩)
      have HWO := Lib.hid (fun (w' : World) (hb : Below wr.heap.size wr w') => without_go w' ma K mc i i K (flow W p L) (by obtain ⟨a, cc, e, hs⟩ := (HM.out.mono hb).sl; rw [show (flow W p L).length = K from (HSQ.out.1).trans HLK.out.symm] at e hs; injection e with e1 e2 e3; subst e1 e3; exact hs) hK HLR.out hli (fun k hk hne => by omega) (by omega))
      have hD : Below wr.heap.size wr wr.drew := (Below.refl _ _).drew
      obtain ⟨r1, r2, r3, r4⟩ := HSX.out _ hD
      have hz1 : pw < wr.heap.size := by have := HB.out.size; omega
      clear hc0 hor ht hFV hDV hDT hSS hbx hcur hcl hfr hold hpa hol hK1
      go_wp2
      go_region_held3 (fun w' => w'.cell? ⟨po, 0, none⟩ = some (.slice (some ⟨gn, 0, none⟩) m nc) ∧ w'.cell? ⟨pw, 0, none⟩ = some (.int .i64 W.a) ∧ w'.cell? ⟨pw, 1, none⟩ = some (.int .i64 W.b) ∧ w'.cell? ⟨pw, 2, none⟩ = some (.slice x m c))
        (first | exact HSX.out _ hD | exact HSY.out _ hD _ | go_keep)
        (first
          | ((with_reducible refine (HWO.out _ hD).mono ?_); rintro e w' ⟨wa, wn, wc, rfl, hR, hb⟩; have HR1 := Lib.hid hR; replace hD := btr hD hb; clear hb hR)
          | ((with_reducible refine (det_own _ _ _ wa wn wc K1 _ HR1.out HSQ1.out hK14).mono ?_); rintro e w' ⟨rfl, hb⟩; rw [HDE.out]; replace hD := btr hD hb; clear hb)
          | ((with_reducible refine (HACT.out _ hD).mono ?_); rintro e w' ⟨z, k, q, rfl, hZ, hk8, hb⟩; replace hD := btr hD hb; clear hb)
          | ((with_reducible refine (sum_go _ _ z k q (podds W p t) (hZ.mono (btr HB.out hD)) hk8 HOR.out).mono ?_); rintro e w5 ⟨rfl, hb⟩; rw [HSE.out]; replace hD := btr hD hb; clear hb; obtain ⟨f1, f2, f3⟩ := HSF.out _ hD))
      have HM2 := Lib.hid ((HM.out.mono hD).keep (w' := (World.setCell w5 ⟨gn, t, none⟩ (.int .i64 FV))) fun b _ _ _ hbt _ _ => Below.heap_setCell _ _ _ b (by show b ≠ gn; omega))
      have HX2 := Lib.hid ((Below.heap_setCell w5 ⟨gn, t, none⟩ (.int .i64 FV) po HNE.out).trans (persist HX.out hD))
      have HN2 := Lib.hid (((own_mono HN.out hD).stored t (.int .i64 FV)).1)
      have HB2 := Lib.hid ((btr HB.out hD).setCell (p := ⟨gn, t, none⟩) (by show V.heap.size ≤ gn; omega) (.int .i64 FV))
      have hgf : (World.setCell w5 ⟨gn, t, none⟩ (.int .i64 FV)).cell? ⟨gn, t, none⟩ = some (.int .i64 FV) := World.cell?_setCell_same _ _ _ f1
      have hgs : gn < (World.setCell w5 ⟨gn, t, none⟩ (.int .i64 FV)).heap.size := by rw [World.size_setCell]; exact f3
      clear hD f1 f2 f3 r1 r2 r3 r4 HSX HSY HSF HWO HACT hZ
      obtain ⟨U, hU⟩ : ∃ U, (World.setCell w5 ⟨gn, t, none⟩ (.int .i64 FV)) = U := ⟨_, rfl⟩
      rw [hU] at HM2 HX2 HN2 HB2 hgf hgs ⊢
      clear hU
      have p0 : U.cell? ⟨po, 0, none⟩ = some (.slice (some ⟨gn, 0, none⟩) m nc) := by rw [cells_at HX2.out]; rfl
      have p1 : U.cell? ⟨po, 1, none⟩ = some (.int .i64 DV) := by rw [cells_at HX2.out]; rfl
      have p2 := free_at HX2.out 1
      have p3 := lt_of_block HX2.out
      go_wp2
      go_region
      have HX3 := Lib.hid (show (World.setCell U.drew ⟨po, 1, none⟩ (.int .i64 (DV + FV))).heap[po]? = some (.cells #[.slice (some ⟨gn, 0, none⟩) m nc, .int .i64 (dTo W p L (i + 1))] 80 (0, 0)) by rw [HDS.out]; exact set_at (persist HX2.out (Below.refl _ _).drew) 1 (.int .i64 (DV + FV)))
      have HM3 := Lib.hid ((HM2.out.mono (Below.refl _ _).drew).keep (w' := (World.setCell U.drew ⟨po, 1, none⟩ (.int .i64 (DV + FV)))) fun b _ _ _ hbt _ _ => Below.heap_setCell _ _ _ b (by show b ≠ po; omega))
      have HN3 := Lib.hid (show (World.setCell U.drew ⟨po, 1, none⟩ (.int .i64 (DV + FV))).ownsRow top 3 1 (.slice (some ⟨gn, 0, none⟩) m nc) m ((nTo W p L (i + 1)).map (Value.int .i64)) by
        refine own_keepB (w := U.drew) ?_ (fun b hb => Below.heap_setCell _ _ _ b ?_)
        · rw [HNS.out, List.map_set]; exact own_mono HN2.out (Below.refl _ _).drew
        · injection hb with hb; rw [← hb]; exact fun e => HNE.out e.symm)
      have HB3 := Lib.hid ((HB2.out.drew).setCell (p := ⟨po, 1, none⟩) (by show V.heap.size ≤ po; omega) (.int .i64 (DV + FV)))
      go_wp2
      go_roundw
      case rel => go_light; exact ⟨i + 1, by omega, by go_num, HM3, HB3, HX3, HN3⟩
      case measure => simp [intOf]; omega
    · obtain rfl : i = K := by omega
      go_wp2
      exact ⟨rfl, hexit _ _ _ _ _ _ _ _ _ _ _ _ _ _ _ _ _ _ _ _ _ _ _ _ _ _ _ _ _ _ _ _ _ HX.out HN.out HB.out⟩
end Go.Proofs.Ytcmakddnjmeklaa
