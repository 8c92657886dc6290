/- Chapter 9: the rest of a plan: what flows. -/
import Derived.Test.YtcmakddnjmeklaaVb
namespace Go.Proofs.Ytcmakddnjmeklaa
open Go.RowKit
set_option linter.unusedSimpArgs false

/-! ### the states that come again, as a list; what flows -/
def stL (X n : Nat) : List Nat := (List.range n).filter fun s => X.testBit s
def natI (L : List Nat) : List Int := L.map fun s => ((s : Nat) : Int)
def gN (L : List Nat) (i : Nat) : Nat := L.getD i 0
theorem stL_succ (X s : Nat) : stL X (s + 1) = stL X s ++ (if X.testBit s then [s] else []) := by
  unfold stL
  rw [List.range_succ, List.filter_append]
  congr 1
  cases h : X.testBit s <;> simp [h]
theorem natI_len {L : List Nat} : (natI L).length = L.length := by simp [natI]
theorem natI_at {L : List Nat} (i : Nat) : nth (natI L) i = (gN L i : Int) := by
  unfold nth natI gN
  rw [List.getD_eq_getElem?_getD, List.getElem?_map, List.getD_eq_getElem?_getD]
  cases L[i]? <;> rfl
theorem natI_app {A B : List Nat} : natI (A ++ B) = natI A ++ natI B := by simp [natI]
theorem gN_mem {L : List Nat} {i : Nat} (h : i < L.length) : gN L i ∈ L := by
  unfold gN
  rw [List.getD_eq_getElem?_getD, List.getElem?_eq_getElem h]
  exact List.getElem_mem h
theorem stL_lt {X n s : Nat} (h : s ∈ stL X n) : s < n := by
  unfold stL at h
  exact List.mem_range.1 (List.mem_filter.1 h).1
theorem stL_bit {X n s : Nat} (h : s ∈ stL X n) : X.testBit s = true := by
  unfold stL at h
  exact (List.mem_filter.1 h).2
theorem stL_mem {X n s : Nat} (h : s < n) (h2 : X.testBit s = true) : s ∈ stL X n := by
  unfold stL
  exact List.mem_filter.2 ⟨List.mem_range.2 h, h2⟩
theorem stL_len {X n : Nat} : (stL X n).length ≤ n := by
  unfold stL
  have := List.length_filter_le (fun s => X.testBit s) (List.range n)
  simpa using this
def fRow (W : Wd) (p : List Int) (L : List Nat) (s : Nat) : List Int := L.map fun k => -(nth (podds W p s) k)
def fBare (W : Wd) (p : List Int) (L : List Nat) : List (List Int) := L.map (fRow W p L)
theorem fRow_len {W : Wd} {p : List Int} {L : List Nat} {s : Nat} : (fRow W p L s).length = L.length := by simp [fRow]
theorem fRow_at {W : Wd} {p : List Int} {L : List Nat} {s k : Nat} (h : k < L.length) : nth (fRow W p L s) k = -(nth (podds W p s) (gN L k)) := by
  unfold fRow
  rw [nth_of_lt (by simpa using h), List.getElem_map]
  unfold gN
  rw [List.getD_eq_getElem?_getD, List.getElem?_eq_getElem h]; rfl
theorem fRow_snoc {W : Wd} {p : List Int} {L : List Nat} {s j : Nat} (h : j < L.length) : (fRow W p L s).take (j + 1) = (fRow W p L s).take j ++ [-(nth (podds W p s) (gN L j))] := by
  rw [take_nth (by rw [fRow_len]; exact h), fRow_at h]
theorem fBare_len {W : Wd} {p : List Int} {L : List Nat} : (fBare W p L).length = L.length := by simp [fBare]
theorem fBare_at {W : Wd} {p : List Int} {L : List Nat} {i : Nat} (h : i < L.length) : rw_ (fBare W p L) i = fRow W p L (gN L i) := by
  unfold rw_ fBare gN
  rw [List.getD_eq_getElem?_getD, List.getElem?_map, List.getElem?_eq_getElem h, List.getD_eq_getElem?_getD, List.getElem?_eq_getElem h]; rfl
theorem fBare_snoc {W : Wd} {p : List Int} {L : List Nat} {i : Nat} (h : i < L.length) : (fBare W p L).take (i + 1) = (fBare W p L).take i ++ [fRow W p L (gN L i)] := by
  rw [take_row (by rw [fBare_len]; exact h), fBare_at h]
noncomputable def rtBody (i : Nat) : Code := ((loopBodies (Try.f69.body.getD .skip))[i]?).getD .skip

set_option maxRecDepth 100000 in
set_option maxHeartbeats 4000000 in
theorem rt_flow (V : World) (pw n c m d K lc : Nat) (W : Wd) (x y la : Option Addr) (p : List Int) (L : List Nat) (hw : BoxW V pw W.a W.b x n c) (hA : A2Sl V x n c W.acts) (hp : Sl V y m d p) (hok : isPlanB W p = true) (hl : Sl V la K lc (natI L)) (hL : ∀ s ∈ L, s < n) (hK : K ≤ 4) (R : Act → World → Prop)
    (c0 c2 c4 c5 c6 c7 c8 c9 c11 c13 c14 c15 c16 c17 c18 c19 c20 c21 c22 c23 c24 c25 c26 c27 c28 c29 c30 c31 c32 c33 c34 c35 c36 c37 c38 c39 c40 c41 c42 c43 c44 c45 c46 c47 c48 c52 c53 c54 c55 c56 c57 c58 c59 c60 c61 c62 c63 c64 c65 c66 c67 c68 c69 c70 c71 c72 c73 c74 c75 c76 c77 c78 c79 c80 c81 c82 c83 c84 c85 c86 c87 c88 c89 c90 c91 c92 c93 c94 c95 c96 c97 c98 c99 c100 c101 c102 c103 c104 c105 c106 c107 c108 c109 c110 c111 c112 c113 c114 c115 c116 c117 c118 c119 c120 c121 c122 c123 c124 c125 c126 c127 c128 c129 c130 c131 c132 c133 c134 c135 c136 c137 c138 : Value)
    (hexit : ∀ (mv : Value), ∀ (u14 u15 u16 u18 u51 u52 u53 u54 u55 u56 u57 u58 u59 u60 u61 u62 u63 u64 u65 u66 u67 u68 u69 u70 u71 u72 u73 u74 u75 u76 u77 u78 u79 : Value) (w' : World), RwOwn w' V.heap.size w'.heap.size mv (fBare W p L) → Below V.heap.size V w' → R ⟨List.toArray (c0 :: .slice y m d :: c2 :: .pointer (some ⟨pw, 0, none⟩) :: c4 :: c5 :: c6 :: c7 :: c8 :: c9 :: .slice la K lc :: c11 :: mv :: c13 :: u14 :: u15 :: u16 :: c17 :: u18 :: c19 :: c20 :: c21 :: c22 :: c23 :: c24 :: c25 :: c26 :: c27 :: c28 :: c29 :: c30 :: c31 :: c32 :: c33 :: c34 :: c35 :: c36 :: c37 :: c38 :: c39 :: c40 :: c41 :: c42 :: c43 :: c44 :: c45 :: c46 :: c47 :: c48 :: .slice la K lc :: .int .i64 K :: u51 :: u52 :: u53 :: u54 :: u55 :: u56 :: u57 :: u58 :: u59 :: u60 :: u61 :: u62 :: u63 :: u64 :: u65 :: u66 :: u67 :: u68 :: u69 :: u70 :: u71 :: u72 :: u73 :: u74 :: u75 :: u76 :: u77 :: u78 :: u79 :: c80 :: c81 :: c82 :: c83 :: c84 :: c85 :: c86 :: c87 :: c88 :: c89 :: c90 :: c91 :: c92 :: c93 :: c94 :: c95 :: c96 :: c97 :: c98 :: c99 :: c100 :: c101 :: c102 :: c103 :: c104 :: c105 :: c106 :: c107 :: c108 :: c109 :: c110 :: c111 :: c112 :: c113 :: c114 :: c115 :: c116 :: c117 :: c118 :: c119 :: c120 :: c121 :: c122 :: c123 :: c124 :: c125 :: c126 :: c127 :: c128 :: c129 :: c130 :: c131 :: c132 :: c133 :: c134 :: c135 :: c136 :: c137 :: c138 :: []), []⟩ w') :
    Code.wp Try.prog (Code.loop (rtBody 1)) (OnExit 2 R) ⟨List.toArray (c0 :: .slice y m d :: c2 :: .pointer (some ⟨pw, 0, none⟩) :: c4 :: c5 :: c6 :: c7 :: c8 :: c9 :: .slice la K lc :: c11 :: .slice none 0 0 :: c13 :: c14 :: c15 :: c16 :: c17 :: c18 :: c19 :: c20 :: c21 :: c22 :: c23 :: c24 :: c25 :: c26 :: c27 :: c28 :: c29 :: c30 :: c31 :: c32 :: c33 :: c34 :: c35 :: c36 :: c37 :: c38 :: c39 :: c40 :: c41 :: c42 :: c43 :: c44 :: c45 :: c46 :: c47 :: c48 :: .slice la K lc :: .int .i64 K :: .int .i64 0 :: c52 :: c53 :: c54 :: c55 :: c56 :: c57 :: c58 :: c59 :: c60 :: c61 :: c62 :: c63 :: c64 :: c65 :: c66 :: c67 :: c68 :: c69 :: c70 :: c71 :: c72 :: c73 :: c74 :: c75 :: c76 :: c77 :: c78 :: c79 :: c80 :: c81 :: c82 :: c83 :: c84 :: c85 :: c86 :: c87 :: c88 :: c89 :: c90 :: c91 :: c92 :: c93 :: c94 :: c95 :: c96 :: c97 :: c98 :: c99 :: c100 :: c101 :: c102 :: c103 :: c104 :: c105 :: c106 :: c107 :: c108 :: c109 :: c110 :: c111 :: c112 :: c113 :: c114 :: c115 :: c116 :: c117 :: c118 :: c119 :: c120 :: c121 :: c122 :: c123 :: c124 :: c125 :: c126 :: c127 :: c128 :: c129 :: c130 :: c131 :: c132 :: c133 :: c134 :: c135 :: c136 :: c137 :: c138 :: []), []⟩ V := by
  conv => arg 2; arg 1; whnf
  have HVA := Lib.hid (fun s (hs : s < W.acts.length) => vAc_at (vAc_pact hok hs))
  obtain ⟨_, hpl, hpa, ⟨hn1, hn4, _⟩, _⟩ := plan_parts hok
  have hnA := hA.1
  have hmp := hp.len
  have hlK : K = L.length := by have := hl.len; rw [natI_len] at this; exact this.symm
  have hlcap := hl.cap
  unfold maxLen at hlcap
  obtain rfl : m = n := by omega
  have HNA := Lib.hid hnA
  have HLK := Lib.hid hlK
  have HLN := Lib.hid (show ∀ i, i < K → gN L i < m from fun i hi => hL _ (gN_mem (by omega)))
  have HPP := Lib.hid (show ∀ s, s < m → 0 ≤ nth p s ∧ nth p s < (acl W.acts s).length from fun s hs => hpa s (by omega))
  have hm4 : m ≤ 4 := by omega
  have HA := Lib.hid hA
  have HP := Lib.hid hp
  have HW := Lib.hid hw
  have HL := Lib.hid hl
  clear hA hp hw hl hok hpl hpa hnA hmp hn1 hn4 hL hlK
  go_loopw [12, 51] (fun v t2 wr => ∃ s : Nat, s ≤ K ∧ t2 = .int .i64 s ∧ Hid (RwOwn wr V.heap.size wr.heap.size v ((fBare W p L).take s)) ∧ Hid (Below V.heap.size V wr)) (fun _ t _ => K - (intOf t).toNat)
  case atStart => exact ⟨0, by omega, rfl, Lib.hid (RwOwn.nil _ _), Lib.hid (Below.refl _ _)⟩
  case round =>
    obtain ⟨s, hs, rfl, HO, HB⟩ := hrel
    by_cases hls : s < K
    · obtain ⟨t, ht⟩ : ∃ t, gN L s = t := ⟨_, rfl⟩
      have htm := HLN.out s hls
      rw [ht] at htm
      have HT := Lib.hid ht
      have htA : t < W.acts.length := by rw [HNA.out]; exact htm
      have hpa := HPP.out t htm
      obtain ⟨b0, o0, rfl, hb0, hc0⟩ := HL.out.at (by omega)
      have e0 := hc0 s hls
      rw [natI_at, ht, ← (bcell HB.out).1 _ _ hb0] at e0
      obtain ⟨zz, hh0, hh1, hh2⟩ := BoxW.cells (persist HW.out HB.out)
      clear hc0 ht
      go_wp2_with fail
      refine (act_goW V _ HB.out W.a W.b x y m c m d t W.acts p HA.out HP.out htm htm hpa.1 hpa.2).mono ?_
      rintro e w2 ⟨z, k, q, rfl, hZ, hb2⟩
      obtain ⟨_, _, hol, hor, _, _⟩ := HVA.out t htA
      have HPO := Lib.hid (show podds W p t = (pact W.acts p t).o from rfl)
      rw [← HPO.out] at hZ hol hor
      obtain ⟨gg, hgg⟩ : ∃ gg, (pact W.acts p t).g = gg := ⟨_, rfl⟩
      rw [hgg]
      have hkm : m = k := by have := hZ.len; have := HNA.out; omega
      subst hkm
      have hzc := hZ.cap
      unfold maxLen at hzc
      have HOR := Lib.hid hor
      have HOL := Lib.hid hol
      have HZ := Lib.hid hZ
      have HB2 := Lib.hid (bal hb2 (.cells #[.int .i64 gg, .slice z m q] 50))
      have HBX := Lib.hid (new_at w2 (.cells #[.int .i64 gg, .slice z m q] 50))
      have HVW := Lib.hid (btr HB.out HB2.out)
      have hzw := HB2.out.size
      have hzV := HB.out.size
      clear hor hol hZ hb2 zz hh0 hh1 hh2 hgg
      go_wp2
      generalize wr = U at *
      obtain ⟨T, hTT⟩ : ∃ T, w2.alloc (.cells #[.int .i64 gg, .slice z m q] 50) = T := ⟨_, rfl⟩
      rw [hTT] at HB2 HBX HVW hzw ⊢
      clear hTT
      go_loopw [16, 61] (fun v t2 wr => ∃ j : Nat, j ≤ K ∧ t2 = .int .i64 j ∧ Hid (wr.ownsRow T.heap.size 3 1 v j (((fRow W p L t).take j).map (Value.int .i64))) ∧ Hid (Below T.heap.size T wr)) (fun _ t2 _ => K - (intOf t2).toNat)
      case atStart => exact ⟨0, by omega, rfl, Lib.hid (World.ownsRow_nil _ _ _ _), Lib.hid (Below.refl _ _)⟩
      case round =>
        obtain ⟨j, hj, rfl, HR, HC⟩ := hrel
        obtain ⟨va, vc, rfl⟩ := own_form HR.out
        by_cases hlj : j < K
        · obtain ⟨u, hu⟩ : ∃ u, gN L j = u := ⟨_, rfl⟩
          have hum := HLN.out j hlj
          rw [hu] at hum
          have HF := Lib.hid (fRow_snoc (W := W) (p := p) (s := t) (L := L) (j := j) (by rw [← HLK.out]; exact hlj))
          rw [hu] at HF
          obtain ⟨b0', o0', e00, hb0', hc0⟩ := HL.out.at (by omega)
          injection e00 with e00
          injection e00 with e01 e02
          subst e01 e02
          have e3 := hc0 j hlj
          rw [natI_at, hu, ← (bcell (btr HVW.out HC.out)).1 _ _ hb0'] at e3
          obtain ⟨b1, o1, rfl, hb1, hc1⟩ := (HZ.out.mono (btr HVW.out HC.out)).at (by omega)
          have e4 := hc1 u hum
          have hy := HOR.out _ (nth_mem (l := podds W p t) (k := u) (by rw [HOL.out, HNA.out]; exact hum))
          have hbx := persist HBX.out HC.out
          have q0 : wr.cell? ⟨w2.heap.size, 0, none⟩ = some (.int .i64 gg) := by rw [cells_at hbx]; rfl
          have q1 : wr.cell? ⟨w2.heap.size, 1, none⟩ = some (.slice (some ⟨b1, o1, none⟩) m q) := by rw [cells_at hbx]; rfl
          have q2 := lt_of_block hbx
          have hwz := HC.out.size
          have hum0 : (0 : Int) ≤ (u : Int) := by omega
          have humm : (u : Int) < (m : Int) := by omega
          have k5 : IntKind.i64.wrap (-(nth (podds W p t) u)) = -(nth (podds W p t) u) := wrap_i64j _ (by omega) (by omega)
          generalize nth (podds W p t) u = yy at *
          have hown := HR.out
          clear hc0 hc1 hbx hu hb0
          go_wp2_with (at_builtin; refine wpList_app1 rfl _ _ 26 rfl Try.underlying26 infoInt rfl (by decide) T.heap.size (.slice va j vc) j _ rfl (hown.alloc _) wr.heap.size #[.int .i64 (-yy)] rfl (new_at _ _) rfl (by simp [Value.oneCell']) (by omega) (by omega) (by simp; omega) ?_; intro v' wn hown' hgrow; obtain ⟨wa, wc, rfl⟩ := own_form hown')
          have HO2 := Lib.hid (show wn.ownsRow T.heap.size 3 1 (.slice wa (j + 1) wc) (j + 1) (((fRow W p L t).take (j + 1)).map (Value.int .i64)) by rw [HF.out, List.map_append]; exact hown')
          have HBN := Lib.hid ((bal HC.out (.cells #[.int .i64 (-yy)] 3)).grown hgrow (by simp; omega) (fun i hi => (hown.lt i hi).1))
          clear hown hown' hgrow q0 q1
          go_wp2
          go_roundw
          case rel => go_light; exact ⟨j + 1, by omega, by go_num, HO2, HBN⟩
          case measure => simp [intOf]; omega
        · obtain rfl : j = K := by omega
          have hR := HR.out
          rw [List.take_of_length_le (by rw [fRow_len, ← HLK.out]; exact Nat.le_refl _)] at hR
          obtain ⟨E, D, hT⟩ := HO.out
          have hlen : ((fBare W p L).take s).length = s := by rw [List.length_take, fBare_len, ← HLK.out]; omega
          have hmown := hT.1.1
          rw [hlen] at hmown
          obtain ⟨ma, mc, rfl⟩ := own_form hmown
          have HT2 := Lib.hid hT
          have HLEN := Lib.hid hlen
          have hUw : Below U.heap.size U wr := btr HB2.out HC.out
          have HUW := Lib.hid hUw
          have hRb := own_base hR HB2.out.size
          have HRB := Lib.hid (show wr.ownsRow U.heap.size 3 1 (.slice va j vc) (fRow W p L t).length ((fRow W p L t).map (Value.int .i64)) by rw [fRow_len, ← HLK.out]; exact hRb)
          have hsz := hUw.size
          clear hR hT hRb hlen hUw
          go_wp2_with (at_builtin; refine wpList_app1 rfl _ _ 103 rfl Try.underlying103 infoSl rfl (by decide) V.heap.size (.slice ma s mc) s _ rfl ((own_mono hmown HUW.out).alloc _) wr.heap.size #[.slice va j vc] rfl (new_at _ _) rfl (by simp [Value.oneCell']) (by omega) (by omega) (by simp; omega) ?_; intro v' wn hown' hgrow; obtain ⟨na, nc, rfl⟩ := own_form hown')
          have HNEW := Lib.hid (show RwOwn wn V.heap.size wn.heap.size (.slice na (s + 1) nc) ((fBare W p L).take (s + 1)) by
            rw [fBare_snoc (by rw [← HLK.out]; exact hls), HT.out]
            exact RwTr.snoc HT2.out hzV HUW.out HRB.out (by rw [HLEN.out]; exact hown') hgrow)
          have HBN := Lib.hid ((bal (btr HB.out HUW.out) (.cells #[.slice va j vc] 26)).grown hgrow (by simp; omega) (fun i hi => (hmown.lt i hi).1))
          clear hmown hown' hgrow
          go_wp2
          go_roundw
          case rel => go_light; exact ⟨s + 1, by omega, by go_num, HNEW, HBN⟩
          case measure => simp [intOf]; omega
    · obtain rfl : s = K := by omega
      have HO2 := Lib.hid (show RwOwn wr V.heap.size wr.heap.size _ (fBare W p L) by have h := HO.out; rw [List.take_of_length_le (by rw [fBare_len, ← HLK.out]; exact Nat.le_refl _)] at h; exact h)
      go_wp2
      exact ⟨rfl, hexit _ _ _ _ _ _ _ _ _ _ _ _ _ _ _ _ _ _ _ _ _ _ _ _ _ _ _ _ _ _ _ _ _ _ _ HO2.out HB.out⟩
end Go.Proofs.Ytcmakddnjmeklaa
