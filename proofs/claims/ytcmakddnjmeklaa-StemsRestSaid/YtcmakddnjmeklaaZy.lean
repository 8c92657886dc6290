/- Chapter 9, walks: the reference's Valid, Plan; fine. -/
import Derived.Test.YtcmakddnjmeklaaZx
namespace Go.Proofs.Ytcmakddnjmeklaa
open Go.RowKit

def OnEnd (k : Nat) (R S : Act → World → Prop) : Exit → Act → World → Prop
  | .exit n, a, w => n = k ∧ R a w
  | .ret, a, w => S a w
  | _, _, _ => False
theorem wp_onEnd {P : Program} {c : Code} {k : Nat} {Q : Exit → Act → World → Prop} {a : Act} {w : World} (h : Code.wp P c (OnEnd k (fun a w => Q (.exit k) a w) (fun a w => Q .ret a w)) a w) : Code.wp P c Q a w :=
  wp_mono h fun e a w hq => by
    cases e with
    | exit n => obtain ⟨rfl, h⟩ := hq; exact h
    | ret => exact hq
    | _ => exact hq.elim
noncomputable def rvBody (i : Nat) : Code := ((loopBodies (Try.f25.body.getD .skip))[i]?).getD .skip

set_option maxRecDepth 100000 in
set_option maxHeartbeats 1000000 in
theorem rv_odds (w : World) (z : Option Addr) (k q : Nat) (l : List Int) (hs : Sl w z k q l) (R S : Act → World → Prop)
    (c0 c1 c2 c3 c4 c5 c6 c7 c8 c9 c10 c11 c12 c13 c14 c15 c16 c17 c18 c19 c20 c21 c22 c23 c24 c25 c26 c27 c28 c29 c30 c31 c32 c33 c34 c35 c36 c37 c38 c39 c40 c41 c42 c43 c44 c45 c46 c47 c48 c49 c50 c51 c52 c53 c54 c55 c56 c57 c58 c59 c60 c61 c62 c63 c64 c65 c66 c67 c68 c69 c70 c71 c72 c73 c74 c75 c76 c80 c81 c82 c83 c84 c85 c86 c87 c88 c89 c90 c91 c92 c93 c94 c95 : Value)
    (hexit : Hid ((∀ x ∈ l, 0 ≤ x ∧ x ≤ 3) → ∀ (u2 u9 u79 u80 u81 u82 u83 u84 u85 u86 u87 u88 u89 : Value), R ⟨List.toArray (c0 :: c1 :: u2 :: c3 :: c4 :: c5 :: c6 :: c7 :: c8 :: u9 :: c10 :: c11 :: c12 :: c13 :: c14 :: c15 :: c16 :: c17 :: c18 :: c19 :: c20 :: c21 :: c22 :: c23 :: c24 :: c25 :: c26 :: c27 :: c28 :: c29 :: c30 :: c31 :: c32 :: c33 :: c34 :: c35 :: c36 :: c37 :: c38 :: c39 :: c40 :: c41 :: c42 :: c43 :: c44 :: c45 :: c46 :: c47 :: c48 :: c49 :: c50 :: c51 :: c52 :: c53 :: c54 :: c55 :: c56 :: c57 :: c58 :: c59 :: c60 :: c61 :: c62 :: c63 :: c64 :: c65 :: c66 :: c67 :: c68 :: c69 :: c70 :: c71 :: c72 :: c73 :: c74 :: c75 :: c76 :: .slice z k q :: .int .i64 k :: u79 :: u80 :: u81 :: u82 :: u83 :: u84 :: u85 :: u86 :: u87 :: u88 :: u89 :: c90 :: c91 :: c92 :: c93 :: c94 :: c95 :: []), []⟩ w))
    (hret : Hid ((∃ x ∈ l, x < 0 ∨ 3 < x) → ∀ (u9 u79 u80 u81 u82 u83 u84 u85 u86 u87 u88 u89 : Value), S ⟨List.toArray (c0 :: c1 :: .bool false :: c3 :: c4 :: c5 :: c6 :: c7 :: c8 :: u9 :: c10 :: c11 :: c12 :: c13 :: c14 :: c15 :: c16 :: c17 :: c18 :: c19 :: c20 :: c21 :: c22 :: c23 :: c24 :: c25 :: c26 :: c27 :: c28 :: c29 :: c30 :: c31 :: c32 :: c33 :: c34 :: c35 :: c36 :: c37 :: c38 :: c39 :: c40 :: c41 :: c42 :: c43 :: c44 :: c45 :: c46 :: c47 :: c48 :: c49 :: c50 :: c51 :: c52 :: c53 :: c54 :: c55 :: c56 :: c57 :: c58 :: c59 :: c60 :: c61 :: c62 :: c63 :: c64 :: c65 :: c66 :: c67 :: c68 :: c69 :: c70 :: c71 :: c72 :: c73 :: c74 :: c75 :: c76 :: .slice z k q :: .int .i64 k :: u79 :: u80 :: u81 :: u82 :: u83 :: u84 :: u85 :: u86 :: u87 :: u88 :: u89 :: c90 :: c91 :: c92 :: c93 :: c94 :: c95 :: []), []⟩ w)) :
    Code.wp Try.prog (Code.loop (rvBody 2)) (OnEnd 4 R S) ⟨List.toArray (c0 :: c1 :: c2 :: c3 :: c4 :: c5 :: c6 :: c7 :: c8 :: c9 :: c10 :: c11 :: c12 :: c13 :: c14 :: c15 :: c16 :: c17 :: c18 :: c19 :: c20 :: c21 :: c22 :: c23 :: c24 :: c25 :: c26 :: c27 :: c28 :: c29 :: c30 :: c31 :: c32 :: c33 :: c34 :: c35 :: c36 :: c37 :: c38 :: c39 :: c40 :: c41 :: c42 :: c43 :: c44 :: c45 :: c46 :: c47 :: c48 :: c49 :: c50 :: c51 :: c52 :: c53 :: c54 :: c55 :: c56 :: c57 :: c58 :: c59 :: c60 :: c61 :: c62 :: c63 :: c64 :: c65 :: c66 :: c67 :: c68 :: c69 :: c70 :: c71 :: c72 :: c73 :: c74 :: c75 :: c76 :: .slice z k q :: .int .i64 k :: .int .i64 0 :: c80 :: c81 :: c82 :: c83 :: c84 :: c85 :: c86 :: c87 :: c88 :: c89 :: c90 :: c91 :: c92 :: c93 :: c94 :: c95 :: []), []⟩ w := by
  conv => arg 2; arg 1; whnf
  have HL := Lib.hid hs.len
  have hcap := hs.cap
  unfold maxLen at hcap
  have HS := Lib.hid hs
  clear hs
  go_loopw [79] (fun t wr => ∃ i : Nat, i ≤ k ∧ t = .int .i64 i ∧ Hid (∀ j, j < i → 0 ≤ nth l j ∧ nth l j ≤ 3) ∧ w = wr) (fun t _ => k - (intOf t).toNat)
  case atStart => exact ⟨0, by omega, rfl, Lib.hid (fun j hj => by omega), rfl⟩
  case round =>
    obtain ⟨i, hi, rfl, HR, rfl⟩ := hrel
    by_cases hl : i < k
    · obtain ⟨b, off, rfl, hb, hc⟩ := HS.out.at (by omega)
      have hci := hc i hl
      obtain ⟨v, hv⟩ : ∃ v, nth l i = v := ⟨_, rfl⟩
      have HV := Lib.hid hv
      rw [hv] at hci
      clear hc hv
      have hmem := Lib.hid (show v ∈ l by rw [← HV.out]; exact nth_mem (by rw [HL.out]; exact hl))
      by_cases q1 : v < 0
      · have d1 : decide (v < 0) = true := by simpa using q1
        go_wp2
        exact hret.out ⟨v, hmem.out, .inl q1⟩ _ _ _ _ _ _ _ _ _ _ _ _
      · have d1 : decide (v < 0) = false := by simpa using q1
        by_cases q2 : 3 < v
        · have d2 : decide (3 < v) = true := by simpa using q2
          go_wp2
          exact hret.out ⟨v, hmem.out, .inr q2⟩ _ _ _ _ _ _ _ _ _ _ _ _
        · have d2 : decide (3 < v) = false := by simpa using q2
          go_wp2
          go_roundw
          case rel =>
            go_light
            refine ⟨i + 1, by omega, by go_num, Lib.hid (fun j hj => ?_), by trivial⟩
            by_cases e : j = i
            · rw [e, HV.out]; omega
            · exact HR.out j (by omega)
          case measure => simp [intOf]; omega
    · obtain rfl : i = k := by omega
      go_wp2
      refine ⟨rfl, hexit.out (fun x hx => ?_) _ _ _ _ _ _ _ _ _ _ _ _ _⟩
      obtain ⟨j, hj, rfl⟩ := List.getElem_of_mem hx
      rw [← nth_of_lt hj]
      exact HR.out j (by rw [← HL.out]; exact hj)

set_option maxRecDepth 100000 in
set_option maxHeartbeats 1000000 in
theorem rv_acts (w : World) (z : Option Addr) (k q n : Nat) (A : List Ac) (hA : AcSl w z k q A) (hn : n ≤ 4) (R S : Act → World → Prop)
    (W : World) (hB0 : Below w.heap.size w W) (c0 c1 c2 c4 c5 c6 c7 c8 c9 c10 c11 c12 c13 c14 c15 c16 c17 c18 c19 c20 c21 c22 c23 c24 c25 c26 c27 c28 c29 c30 c31 c32 c33 c34 c35 c36 c37 c38 c39 c40 c41 c42 c43 c44 c45 c46 c47 c48 c49 c50 c51 c52 c53 c54 c58 c59 c60 c61 c62 c63 c64 c65 c66 c67 c68 c69 c70 c71 c72 c73 c74 c75 c76 c77 c78 c79 c80 c81 c82 c83 c84 c85 c86 c87 c88 c89 c90 c91 c92 c93 c94 c95 : Value)
    (hexit : Hid ((∀ j, j < k → vAc n (ac A j) = true) → ∀ (u2 u7 u9 u57 u58 u59 u60 u61 u62 u63 u64 u65 u66 u67 u68 u69 u70 u71 u72 u73 u74 u75 u76 u77 u78 u79 u80 u81 u82 u83 u84 u85 u86 u87 u88 u89 u90 u91 u92 u93 u94 : Value) (w' : World), Below w.heap.size w w' → R ⟨List.toArray (c0 :: c1 :: u2 :: .int .i64 n :: c4 :: c5 :: c6 :: u7 :: c8 :: u9 :: c10 :: c11 :: c12 :: c13 :: c14 :: c15 :: c16 :: c17 :: c18 :: c19 :: c20 :: c21 :: c22 :: c23 :: c24 :: c25 :: c26 :: c27 :: c28 :: c29 :: c30 :: c31 :: c32 :: c33 :: c34 :: c35 :: c36 :: c37 :: c38 :: c39 :: c40 :: c41 :: c42 :: c43 :: c44 :: c45 :: c46 :: c47 :: c48 :: c49 :: c50 :: c51 :: c52 :: c53 :: c54 :: .slice z k q :: .int .i64 k :: u57 :: u58 :: u59 :: u60 :: u61 :: u62 :: u63 :: u64 :: u65 :: u66 :: u67 :: u68 :: u69 :: u70 :: u71 :: u72 :: u73 :: u74 :: u75 :: u76 :: u77 :: u78 :: u79 :: u80 :: u81 :: u82 :: u83 :: u84 :: u85 :: u86 :: u87 :: u88 :: u89 :: u90 :: u91 :: u92 :: u93 :: u94 :: c95 :: []), []⟩ w'))
    (hret : Hid ((∃ j, j < k ∧ vAc n (ac A j) = false) → ∀ (u7 u9 u57 u58 u59 u60 u61 u62 u63 u64 u65 u66 u67 u68 u69 u70 u71 u72 u73 u74 u75 u76 u77 u78 u79 u80 u81 u82 u83 u84 u85 u86 u87 u88 u89 u90 u91 u92 u93 u94 : Value) (w' : World), Below w.heap.size w w' → S ⟨List.toArray (c0 :: c1 :: .bool false :: .int .i64 n :: c4 :: c5 :: c6 :: u7 :: c8 :: u9 :: c10 :: c11 :: c12 :: c13 :: c14 :: c15 :: c16 :: c17 :: c18 :: c19 :: c20 :: c21 :: c22 :: c23 :: c24 :: c25 :: c26 :: c27 :: c28 :: c29 :: c30 :: c31 :: c32 :: c33 :: c34 :: c35 :: c36 :: c37 :: c38 :: c39 :: c40 :: c41 :: c42 :: c43 :: c44 :: c45 :: c46 :: c47 :: c48 :: c49 :: c50 :: c51 :: c52 :: c53 :: c54 :: .slice z k q :: .int .i64 k :: u57 :: u58 :: u59 :: u60 :: u61 :: u62 :: u63 :: u64 :: u65 :: u66 :: u67 :: u68 :: u69 :: u70 :: u71 :: u72 :: u73 :: u74 :: u75 :: u76 :: u77 :: u78 :: u79 :: u80 :: u81 :: u82 :: u83 :: u84 :: u85 :: u86 :: u87 :: u88 :: u89 :: u90 :: u91 :: u92 :: u93 :: u94 :: c95 :: []), []⟩ w')) :
    Code.wp Try.prog (Code.loop (rvBody 1)) (OnEnd 2 R S) ⟨List.toArray (c0 :: c1 :: c2 :: .int .i64 n :: c4 :: c5 :: c6 :: c7 :: c8 :: c9 :: c10 :: c11 :: c12 :: c13 :: c14 :: c15 :: c16 :: c17 :: c18 :: c19 :: c20 :: c21 :: c22 :: c23 :: c24 :: c25 :: c26 :: c27 :: c28 :: c29 :: c30 :: c31 :: c32 :: c33 :: c34 :: c35 :: c36 :: c37 :: c38 :: c39 :: c40 :: c41 :: c42 :: c43 :: c44 :: c45 :: c46 :: c47 :: c48 :: c49 :: c50 :: c51 :: c52 :: c53 :: c54 :: .slice z k q :: .int .i64 k :: .int .i64 0 :: c58 :: c59 :: c60 :: c61 :: c62 :: c63 :: c64 :: c65 :: c66 :: c67 :: c68 :: c69 :: c70 :: c71 :: c72 :: c73 :: c74 :: c75 :: c76 :: c77 :: c78 :: c79 :: c80 :: c81 :: c82 :: c83 :: c84 :: c85 :: c86 :: c87 :: c88 :: c89 :: c90 :: c91 :: c92 :: c93 :: c94 :: c95 :: []), []⟩ W := by
  conv => arg 2; arg 1; whnf
  have HL := Lib.hid hA.1
  have hcap := hA.2.cap
  unfold maxLen at hcap
  have HA := Lib.hid hA
  clear hA
  go_loopw [57] (fun t wr => ∃ i : Nat, i ≤ k ∧ t = .int .i64 i ∧ Hid (∀ j, j < i → vAc n (ac A j) = true) ∧ Below w.heap.size w wr) (fun t _ => k - (intOf t).toNat)
  case atStart => exact ⟨0, by omega, rfl, Lib.hid (fun j hj => by omega), hB0⟩
  case round =>
    clear hB0
    obtain ⟨i, hi, rfl, HR, hB⟩ := hrel
    by_cases hl : i < k
    · obtain ⟨b, off, rfl, hb, hc⟩ := (HA.out.mono hB).at (by omega)
      obtain ⟨eg, z2, k2, r2, eo, hS⟩ := hc i hl
      obtain ⟨g, hg⟩ : ∃ g, (ac A i).g = g := ⟨_, rfl⟩
      obtain ⟨l, hl2⟩ : ∃ l, (ac A i).o = l := ⟨_, rfl⟩
      have HG := Lib.hid (show ac A i = ⟨g, l⟩ by rw [← hg, ← hl2])
      rw [hg] at eg
      rw [hl2] at hS
      have hlen := hS.len
      have HS := Lib.hid (hS.mono (bal (Below.refl wr.heap.size wr) (.cells #[.int .i64 g, .slice z2 k2 r2] 42)))
      have HB2 := Lib.hid (bal hB (.cells #[.int .i64 g, .slice z2 k2 r2] 42))
      clear hc hS hg hl2 hB
      by_cases q1 : -9 ≤ g ∧ g ≤ 9
      · obtain ⟨q1, q2⟩ := q1
        have d1 : decide (g < -9) = false := by simp; omega
        have d2 : decide (9 < g) = false := by simp; omega
        by_cases q3 : k2 = n
        · subst q3
          have d3 : ((k2 : Int) != (k2 : Int)) = false := by simp
          have HLEN := Lib.hid hlen
          clear hlen
          go_wp2
          refine wp_onEnd (k := 4) (rv_odds _ z2 k2 r2 l HS.out _ _ _ _ _ _ _ _ _ _ _ _ _ _ _ _ _ _ _ _ _ _ _ _ _ _ _ _ _ _ _ _ _ _ _ _ _ _ _ _ _ _ _ _ _ _ _ _ _ _ _ _ _ _ _ _ _ _ _ _ _ _ _ _ _ _ _ _ _ _ _ _ _ _ _ _ _ _ _ _ _ _ _ _ _ _ _ _ _ _ _ _ _ _ _ (Lib.hid fun hodds => ?_) (Lib.hid fun hbad => ?_))
          · intro v2 v9 v79 v80 v81 v82 v83 v84 v85 v86 v87 v88 v89
            have HO := Lib.hid hodds
            have HSUM := Lib.hid (vAc_sum q1 q2 HLEN.out hodds)
            have hnn := isum_bound hodds (by omega)
            clear hodds
            go_wp2_with fail
            refine (rsum_go _ z2 k2 r2 l HS.out (by omega) HO.out).mono ?_
            rintro e w3 ⟨rfl, rfl⟩
            by_cases q5 : isum l = 0
            · have d5 : (isum l == 0) = true := by simpa using q5
              have hbad : ∃ j, j < k ∧ vAc k2 (ac A j) = false := ⟨i, hl, by rw [HG.out, HSUM.out, q5]; rfl⟩
              have HBAD := Lib.hid hbad
              clear hbad q5
              generalize isum l = s at *
              go_wp2
              exact hret.out HBAD.out _ _ _ _ _ _ _ _ _ _ _ _ _ _ _ _ _ _ _ _ _ _ _ _ _ _ _ _ _ _ _ _ _ _ _ _ _ _ _ _ _ HB2.out
            · have d5 : (isum l == 0) = false := by simpa using q5
              have HGOOD := Lib.hid (show ∀ j, j < i + 1 → vAc k2 (ac A j) = true from fun j hj => by
                by_cases e : j = i
                · rw [e, HG.out, HSUM.out]; simp; omega
                · exact HR.out j (by omega))
              clear q5
              generalize isum l = s at *
              go_wp2
              go_roundw
              case rel => go_light; exact ⟨i + 1, by omega, by go_num, HGOOD, HB2.out⟩
              case measure => simp [intOf]; omega
          · intro v9 v79 v80 v81 v82 v83 v84 v85 v86 v87 v88 v89
            have HBAD := Lib.hid (show ∃ j, j < k ∧ vAc k2 (ac A j) = false from ⟨i, hl, by rw [HG.out]; exact vAc_odds hbad⟩)
            clear hbad
            go_wp2
            exact hret.out HBAD.out _ _ _ _ _ _ _ _ _ _ _ _ _ _ _ _ _ _ _ _ _ _ _ _ _ _ _ _ _ _ _ _ _ _ _ _ _ _ _ _ _ HB2.out
        · have d3 : ((k2 : Int) != (n : Int)) = true := by simp; omega
          have HBAD := Lib.hid (show ∃ j, j < k ∧ vAc n (ac A j) = false from ⟨i, hl, by rw [HG.out]; exact vAc_len (by omega)⟩)
          clear hlen q3
          go_wp2
          exact hret.out HBAD.out _ _ _ _ _ _ _ _ _ _ _ _ _ _ _ _ _ _ _ _ _ _ _ _ _ _ _ _ _ _ _ _ _ _ _ _ _ _ _ _ _ HB2.out
      · have HBAD := Lib.hid (show ∃ j, j < k ∧ vAc n (ac A j) = false from ⟨i, hl, by rw [HG.out]; exact vAc_gain q1⟩)
        by_cases q1' : g < -9
        · have d1 : decide (g < -9) = true := by simpa using q1'
          clear q1
          go_wp2
          exact hret.out HBAD.out _ _ _ _ _ _ _ _ _ _ _ _ _ _ _ _ _ _ _ _ _ _ _ _ _ _ _ _ _ _ _ _ _ _ _ _ _ _ _ _ _ HB2.out
        · have d1 : decide (g < -9) = false := by simpa using q1'
          have d2 : decide (9 < g) = true := by simp; omega
          clear q1
          go_wp2
          exact hret.out HBAD.out _ _ _ _ _ _ _ _ _ _ _ _ _ _ _ _ _ _ _ _ _ _ _ _ _ _ _ _ _ _ _ _ _ _ _ _ _ _ _ _ _ HB2.out
    · obtain rfl : i = k := by omega
      go_wp2
      exact ⟨rfl, hexit.out HR.out _ _ _ _ _ _ _ _ _ _ _ _ _ _ _ _ _ _ _ _ _ _ _ _ _ _ _ _ _ _ _ _ _ _ _ _ _ _ _ _ _ _ hB⟩

set_option maxRecDepth 100000 in
set_option maxHeartbeats 1000000 in
theorem rv_lists (w : World) (x : Option Addr) (n c : Nat) (A : List (List Ac)) (hA : A2Sl w x n c A) (hn : n ≤ 4) (R S : Act → World → Prop)
    (W : World) (hB0 : Below w.heap.size w W) (c0 c1 c2 c4 c5 c6 c7 c8 c9 c10 c11 c12 c13 c14 c15 c16 c17 c18 c19 c20 c21 c22 c23 c24 c25 c26 c27 c28 c29 c30 c31 c32 c33 c34 c35 c36 c37 c38 c39 c40 c44 c45 c46 c47 c48 c49 c50 c51 c52 c53 c54 c55 c56 c57 c58 c59 c60 c61 c62 c63 c64 c65 c66 c67 c68 c69 c70 c71 c72 c73 c74 c75 c76 c77 c78 c79 c80 c81 c82 c83 c84 c85 c86 c87 c88 c89 c90 c91 c92 c93 c94 c95 : Value)
    (hexit : Hid ((∀ j, j < n → vAcs n (acl A j) = true) → ∀ (u2 u5 u7 u9 u43 u44 u45 u46 u47 u48 u49 u50 u51 u52 u53 u54 u55 u56 u57 u58 u59 u60 u61 u62 u63 u64 u65 u66 u67 u68 u69 u70 u71 u72 u73 u74 u75 u76 u77 u78 u79 u80 u81 u82 u83 u84 u85 u86 u87 u88 u89 u90 u91 u92 u93 u94 u95 : Value) (w' : World), Below w.heap.size w w' → R ⟨List.toArray (c0 :: c1 :: u2 :: .int .i64 n :: c4 :: u5 :: c6 :: u7 :: c8 :: u9 :: c10 :: c11 :: c12 :: c13 :: c14 :: c15 :: c16 :: c17 :: c18 :: c19 :: c20 :: c21 :: c22 :: c23 :: c24 :: c25 :: c26 :: c27 :: c28 :: c29 :: c30 :: c31 :: c32 :: c33 :: c34 :: c35 :: c36 :: c37 :: c38 :: c39 :: c40 :: .slice x n c :: .int .i64 n :: u43 :: u44 :: u45 :: u46 :: u47 :: u48 :: u49 :: u50 :: u51 :: u52 :: u53 :: u54 :: u55 :: u56 :: u57 :: u58 :: u59 :: u60 :: u61 :: u62 :: u63 :: u64 :: u65 :: u66 :: u67 :: u68 :: u69 :: u70 :: u71 :: u72 :: u73 :: u74 :: u75 :: u76 :: u77 :: u78 :: u79 :: u80 :: u81 :: u82 :: u83 :: u84 :: u85 :: u86 :: u87 :: u88 :: u89 :: u90 :: u91 :: u92 :: u93 :: u94 :: u95 :: []), []⟩ w'))
    (hret : Hid ((∃ j, j < n ∧ vAcs n (acl A j) = false) → ∀ (u5 u7 u9 u43 u44 u45 u46 u47 u48 u49 u50 u51 u52 u53 u54 u55 u56 u57 u58 u59 u60 u61 u62 u63 u64 u65 u66 u67 u68 u69 u70 u71 u72 u73 u74 u75 u76 u77 u78 u79 u80 u81 u82 u83 u84 u85 u86 u87 u88 u89 u90 u91 u92 u93 u94 u95 : Value) (w' : World), Below w.heap.size w w' → S ⟨List.toArray (c0 :: c1 :: .bool false :: .int .i64 n :: c4 :: u5 :: c6 :: u7 :: c8 :: u9 :: c10 :: c11 :: c12 :: c13 :: c14 :: c15 :: c16 :: c17 :: c18 :: c19 :: c20 :: c21 :: c22 :: c23 :: c24 :: c25 :: c26 :: c27 :: c28 :: c29 :: c30 :: c31 :: c32 :: c33 :: c34 :: c35 :: c36 :: c37 :: c38 :: c39 :: c40 :: .slice x n c :: .int .i64 n :: u43 :: u44 :: u45 :: u46 :: u47 :: u48 :: u49 :: u50 :: u51 :: u52 :: u53 :: u54 :: u55 :: u56 :: u57 :: u58 :: u59 :: u60 :: u61 :: u62 :: u63 :: u64 :: u65 :: u66 :: u67 :: u68 :: u69 :: u70 :: u71 :: u72 :: u73 :: u74 :: u75 :: u76 :: u77 :: u78 :: u79 :: u80 :: u81 :: u82 :: u83 :: u84 :: u85 :: u86 :: u87 :: u88 :: u89 :: u90 :: u91 :: u92 :: u93 :: u94 :: u95 :: []), []⟩ w')) :
    Code.wp Try.prog (Code.loop (rvBody 0)) (OnEnd 0 R S) ⟨List.toArray (c0 :: c1 :: c2 :: .int .i64 n :: c4 :: c5 :: c6 :: c7 :: c8 :: c9 :: c10 :: c11 :: c12 :: c13 :: c14 :: c15 :: c16 :: c17 :: c18 :: c19 :: c20 :: c21 :: c22 :: c23 :: c24 :: c25 :: c26 :: c27 :: c28 :: c29 :: c30 :: c31 :: c32 :: c33 :: c34 :: c35 :: c36 :: c37 :: c38 :: c39 :: c40 :: .slice x n c :: .int .i64 n :: .int .i64 0 :: c44 :: c45 :: c46 :: c47 :: c48 :: c49 :: c50 :: c51 :: c52 :: c53 :: c54 :: c55 :: c56 :: c57 :: c58 :: c59 :: c60 :: c61 :: c62 :: c63 :: c64 :: c65 :: c66 :: c67 :: c68 :: c69 :: c70 :: c71 :: c72 :: c73 :: c74 :: c75 :: c76 :: c77 :: c78 :: c79 :: c80 :: c81 :: c82 :: c83 :: c84 :: c85 :: c86 :: c87 :: c88 :: c89 :: c90 :: c91 :: c92 :: c93 :: c94 :: c95 :: []), []⟩ W := by
  conv => arg 2; arg 1; whnf
  have hcap := hA.2.cap
  unfold maxLen at hcap
  have HA := Lib.hid hA
  clear hA
  go_loopw [43] (fun t wr => ∃ i : Nat, i ≤ n ∧ t = .int .i64 i ∧ Hid (∀ j, j < i → vAcs n (acl A j) = true) ∧ Below w.heap.size w wr) (fun t _ => n - (intOf t).toNat)
  case atStart => exact ⟨0, by omega, rfl, Lib.hid (fun j hj => by omega), hB0⟩
  case round =>
    clear hB0
    obtain ⟨i, hi, rfl, HR, hB⟩ := hrel
    by_cases hl : i < n
    · obtain ⟨b, off, rfl, hb, hc⟩ := (HA.out.mono hB).at (by omega)
      obtain ⟨z2, k2, r2, eo, hS⟩ := hc i hl
      obtain ⟨l, hl2⟩ : ∃ l, acl A i = l := ⟨_, rfl⟩
      have HG := Lib.hid hl2
      rw [hl2] at hS
      have hlen := hS.1
      have HS := Lib.hid hS
      clear hc hS hl2
      by_cases q1 : 1 ≤ k2 ∧ k2 ≤ 3
      · obtain ⟨q1, q2⟩ := q1
        have d1 : decide ((k2 : Int) < 1) = false := by simp; omega
        have d2 : decide ((3 : Int) < (k2 : Int)) = false := by simp; omega
        have d2' : decide (3 < k2) = false := by simp; omega
        have HV := Lib.hid (vAcs_all (n := n) (A := l) (by omega) (by omega))
        have HLEN := Lib.hid hlen
        clear hlen
        go_wp2
        refine wp_onEnd (k := 2) (rv_acts wr z2 k2 r2 n l HS.out hn _ _ wr (Below.refl _ _) _ _ _ _ _ _ _ _ _ _ _ _ _ _ _ _ _ _ _ _ _ _ _ _ _ _ _ _ _ _ _ _ _ _ _ _ _ _ _ _ _ _ _ _ _ _ _ _ _ _ _ _ _ _ _ _ _ _ _ _ _ _ _ _ _ _ _ _ _ _ _ _ _ _ _ _ _ _ _ _ _ _ _ _ _ _ _ _ _ _ _ _ (Lib.hid fun hgood => ?_) (Lib.hid fun hbad => ?_))
        · intro v2 v7 v9 v57 v58 v59 v60 v61 v62 v63 v64 v65 v66 v67 v68 v69 v70 v71 v72 v73 v74 v75 v76 v77 v78 v79 v80 v81 v82 v83 v84 v85 v86 v87 v88 v89 v90 v91 v92 v93 v94 w3 hb3
          have HGOOD := Lib.hid (show ∀ j, j < i + 1 → vAcs n (acl A j) = true from fun j hj => by
            by_cases e : j = i
            · rw [e, HG.out, HV.out, HLEN.out, List.all_eq_true]; exact fun r hr => hgood r (List.mem_range.1 hr)
            · exact HR.out j (by omega))
          have hB3 := btr hB hb3
          clear hgood hb3 hB
          go_wp2
          go_roundw
          case rel => go_light; exact ⟨i + 1, by omega, by go_num, HGOOD, hB3⟩
          case measure => simp [intOf]; omega
        · intro v7 v9 v57 v58 v59 v60 v61 v62 v63 v64 v65 v66 v67 v68 v69 v70 v71 v72 v73 v74 v75 v76 v77 v78 v79 v80 v81 v82 v83 v84 v85 v86 v87 v88 v89 v90 v91 v92 v93 v94 w3 hb3
          have HBAD := Lib.hid (show ∃ j, j < n ∧ vAcs n (acl A j) = false from ⟨i, hl, by
            rw [HG.out, HV.out, HLEN.out, List.all_eq_false]
            obtain ⟨j, hj, e⟩ := hbad
            exact ⟨j, List.mem_range.2 hj, by rw [e]; decide⟩⟩)
          have hB3 := btr hB hb3
          clear hbad hb3 hB
          go_wp2
          exact hret.out HBAD.out _ _ _ _ _ _ _ _ _ _ _ _ _ _ _ _ _ _ _ _ _ _ _ _ _ _ _ _ _ _ _ _ _ _ _ _ _ _ _ _ _ _ _ _ _ _ _ _ _ _ _ _ _ _ _ _ _ hB3
      · have HBAD := Lib.hid (show ∃ j, j < n ∧ vAcs n (acl A j) = false from ⟨i, hl, by rw [HG.out]; exact vAcs_len (by omega)⟩)
        by_cases q1' : k2 < 1
        · have d1 : decide ((k2 : Int) < 1) = true := by simp; omega
          clear q1 hlen
          go_wp2
          exact hret.out HBAD.out _ _ _ _ _ _ _ _ _ _ _ _ _ _ _ _ _ _ _ _ _ _ _ _ _ _ _ _ _ _ _ _ _ _ _ _ _ _ _ _ _ _ _ _ _ _ _ _ _ _ _ _ _ _ _ _ _ hB
        · have d1 : decide ((k2 : Int) < 1) = false := by simp; omega
          have d2 : decide ((3 : Int) < (k2 : Int)) = true := by simp; omega
          have d2' : decide (3 < k2) = true := by simp; omega
          clear q1 hlen
          go_wp2
          exact hret.out HBAD.out _ _ _ _ _ _ _ _ _ _ _ _ _ _ _ _ _ _ _ _ _ _ _ _ _ _ _ _ _ _ _ _ _ _ _ _ _ _ _ _ _ _ _ _ _ _ _ _ _ _ _ _ _ _ _ _ _ hB
    · obtain rfl : i = n := by omega
      go_wp2
      exact ⟨rfl, hexit.out HR.out _ _ _ _ _ _ _ _ _ _ _ _ _ _ _ _ _ _ _ _ _ _ _ _ _ _ _ _ _ _ _ _ _ _ _ _ _ _ _ _ _ _ _ _ _ _ _ _ _ _ _ _ _ _ _ _ _ _ hB⟩

set_option maxRecDepth 100000 in
set_option maxHeartbeats 1000000 in
theorem rvalid_go (w : World) (x : Option Addr) (n c : Nat) (W : Wd) (hA : A2Sl w x n c W.acts) :
    Calls Try.prog 25 #[wv W.a W.b x n c] w fun e w' => e = .returned (.bool (vWd W)) ∧ Below w.heap.size w w' := by
  have hlen := hA.1
  obtain ⟨a, ha⟩ : ∃ a, W.a = a := ⟨_, rfl⟩
  obtain ⟨b, hb⟩ : ∃ b, W.b = b := ⟨_, rfl⟩
  have hb0 := bal (Below.refl w.heap.size w) (.cells #[.int .i64 a, .int .i64 b, .slice x n c] 25)
  by_cases hv : vHead W
  · have HV := Lib.hid (vWd_all hv)
    obtain ⟨q1, q2, q3, q4, q5⟩ := hv
    rw [ha] at q3 q4
    rw [hb] at q4 q5
    rw [hlen] at q1 q2 HV
    rw [ha, hb]
    have d1 : decide ((n : Int) < 1) = false := by simp; omega
    have d2 : decide (4 < n) = false := by simp; omega
    have d2' : decide ((4 : Int) < (n : Int)) = false := by simp; omega
    have d3 : decide (a < 1) = false := by simp; omega
    have d4 : decide (b ≤ a) = false := by simp; omega
    have d5 : decide (4 < b) = false := by simp; omega
    have HA := Lib.hid (hA.mono hb0)
    have HB := Lib.hid hb0
    clear hA hlen ha hb hb0
    go_enter Try.func25, Try.ntmps25
    go_wp2
    refine wp_onEnd (k := 0) (rv_lists _ x n c W.acts HA.out q2 _ _ _ (Below.refl _ _) _ _ _ _ _ _ _ _ _ _ _ _ _ _ _ _ _ _ _ _ _ _ _ _ _ _ _ _ _ _ _ _ _ _ _ _ _ _ _ _ _ _ _ _ _ _ _ _ _ _ _ _ _ _ _ _ _ _ _ _ _ _ _ _ _ _ _ _ _ _ _ _ _ _ _ _ _ _ _ _ _ _ _ _ _ _ _ _ _ _ _ _ (Lib.hid fun hgood => ?_) (Lib.hid fun hbad => ?_))
    · intro v2 v5 v7 v9 v43 v44 v45 v46 v47 v48 v49 v50 v51 v52 v53 v54 v55 v56 v57 v58 v59 v60 v61 v62 v63 v64 v65 v66 v67 v68 v69 v70 v71 v72 v73 v74 v75 v76 v77 v78 v79 v80 v81 v82 v83 v84 v85 v86 v87 v88 v89 v90 v91 v92 v93 v94 v95 w3 hb3
      have HT := Lib.hid (show vWd W = true by rw [HV.out, List.all_eq_true]; exact fun j hj => hgood j (List.mem_range.1 hj))
      clear hgood
      go_wp2
      go_ret
      rw [HT.out]
      exact ⟨rfl, btr HB.out hb3⟩
    · intro v5 v7 v9 v43 v44 v45 v46 v47 v48 v49 v50 v51 v52 v53 v54 v55 v56 v57 v58 v59 v60 v61 v62 v63 v64 v65 v66 v67 v68 v69 v70 v71 v72 v73 v74 v75 v76 v77 v78 v79 v80 v81 v82 v83 v84 v85 v86 v87 v88 v89 v90 v91 v92 v93 v94 v95 w3 hb3
      have HT := Lib.hid (show vWd W = false by
        rw [HV.out, List.all_eq_false]
        obtain ⟨j, hj, e⟩ := hbad
        exact ⟨j, List.mem_range.2 hj, by rw [e]; decide⟩)
      clear hbad
      go_wp2
      go_ret
      rw [HT.out]
      exact ⟨rfl, btr HB.out hb3⟩
  · have HV := Lib.hid (vWd_no hv)
    have hv' : ¬ (1 ≤ n ∧ n ≤ 4 ∧ 1 ≤ a ∧ a < b ∧ b ≤ 4) := by unfold vHead at hv; rwa [hlen, ha, hb] at hv
    rw [ha, hb]
    clear hA hlen ha hb hv
    by_cases q1 : 1 ≤ n
    · have d1 : decide ((n : Int) < 1) = false := by simp; omega
      by_cases q2 : n ≤ 4
      · have d2 : decide (4 < n) = false := by simp; omega
        have d2' : decide ((4 : Int) < (n : Int)) = false := by simp; omega
        by_cases q3 : 1 ≤ a
        · have d3 : decide (a < 1) = false := by simp; omega
          by_cases q4 : a < b
          · have d4 : decide (b ≤ a) = false := by simp; omega
            have d5 : decide (4 < b) = true := by simp; omega
            clear hv'
            go_enter Try.func25, Try.ntmps25
            go_wp2
            go_ret
            rw [HV.out]
            exact ⟨rfl, hb0⟩
          · have d4 : decide (b ≤ a) = true := by simp; omega
            clear hv'
            go_enter Try.func25, Try.ntmps25
            go_wp2
            go_ret
            rw [HV.out]
            exact ⟨rfl, hb0⟩
        · have d3 : decide (a < 1) = true := by simp; omega
          clear hv'
          go_enter Try.func25, Try.ntmps25
          go_wp2
          go_ret
          rw [HV.out]
          exact ⟨rfl, hb0⟩
      · have d2 : decide (4 < n) = true := by simp; omega
        have d2' : decide ((4 : Int) < (n : Int)) = true := by simp; omega
        clear hv'
        go_enter Try.func25, Try.ntmps25
        go_wp2
        go_ret
        rw [HV.out]
        exact ⟨rfl, hb0⟩
    · have d1 : decide ((n : Int) < 1) = true := by simp; omega
      clear hv'
      go_enter Try.func25, Try.ntmps25
      go_wp2
      go_ret
      rw [HV.out]
      exact ⟨rfl, hb0⟩

/-! ### Plan, fine -/
set_option maxHeartbeats 1000000 in
theorem rplan_go (w : World) (x y : Option Addr) (n c m d : Nat) (W : Wd) (p : List Int) (hA : A2Sl w x n c W.acts) (hp : Sl w y m d p) :
    Calls Try.prog 31 #[wv W.a W.b x n c, .slice y m d] w fun e w' => e = .returned (.bool (planOk W.acts p)) ∧ Below w.heap.size w w' := by
  have hb0 := bal (Below.refl w.heap.size w) (.cells #[.int .i64 W.a, .int .i64 W.b, .slice x n c] 25)
  have HB0 := Lib.hid hb0
  have HA := Lib.hid (hA.mono hb0)
  have HS := Lib.hid (hp.mono hb0)
  have HL := Lib.hid hA.1
  have HP := Lib.hid hp.len
  have hcm := hp.cap
  have hcn := hA.2.cap
  unfold maxLen at hcm hcn
  clear hb0 hA hp
  by_cases q : m = n
  · subst q
    have d1 : ((m : Int) != (m : Int)) = false := by simp
    go_enter Try.func31, Try.ntmps31
    have hzz := new_at w (.cells #[.int .i64 W.a, .int .i64 W.b, .slice x m c] 25)
    have c2 : (w.alloc (.cells #[.int .i64 W.a, .int .i64 W.b, .slice x m c] 25)).cell? ⟨w.heap.size, 2, none⟩ = some (.slice x m c) := by rw [cells_at hzz]; rfl
    clear hzz
    go_wp2
    go_loopw [15] (fun t wr => ∃ s : Nat, s ≤ m ∧ t = .int .i64 s ∧ Hid (∀ r, r < s → 0 ≤ nth p r ∧ nth p r < (acl W.acts r).length) ∧ w.alloc (.cells #[.int .i64 W.a, .int .i64 W.b, .slice x m c] 25) = wr) (fun t _ => m - (intOf t).toNat)
    case atStart => exact ⟨0, by omega, rfl, Lib.hid (fun r hr => by omega), by trivial⟩
    case round =>
      obtain ⟨s, hs, rfl, HR, rfl⟩ := hrel
      by_cases hsm : s < m
      · obtain ⟨b, off, rfl, hb, hc⟩ := HS.out.at (by omega)
        have hcs := hc s hsm
        obtain ⟨b2, off2, rfl, hb2, hc2⟩ := HA.out.at (by omega)
        obtain ⟨z, k, r, hcell, hZ⟩ := hc2 s hsm
        have hk := Lib.hid hZ.1
        have hkr := hZ.2.cap
        unfold maxLen at hkr
        obtain ⟨v, hv⟩ : ∃ v, nth p s = v := ⟨_, rfl⟩
        have HVV := Lib.hid hv
        rw [hv] at hcs
        clear hc hc2 hZ hv
        by_cases q1 : 0 ≤ v
        · have d2 : decide (v < 0) = false := by simp; omega
          by_cases q2 : v < (k : Int)
          · have d3 : decide ((k : Int) ≤ v) = false := by simp; omega
            go_wp2
            go_roundw
            case rel =>
              go_light
              refine ⟨s + 1, by omega, by go_num, Lib.hid (fun r hr => ?_), by trivial⟩
              by_cases e : r = s
              · subst e; rw [HVV.out, hk.out]; exact ⟨q1, q2⟩
              · exact HR.out r (by omega)
            case measure => simp [intOf]; omega
          · have d3 : decide ((k : Int) ≤ v) = true := by simp; omega
            have HV := Lib.hid (planOk_bad (A := W.acts) (p := p) (s := s) (by rw [HL.out]; exact hsm) (by rw [HVV.out, hk.out]; omega))
            go_wp2
            go_ret
            rw [HV.out]
            exact ⟨rfl, HB0.out⟩
        · have d2 : decide (v < 0) = true := by simp; omega
          have HV := Lib.hid (planOk_bad (A := W.acts) (p := p) (s := s) (by rw [HL.out]; exact hsm) (by rw [HVV.out, hk.out]; omega))
          go_wp2
          go_ret
          rw [HV.out]
          exact ⟨rfl, HB0.out⟩
      · obtain rfl : s = m := by omega
        have HV := Lib.hid (planOk_yes (A := W.acts) (p := p) (by rw [HL.out, HP.out]) (fun r hr => HR.out r (by rw [HL.out] at hr; exact hr)))
        go_wp2
        go_ret
        rw [HV.out]
        exact ⟨rfl, HB0.out⟩
  · have d1 : ((m : Int) != (n : Int)) = true := by simp; omega
    have HV := Lib.hid (planOk_len (A := W.acts) (p := p) (by rw [HP.out, HL.out]; exact q))
    go_enter Try.func31, Try.ntmps31
    go_wp2
    go_ret
    rw [HV.out]
    exact ⟨rfl, HB0.out⟩

theorem fine_go (w : World) (x y : Option Addr) (n c m d : Nat) (W : Wd) (p : List Int) (hA : A2Sl w x n c W.acts) (hp : Sl w y m d p) :
    Calls Try.prog 18 #[wv W.a W.b x n c, .slice y m d] w fun e w' => e = .returned (.bool (isPlanB W p)) ∧ Below w.heap.size w w' := by
  have hb0 := bal (Below.refl w.heap.size w) (.cells #[.int .i64 W.a, .int .i64 W.b, .slice x n c] 25)
  have HZ := Lib.hid (new_at w (.cells #[.int .i64 W.a, .int .i64 W.b, .slice x n c] 25))
  have HA := Lib.hid (hA.mono hb0)
  have HS := Lib.hid (hp.mono hb0)
  have HB0 := Lib.hid hb0
  clear hA hp hb0
  go_enter Try.func18, Try.ntmps18
  go_wp2_with fail
  refine (rvalid_go _ x n c W HA.out).mono ?_
  rintro e w2 ⟨rfl, hb2⟩
  cases hv : vWd W with
  | false =>
    have HV := Lib.hid (show isPlanB W p = false by unfold isPlanB; rw [hv]; rfl)
    clear hv
    go_wp2
    go_ret
    rw [HV.out]
    exact ⟨rfl, btr HB0.out hb2⟩
  | true =>
    have HV := Lib.hid (show isPlanB W p = planOk W.acts p by unfold isPlanB; rw [hv]; rfl)
    have hz2 := persist HZ.out hb2
    have c0 : w2.cell? ⟨w.heap.size, 0, none⟩ = some (.int .i64 W.a) := by rw [cells_at hz2]; rfl
    have c1 : w2.cell? ⟨w.heap.size, 1, none⟩ = some (.int .i64 W.b) := by rw [cells_at hz2]; rfl
    have c2 : w2.cell? ⟨w.heap.size, 2, none⟩ = some (.slice x n c) := by rw [cells_at hz2]; rfl
    have z2 := lt_of_block hz2
    clear hv hz2
    go_wp2_with fail
    refine (rplan_go _ x y n c m d W p (HA.out.mono hb2) (HS.out.mono hb2)).mono ?_
    rintro e w3 ⟨rfl, hb3⟩
    go_wp2
    go_ret
    rw [HV.out]
    exact ⟨rfl, btr (btr HB0.out hb2) hb3⟩
end Go.Proofs.Ytcmakddnjmeklaa
