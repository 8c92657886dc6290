/- Walks: TopFano: its loops. -/
import Derived.Test.YtiapngmallfelaaFnj
namespace Go.Proofs.Ytiapngmallfelaa
open Go.RowKit
open Go.Maps
set_option linter.unusedSimpArgs false

def OnExit (k : Nat) (R : Act → World → Prop) : Exit → Act → World → Prop
  | .exit n, a, w => n = k ∧ R a w
  | _, _, _ => False
theorem wp_onExit {P : Program} {c : Code} {k : Nat} {Q : Exit → Act → World → Prop} {a : Act} {w : World} (h : Code.wp P c (OnExit k fun a w => Q (.exit k) a w) a w) : Code.wp P c Q a w :=
  wp_mono h fun e a w hq => by
    cases e with
    | exit n => obtain ⟨rfl, h⟩ := hq; exact h
    | _ => exact hq.elim
def loopBodies : Code → List Code
  | .loop c => c :: loopBodies c
  | .seq a b => loopBodies a ++ loopBodies b
  | .block _ c => loopBodies c
  | .scope c => loopBodies c
  | .cond _ a b => loopBodies a ++ loopBodies b
  | _ => []
noncomputable def fnBody (i : Nat) : Code := ((loopBodies (Try.f5.body.getD .skip))[i]?).getD .skip
theorem and255 (x : Int) : ∃ c : Nat, c < 256 ∧ bits .and .i64 x 255 = (c : Int) := by
  refine ⟨(BitVec.ofInt 64 x &&& BitVec.ofInt 64 255).toNat, ?_, ?_⟩
  · rw [BitVec.toNat_and]
    exact Nat.lt_of_le_of_lt Nat.and_le_right (by decide)
  · have hl : (BitVec.ofInt 64 x &&& BitVec.ofInt 64 255).toNat < 256 := by
      rw [BitVec.toNat_and]
      exact Nat.lt_of_le_of_lt Nat.and_le_right (by decide)
    show IntKind.i64.wrap ((BitVec.ofInt 64 x &&& BitVec.ofInt 64 255).toNat : Int) = _
    exact wrap_i64n _ (by omega)
def rbB (rows : Int) (i : Nat) : Bool := bits .and .i64 (rows / 2 ^ i) 1 == 1

set_option maxRecDepth 100000 in
set_option maxHeartbeats 4000000 in
theorem fn_turn (w V : World) (g cap c : Nat) (rows cols : Int) (B S : List Nat) (hM : MatB B S) (hc : c < 256) (hcc : bits .and .i64 cols 255 = (c : Int)) (_hcap : 8 ≤ cap ∧ cap ≤ maxLen) (hown : V.ownsRow w.heap.size 3 1 (.slice (some ⟨g, 0, none⟩) 8 cap) 8 ((ints B).map (Value.int .i64))) (hB : Below w.heap.size w V) (R : Act → World → Prop)
    (c2 c3 c4 c5 c6 c8 c9 c10 c11 c12 c13 c14 c15 c16 c17 c18 c19 c20 c21 c22 c23 c24 c25 c26 c27 c28 c29 c30 c31 c32 c33 c34 c35 c36 c37 c38 c39 c40 c41 c42 c46 c47 c48 c49 c50 c51 c52 c53 c54 c55 c56 c57 c58 c59 c60 c61 c62 c63 c64 c65 c66 c67 c68 c69 c70 c71 c72 c73 c74 c75 c76 c77 c78 c79 c80 c81 c82 c83 c84 c85 c86 c87 c88 c89 c90 c91 c92 c93 c94 c95 c96 c97 c98 c99 c100 c101 c102 c103 c104 c105 c106 c107 c108 c109 c110 c111 c112 c113 c114 c115 c116 c117 c118 c119 c120 c121 c122 c123 c124 c125 c126 c127 c128 c129 c130 c131 c132 c133 c134 c135 c136 c137 c138 c139 c140 c141 c142 c143 c144 c145 c146 c147 c148 c149 c150 c151 c152 c153 c154 c155 c156 c157 c158 c159 c160 c161 c162 c163 c164 c165 c166 c167 c168 c169 c170 c171 c172 c173 c174 c175 c176 c177 c178 : Value)
    (hexit : ∀ (u9 u45 u46 u47 u48 u49 u50 u51 u52 u53 u54 u55 u56 u57 u58 u59 u60 u61 u62 u63 u64 u65 u66 u67 : Value) (w' : World), w'.ownsRow w.heap.size 3 1 (.slice (some ⟨g, 0, none⟩) 8 cap) 8 ((ints (trnTo B c (rbB rows) 8)).map (Value.int .i64)) → Below w.heap.size w w' → R ⟨List.toArray (.int .i64 rows :: .int .i64 cols :: c2 :: c3 :: c4 :: c5 :: c6 :: .slice (some ⟨g, 0, none⟩) 8 cap :: c8 :: u9 :: c10 :: c11 :: c12 :: c13 :: c14 :: c15 :: c16 :: c17 :: c18 :: c19 :: c20 :: c21 :: c22 :: c23 :: c24 :: c25 :: c26 :: c27 :: c28 :: c29 :: c30 :: c31 :: c32 :: c33 :: c34 :: c35 :: c36 :: c37 :: c38 :: c39 :: c40 :: c41 :: c42 :: .slice (some ⟨g, 0, none⟩) 8 cap :: .int .i64 8 :: u45 :: u46 :: u47 :: u48 :: u49 :: u50 :: u51 :: u52 :: u53 :: u54 :: u55 :: u56 :: u57 :: u58 :: u59 :: u60 :: u61 :: u62 :: u63 :: u64 :: u65 :: u66 :: u67 :: c68 :: c69 :: c70 :: c71 :: c72 :: c73 :: c74 :: c75 :: c76 :: c77 :: c78 :: c79 :: c80 :: c81 :: c82 :: c83 :: c84 :: c85 :: c86 :: c87 :: c88 :: c89 :: c90 :: c91 :: c92 :: c93 :: c94 :: c95 :: c96 :: c97 :: c98 :: c99 :: c100 :: c101 :: c102 :: c103 :: c104 :: c105 :: c106 :: c107 :: c108 :: c109 :: c110 :: c111 :: c112 :: c113 :: c114 :: c115 :: c116 :: c117 :: c118 :: c119 :: c120 :: c121 :: c122 :: c123 :: c124 :: c125 :: c126 :: c127 :: c128 :: c129 :: c130 :: c131 :: c132 :: c133 :: c134 :: c135 :: c136 :: c137 :: c138 :: c139 :: c140 :: c141 :: c142 :: c143 :: c144 :: c145 :: c146 :: c147 :: c148 :: c149 :: c150 :: c151 :: c152 :: c153 :: c154 :: c155 :: c156 :: c157 :: c158 :: c159 :: c160 :: c161 :: c162 :: c163 :: c164 :: c165 :: c166 :: c167 :: c168 :: c169 :: c170 :: c171 :: c172 :: c173 :: c174 :: c175 :: c176 :: c177 :: c178 :: []), []⟩ w') :
    Code.wp Try.prog (Code.loop (fnBody 0)) (OnExit 0 R) ⟨List.toArray (.int .i64 rows :: .int .i64 cols :: c2 :: c3 :: c4 :: c5 :: c6 :: .slice (some ⟨g, 0, none⟩) 8 cap :: c8 :: c9 :: c10 :: c11 :: c12 :: c13 :: c14 :: c15 :: c16 :: c17 :: c18 :: c19 :: c20 :: c21 :: c22 :: c23 :: c24 :: c25 :: c26 :: c27 :: c28 :: c29 :: c30 :: c31 :: c32 :: c33 :: c34 :: c35 :: c36 :: c37 :: c38 :: c39 :: c40 :: c41 :: c42 :: .slice (some ⟨g, 0, none⟩) 8 cap :: .int .i64 8 :: .int .i64 0 :: c46 :: c47 :: c48 :: c49 :: c50 :: c51 :: c52 :: c53 :: c54 :: c55 :: c56 :: c57 :: c58 :: c59 :: c60 :: c61 :: c62 :: c63 :: c64 :: c65 :: c66 :: c67 :: c68 :: c69 :: c70 :: c71 :: c72 :: c73 :: c74 :: c75 :: c76 :: c77 :: c78 :: c79 :: c80 :: c81 :: c82 :: c83 :: c84 :: c85 :: c86 :: c87 :: c88 :: c89 :: c90 :: c91 :: c92 :: c93 :: c94 :: c95 :: c96 :: c97 :: c98 :: c99 :: c100 :: c101 :: c102 :: c103 :: c104 :: c105 :: c106 :: c107 :: c108 :: c109 :: c110 :: c111 :: c112 :: c113 :: c114 :: c115 :: c116 :: c117 :: c118 :: c119 :: c120 :: c121 :: c122 :: c123 :: c124 :: c125 :: c126 :: c127 :: c128 :: c129 :: c130 :: c131 :: c132 :: c133 :: c134 :: c135 :: c136 :: c137 :: c138 :: c139 :: c140 :: c141 :: c142 :: c143 :: c144 :: c145 :: c146 :: c147 :: c148 :: c149 :: c150 :: c151 :: c152 :: c153 :: c154 :: c155 :: c156 :: c157 :: c158 :: c159 :: c160 :: c161 :: c162 :: c163 :: c164 :: c165 :: c166 :: c167 :: c168 :: c169 :: c170 :: c171 :: c172 :: c173 :: c174 :: c175 :: c176 :: c177 :: c178 :: []), []⟩ V := by
  conv => arg 2; arg 1; whnf
  have HO0 := Lib.hid (show V.ownsRow w.heap.size 3 1 (.slice (some ⟨g, 0, none⟩) 8 cap) 8 ((ints (trnTo B c (rbB rows) 0)).map (Value.int .i64)) by rw [trn_zero hM.len]; exact hown)
  have HB0 := Lib.hid hB
  have HLT := Lib.hid (gn_lt hM.lt (by omega))
  clear hown hB hM
  go_loopw [45] (fun t wr => ∃ k : Nat, k ≤ 8 ∧ t = .int .i64 k ∧ Hid (wr.ownsRow w.heap.size 3 1 (.slice (some ⟨g, 0, none⟩) 8 cap) 8 ((ints (trnTo B c (rbB rows) k)).map (Value.int .i64))) ∧ Hid (Below w.heap.size w wr)) (fun t _ => 8 - (intOf t).toNat)
  case atStart => exact ⟨0, by omega, rfl, HO0, HB0⟩
  case round =>
    clear HO0 HB0
    obtain ⟨k, hk, rfl, HO, HB⟩ := hrel
    by_cases hlk : k < 8
    · obtain ⟨g', e, hg1, hg2, _, _, hg5, hg6, _⟩ := own_cells HO.out (by omega)
      injection e with e
      injection e with e
      subst e
      have hx := HLT.out k
      have e1 : wr.cell? ⟨g, k, none⟩ = some (.int .i64 ((gn B k : Nat) : Int)) := hg5 k _ (by
        have : (ints (trnTo B c (rbB rows) k))[k]? = some ((gn B k : Nat) : Int) := by
          rw [List.getElem?_eq_getElem (by rw [ints_length, trn_len]; exact hlk), ← nth_of_lt, nth_ints, trn_at hlk, if_neg (by omega)]
        rw [List.getElem?_map, this]; rfl)
      have e2 := hg6 k
      have HSU := Lib.hid (trn_succ (B := B) (c := c) (rb := rbB rows) (k := k))
      have HRB := Lib.hid (show (bits .and .i64 (rows / 2 ^ k) 1 == 1) = rbB rows k from rfl)
      obtain ⟨x, hxe⟩ : ∃ x, gn B k = x := ⟨_, rfl⟩
      have HTE := Lib.hid (show trnE B c (rbB rows) k = if rbB rows k then (x ^^^ c) ^^^ 255 else x ^^^ c by unfold trnE; rw [hxe])
      rw [hxe] at hx e1
      have hx1 := i64_xor_nat x c (by omega) (by omega)
      have hyl : x ^^^ c < 256 := Nat.xor_lt_two_pow (n := 8) hx hc
      obtain ⟨y, hy⟩ : ∃ y, x ^^^ c = y := ⟨_, rfl⟩
      rw [hy] at hx1 hyl HTE
      have hx2 : bits .xor .i64 (y : Int) 255 = ((y ^^^ 255 : Nat) : Int) := i64_xor_nat y 255 (by omega) (by omega)
      obtain ⟨z, hz⟩ : ∃ z, y ^^^ 255 = z := ⟨_, rfl⟩
      rw [hz] at hx2 HTE
      have HO1 := Lib.hid (HO.out.stored k (.int .i64 (y : Int))).1
      have HB1 := Lib.hid (HB.out.setCell (p := ⟨g, k, none⟩) hg1 (.int .i64 (y : Int)))
      have e3 : (wr.setCell ⟨g, k, none⟩ (.int .i64 (y : Int))).cell? ⟨g, k, none⟩ = some (.int .i64 (y : Int)) := World.cell?_setCell_same _ _ _ e1
      have e4 := (own_cells HO1.out (by omega)).choose_spec
      cases hrb : rbB rows k with
      | false =>
        have h0 := HRB.out
        rw [hrb] at h0 HTE
        have HN := Lib.hid (show (wr.setCell ⟨g, k, none⟩ (.int .i64 (y : Int))).ownsRow w.heap.size 3 1 (.slice (some ⟨g, 0, none⟩) 8 cap) 8 ((ints (trnTo B c (rbB rows) (k + 1))).map (Value.int .i64)) by
          rw [HSU.out, HTE.out, if_neg (by decide)]
          have h := HO1.out
          rw [ints_set] at h
          exact h)
        clear hg5 hg6 e3 e4 hxe hy hz hrb
        go_wp2
        go_roundw
        case rel => go_light; exact ⟨k + 1, by omega, by go_num, HN, HB1⟩
        case measure => simp [intOf]; omega
      | true =>
        have h0 := HRB.out
        rw [hrb] at h0 HTE
        obtain ⟨g'', e, _, hg2', _, _, _, hg6', _⟩ := own_cells HO1.out (by omega)
        injection e with e
        injection e with e
        subst e
        have e5 := hg6' k
        have HN := Lib.hid (show ((wr.setCell ⟨g, k, none⟩ (.int .i64 (y : Int))).setCell ⟨g, k, none⟩ (.int .i64 (z : Int))).ownsRow w.heap.size 3 1 (.slice (some ⟨g, 0, none⟩) 8 cap) 8 ((ints (trnTo B c (rbB rows) (k + 1))).map (Value.int .i64)) by
          rw [HSU.out, HTE.out, if_pos rfl]
          have h := (HO1.out.stored k (.int .i64 (z : Int))).1
          rw [List.set_set, ints_set] at h
          exact h)
        have HB2 := Lib.hid (HB1.out.setCell (p := ⟨g, k, none⟩) hg1 (.int .i64 (z : Int)))
        clear hg5 hg6 hg6' e4 hxe hy hz hrb
        go_wp2
        go_roundw
        case rel => go_light; exact ⟨k + 1, by omega, by go_num, HN, HB2⟩
        case measure => simp [intOf]; omega
    · obtain rfl : k = 8 := by omega
      go_wp2
      exact ⟨rfl, hexit _ _ _ _ _ _ _ _ _ _ _ _ _ _ _ _ _ _ _ _ _ _ _ _ _ HO.out HB.out⟩

def toL (P : List Nat) : Nat → List Int
  | 0 => List.replicate 7 (-1)
  | k + 1 => (toL P k).set (gn P k) (k : Int)
theorem toL_len {P : List Nat} : ∀ k, (toL P k).length = 7
  | 0 => rfl
  | k + 1 => by show ((toL P k).set _ _).length = 7; rw [List.length_set]; exact toL_len k
def toA (P : List Nat) (k : Nat) : Array Value := ((toL P k).map (Value.int .i64)).toArray
theorem toA_succ (P : List Nat) (k : Nat) : (toA P k).setIfInBounds (gn P k) (.int .i64 (k : Int)) = toA P (k + 1) := by
  unfold toA
  rw [List.setIfInBounds_toArray, ← List.map_set]; rfl
theorem toA_at {P : List Nat} {k i : Nat} (hi : i < 7) : (toA P k)[i]? = some (.int .i64 (nth (toL P k) i)) := by
  unfold toA
  rw [List.getElem?_toArray, List.getElem?_map, List.getElem?_eq_getElem (by rw [toL_len]; exact hi), nth_of_lt (by rw [toL_len]; exact hi)]; rfl
set_option maxRecDepth 100000 in
set_option maxHeartbeats 4000000 in
theorem fn_to (w V : World) (tb eb : Nat) (P : List Nat) (hP : ∀ k, k < 7 → gn P k < 7 ∧ nth (toL P k) (gn P k) = -1) (htb : w.heap.size ≤ tb) (hbox : V.heap[tb]? = some (.cells (toA P 0) 45 (0, 0))) (hne : eb ≠ tb) (hel : ∀ k, k < 7 → V.cell? ⟨eb, k, none⟩ = some (.int .i64 ((gn P k : Nat) : Int))) (hebl : eb < V.heap.size) (hB : Below w.heap.size w V) (R : Act → World → Prop)
    (c0 c1 c2 c3 c4 c5 c6 c7 c8 c9 c10 c11 c12 c13 c14 c15 c17 c18 c19 c20 c21 c22 c23 c24 c25 c26 c27 c28 c29 c30 c31 c32 c33 c34 c35 c36 c37 c38 c39 c40 c41 c42 c43 c44 c45 c46 c47 c48 c49 c50 c51 c52 c53 c54 c55 c56 c57 c58 c59 c60 c61 c62 c63 c64 c65 c66 c67 c68 c69 c70 c71 c72 c73 c74 c75 c76 c77 c78 c79 c80 c81 c82 c83 c84 c85 c86 c87 c88 c89 c90 c91 c92 c93 c94 c95 c96 c97 c98 c99 c100 c101 c102 c103 c104 c105 c109 c110 c111 c112 c113 c114 c115 c116 c117 c118 c119 c120 c121 c122 c123 c124 c125 c126 c127 c128 c129 c130 c131 c132 c133 c134 c135 c136 c137 c138 c139 c140 c141 c142 c143 c144 c145 c146 c147 c148 c149 c150 c151 c152 c153 c154 c155 c156 c157 c158 c159 c160 c161 c162 c163 c164 c165 c166 c167 c168 c169 c170 c171 c172 c173 c174 c175 c176 c177 c178 : Value)
    (hexit : ∀ (u6 u17 u18 u108 u109 u110 u111 u112 u113 u114 u115 u116 u117 u118 u119 u120 u121 u122 u123 u124 : Value) (w' : World), w'.heap[tb]? = some (.cells (toA P 7) 45 (0, 0)) → (∀ b, b ≠ tb → b < V.heap.size → w'.heap[b]? = V.heap[b]?) → V.heap.size ≤ w'.heap.size → Below w.heap.size w w' → R ⟨List.toArray (c0 :: c1 :: c2 :: c3 :: c4 :: c5 :: u6 :: c7 :: c8 :: c9 :: c10 :: c11 :: c12 :: c13 :: c14 :: c15 :: .pointer (some ⟨tb, 0, none⟩) :: u17 :: u18 :: c19 :: c20 :: c21 :: c22 :: c23 :: c24 :: c25 :: c26 :: c27 :: c28 :: c29 :: c30 :: c31 :: c32 :: c33 :: c34 :: c35 :: c36 :: c37 :: c38 :: c39 :: c40 :: c41 :: c42 :: c43 :: c44 :: c45 :: c46 :: c47 :: c48 :: c49 :: c50 :: c51 :: c52 :: c53 :: c54 :: c55 :: c56 :: c57 :: c58 :: c59 :: c60 :: c61 :: c62 :: c63 :: c64 :: c65 :: c66 :: c67 :: c68 :: c69 :: c70 :: c71 :: c72 :: c73 :: c74 :: c75 :: c76 :: c77 :: c78 :: c79 :: c80 :: c81 :: c82 :: c83 :: c84 :: c85 :: c86 :: c87 :: c88 :: c89 :: c90 :: c91 :: c92 :: c93 :: c94 :: c95 :: c96 :: c97 :: c98 :: c99 :: c100 :: c101 :: c102 :: c103 :: c104 :: c105 :: .slice (some ⟨eb, 0, none⟩) 7 7 :: .int .i64 7 :: u108 :: u109 :: u110 :: u111 :: u112 :: u113 :: u114 :: u115 :: u116 :: u117 :: u118 :: u119 :: u120 :: u121 :: u122 :: u123 :: u124 :: c125 :: c126 :: c127 :: c128 :: c129 :: c130 :: c131 :: c132 :: c133 :: c134 :: c135 :: c136 :: c137 :: c138 :: c139 :: c140 :: c141 :: c142 :: c143 :: c144 :: c145 :: c146 :: c147 :: c148 :: c149 :: c150 :: c151 :: c152 :: c153 :: c154 :: c155 :: c156 :: c157 :: c158 :: c159 :: c160 :: c161 :: c162 :: c163 :: c164 :: c165 :: c166 :: c167 :: c168 :: c169 :: c170 :: c171 :: c172 :: c173 :: c174 :: c175 :: c176 :: c177 :: c178 :: []), []⟩ w') :
    Code.wp Try.prog (Code.loop (fnBody 1)) (OnExit 2 R) ⟨List.toArray (c0 :: c1 :: c2 :: c3 :: c4 :: c5 :: c6 :: c7 :: c8 :: c9 :: c10 :: c11 :: c12 :: c13 :: c14 :: c15 :: .pointer (some ⟨tb, 0, none⟩) :: c17 :: c18 :: c19 :: c20 :: c21 :: c22 :: c23 :: c24 :: c25 :: c26 :: c27 :: c28 :: c29 :: c30 :: c31 :: c32 :: c33 :: c34 :: c35 :: c36 :: c37 :: c38 :: c39 :: c40 :: c41 :: c42 :: c43 :: c44 :: c45 :: c46 :: c47 :: c48 :: c49 :: c50 :: c51 :: c52 :: c53 :: c54 :: c55 :: c56 :: c57 :: c58 :: c59 :: c60 :: c61 :: c62 :: c63 :: c64 :: c65 :: c66 :: c67 :: c68 :: c69 :: c70 :: c71 :: c72 :: c73 :: c74 :: c75 :: c76 :: c77 :: c78 :: c79 :: c80 :: c81 :: c82 :: c83 :: c84 :: c85 :: c86 :: c87 :: c88 :: c89 :: c90 :: c91 :: c92 :: c93 :: c94 :: c95 :: c96 :: c97 :: c98 :: c99 :: c100 :: c101 :: c102 :: c103 :: c104 :: c105 :: .slice (some ⟨eb, 0, none⟩) 7 7 :: .int .i64 7 :: .int .i64 0 :: c109 :: c110 :: c111 :: c112 :: c113 :: c114 :: c115 :: c116 :: c117 :: c118 :: c119 :: c120 :: c121 :: c122 :: c123 :: c124 :: c125 :: c126 :: c127 :: c128 :: c129 :: c130 :: c131 :: c132 :: c133 :: c134 :: c135 :: c136 :: c137 :: c138 :: c139 :: c140 :: c141 :: c142 :: c143 :: c144 :: c145 :: c146 :: c147 :: c148 :: c149 :: c150 :: c151 :: c152 :: c153 :: c154 :: c155 :: c156 :: c157 :: c158 :: c159 :: c160 :: c161 :: c162 :: c163 :: c164 :: c165 :: c166 :: c167 :: c168 :: c169 :: c170 :: c171 :: c172 :: c173 :: c174 :: c175 :: c176 :: c177 :: c178 :: []), []⟩ V := by
  conv => arg 2; arg 1; whnf
  have HP := Lib.hid hP
  have HE := Lib.hid hel
  have HX0 := Lib.hid hbox
  have HB0 := Lib.hid hB
  clear hP hel hbox hB
  go_loopw [108] (fun t wr => ∃ k : Nat, k ≤ 7 ∧ t = .int .i64 k ∧ Hid (wr.heap[tb]? = some (.cells (toA P k) 45 (0, 0))) ∧ Hid (∀ b, b ≠ tb → b < V.heap.size → wr.heap[b]? = V.heap[b]?) ∧ Hid (V.heap.size ≤ wr.heap.size) ∧ Hid (Below w.heap.size w wr)) (fun t _ => 7 - (intOf t).toNat)
  case atStart => exact ⟨0, by omega, rfl, HX0, Lib.hid (fun _ _ _ => rfl), Lib.hid (Nat.le_refl _), HB0⟩
  case round =>
    clear HX0 HB0
    obtain ⟨k, hk, rfl, HX, HK, HS, HB⟩ := hrel
    by_cases hlk : k < 7
    · obtain ⟨hp1, hp2⟩ := HP.out k hlk
      have e0 : wr.cell? ⟨eb, k, none⟩ = some (.int .i64 ((gn P k : Nat) : Int)) := by
        rw [← HE.out k hlk]
        unfold World.cell?
        simp only [HK.out eb hne hebl]
      have z0 := Nat.lt_of_lt_of_le hebl HS.out
      have e1 := cell_of HX.out (gn P k) (toA_at hp1)
      rw [hp2] at e1
      have e2 := free_at HX.out (gn P k)
      have z1 := lt_of_block HX.out
      have HX2 := Lib.hid (set_at HX.out (gn P k) (.int .i64 (k : Int)))
      rw [toA_succ] at HX2
      obtain ⟨x, hx⟩ : ∃ x, gn P k = x := ⟨_, rfl⟩
      rw [hx] at hp1 e0 e1 e2 HX2
      have HK2 := Lib.hid (fun b (h1 : b ≠ tb) (h2 : b < V.heap.size) => (Below.heap_setCell wr ⟨tb, x, none⟩ (.int .i64 (k : Int)) b h1).trans (HK.out b h1 h2))
      have HS2 := Lib.hid (show V.heap.size ≤ (wr.setCell ⟨tb, x, none⟩ (.int .i64 (k : Int))).heap.size by rw [World.size_setCell]; exact HS.out)
      have HB2 := Lib.hid (HB.out.setCell (p := ⟨tb, x, none⟩) htb (.int .i64 (k : Int)))
      clear hp2 hx
      go_wp2
      go_roundw
      case rel => go_light; exact ⟨k + 1, by omega, by go_num, HX2, HK2, HS2, HB2⟩
      case measure => simp [intOf]; omega
    · obtain rfl : k = 7 := by omega
      go_wp2
      exact ⟨rfl, hexit _ _ _ _ _ _ _ _ _ _ _ _ _ _ _ _ _ _ _ _ _ HX.out HK.out HS.out HB.out⟩

def lpre (T : List Nat) (s : Nat) : Nat → List Nat
  | 0 => []
  | x + 1 => if s.testBit x then lpre T s x ++ [gn T x] else lpre T s x
theorem lpre_len {T : List Nat} {s : Nat} : ∀ x, (lpre T s x).length ≤ x
  | 0 => Nat.le_refl _
  | x + 1 => by
    have ih := lpre_len (T := T) (s := s) x
    show (if _ then _ else _ : List Nat).length ≤ _
    split
    · rw [List.length_append]; simp; omega
    · omega
def LinB (T : List Nat) (s : Nat) : Prop := ∃ l0 l1 l2 q, lpre T s 7 = [l0, l1, l2] ∧ (l0 < 7 ∧ l1 < 7 ∧ l2 < 7 ∧ q < 7) ∧ l0 ≠ l1 ∧ firstN (crossN 2 (ptP 2 l0) (ptP 2 l1)) ≠ 0 ∧ lowN 2 (crossN 2 (ptP 2 l0) (ptP 2 l1)) = ptP 2 q ∧ In3 2 (crossN 2 (ptP 2 l0) (ptP 2 l1)) ∧ dotN 2 (ptP 2 l2) (ptP 2 q) = 0
set_option maxRecDepth 100000 in
set_option maxHeartbeats 4000000 in
theorem fn_lines (w V : World) (tb sb so scap : Nat) (P T S : List Nat) (htb : V.heap[tb]? = some (.cells (toA P 7) 45 (0, 0))) (hT : ∀ x, x < 7 → nth (toL P 7) x = ((gn T x : Nat) : Int)) (hTl : ∀ x, gn T x < 7) (hS : ∀ j, gn S j < 128) (hlin : ∀ j, j < 7 → LinB T (gn S j)) (hsl : ∀ j, j < 7 → V.cell? ⟨sb, so + j, none⟩ = some (.int .i64 ((gn S j : Nat) : Int))) (hsb : sb < V.heap.size) (_hcap : 7 ≤ scap ∧ scap ≤ maxLen) (hB : Below w.heap.size w V) (R : Act → World → Prop)
    (c0 c1 c2 c3 c4 c5 c6 c7 c8 c9 c10 c11 c12 c13 c14 c15 c17 c18 c19 c20 c21 c22 c23 c24 c25 c26 c27 c28 c29 c30 c31 c32 c33 c34 c35 c36 c37 c38 c39 c40 c41 c42 c43 c44 c45 c46 c47 c48 c49 c50 c51 c52 c53 c54 c55 c56 c57 c58 c59 c60 c61 c62 c63 c64 c65 c66 c67 c68 c69 c70 c71 c72 c73 c74 c75 c76 c77 c78 c79 c80 c81 c82 c83 c84 c85 c86 c87 c88 c89 c90 c91 c92 c93 c94 c95 c96 c97 c98 c99 c100 c101 c102 c103 c104 c105 c106 c107 c108 c109 c110 c111 c112 c113 c114 c115 c116 c117 c118 c119 c120 c121 c122 c123 c124 c128 c129 c130 c131 c132 c133 c134 c135 c136 c137 c138 c139 c140 c141 c142 c143 c144 c145 c146 c147 c148 c149 c150 c151 c152 c153 c154 c155 c156 c157 c158 c159 c160 c161 c162 c163 c164 c165 c166 c167 c168 c169 c170 c171 c172 c173 c174 c175 c176 c177 c178 : Value)
    (hexit : ∀ (u6 u20 u21 u22 u23 u24 u25 u26 u127 u128 u129 u130 u131 u132 u133 u134 u135 u136 u137 u138 u139 u140 u141 u142 u143 u144 u145 u146 u147 u148 u149 u150 u151 u152 u153 u154 u155 u156 u157 u158 u159 u160 u161 u162 u163 u164 u165 u166 u167 u168 u169 u170 u171 u172 u173 u174 u175 u176 u177 : Value) (w' : World), Below w.heap.size w w' → R ⟨List.toArray (c0 :: c1 :: c2 :: c3 :: c4 :: c5 :: u6 :: c7 :: c8 :: c9 :: c10 :: c11 :: c12 :: c13 :: c14 :: c15 :: .pointer (some ⟨tb, 0, none⟩) :: c17 :: c18 :: c19 :: u20 :: u21 :: u22 :: u23 :: u24 :: u25 :: u26 :: c27 :: c28 :: c29 :: c30 :: c31 :: c32 :: c33 :: c34 :: c35 :: c36 :: c37 :: c38 :: c39 :: c40 :: c41 :: c42 :: c43 :: c44 :: c45 :: c46 :: c47 :: c48 :: c49 :: c50 :: c51 :: c52 :: c53 :: c54 :: c55 :: c56 :: c57 :: c58 :: c59 :: c60 :: c61 :: c62 :: c63 :: c64 :: c65 :: c66 :: c67 :: c68 :: c69 :: c70 :: c71 :: c72 :: c73 :: c74 :: c75 :: c76 :: c77 :: c78 :: c79 :: c80 :: c81 :: c82 :: c83 :: c84 :: c85 :: c86 :: c87 :: c88 :: c89 :: c90 :: c91 :: c92 :: c93 :: c94 :: c95 :: c96 :: c97 :: c98 :: c99 :: c100 :: c101 :: c102 :: c103 :: c104 :: c105 :: c106 :: c107 :: c108 :: c109 :: c110 :: c111 :: c112 :: c113 :: c114 :: c115 :: c116 :: c117 :: c118 :: c119 :: c120 :: c121 :: c122 :: c123 :: c124 :: .slice (some ⟨sb, so, none⟩) 7 scap :: .int .i64 7 :: u127 :: u128 :: u129 :: u130 :: u131 :: u132 :: u133 :: u134 :: u135 :: u136 :: u137 :: u138 :: u139 :: u140 :: u141 :: u142 :: u143 :: u144 :: u145 :: u146 :: u147 :: u148 :: u149 :: u150 :: u151 :: u152 :: u153 :: u154 :: u155 :: u156 :: u157 :: u158 :: u159 :: u160 :: u161 :: u162 :: u163 :: u164 :: u165 :: u166 :: u167 :: u168 :: u169 :: u170 :: u171 :: u172 :: u173 :: u174 :: u175 :: u176 :: u177 :: c178 :: []), []⟩ w') :
    Code.wp Try.prog (Code.loop (fnBody 2)) (OnExit 4 R) ⟨List.toArray (c0 :: c1 :: c2 :: c3 :: c4 :: c5 :: c6 :: c7 :: c8 :: c9 :: c10 :: c11 :: c12 :: c13 :: c14 :: c15 :: .pointer (some ⟨tb, 0, none⟩) :: c17 :: c18 :: c19 :: c20 :: c21 :: c22 :: c23 :: c24 :: c25 :: c26 :: c27 :: c28 :: c29 :: c30 :: c31 :: c32 :: c33 :: c34 :: c35 :: c36 :: c37 :: c38 :: c39 :: c40 :: c41 :: c42 :: c43 :: c44 :: c45 :: c46 :: c47 :: c48 :: c49 :: c50 :: c51 :: c52 :: c53 :: c54 :: c55 :: c56 :: c57 :: c58 :: c59 :: c60 :: c61 :: c62 :: c63 :: c64 :: c65 :: c66 :: c67 :: c68 :: c69 :: c70 :: c71 :: c72 :: c73 :: c74 :: c75 :: c76 :: c77 :: c78 :: c79 :: c80 :: c81 :: c82 :: c83 :: c84 :: c85 :: c86 :: c87 :: c88 :: c89 :: c90 :: c91 :: c92 :: c93 :: c94 :: c95 :: c96 :: c97 :: c98 :: c99 :: c100 :: c101 :: c102 :: c103 :: c104 :: c105 :: c106 :: c107 :: c108 :: c109 :: c110 :: c111 :: c112 :: c113 :: c114 :: c115 :: c116 :: c117 :: c118 :: c119 :: c120 :: c121 :: c122 :: c123 :: c124 :: .slice (some ⟨sb, so, none⟩) 7 scap :: .int .i64 7 :: .int .i64 0 :: c128 :: c129 :: c130 :: c131 :: c132 :: c133 :: c134 :: c135 :: c136 :: c137 :: c138 :: c139 :: c140 :: c141 :: c142 :: c143 :: c144 :: c145 :: c146 :: c147 :: c148 :: c149 :: c150 :: c151 :: c152 :: c153 :: c154 :: c155 :: c156 :: c157 :: c158 :: c159 :: c160 :: c161 :: c162 :: c163 :: c164 :: c165 :: c166 :: c167 :: c168 :: c169 :: c170 :: c171 :: c172 :: c173 :: c174 :: c175 :: c176 :: c177 :: c178 :: []), []⟩ V := by
  conv => arg 2; arg 1; whnf
  have HTB := Lib.hid htb
  have HT := Lib.hid hT
  have HTL := Lib.hid hTl
  have HS := Lib.hid hS
  have HL := Lib.hid hlin
  have HSL := Lib.hid hsl
  have HB0 := Lib.hid hB
  clear htb hT hTl hS hlin hsl hB
  go_loopw [127] (fun t wr => ∃ j : Nat, j ≤ 7 ∧ t = .int .i64 j ∧ Hid (Below V.heap.size V wr)) (fun t _ => 7 - (intOf t).toNat)
  case atStart => exact ⟨0, by omega, rfl, Lib.hid (Below.refl _ _)⟩
  case round =>
    obtain ⟨j, hj, rfl, HB⟩ := hrel
    by_cases hlj : j < 7
    · have e0 : wr.cell? ⟨sb, so + j, none⟩ = some (.int .i64 ((gn S j : Nat) : Int)) := (HB.out.cell (p := ⟨sb, so + j, none⟩) hsb).trans (HSL.out j hlj)
      have z0 := Nat.lt_of_lt_of_le hsb HB.out.size
      have hs := HS.out j
      have HLI := Lib.hid (HL.out j hlj)
      generalize gn S j = s at *
      go_wp2
      generalize wr = U at *
      go_loopw [21, 131] (fun v t wr => ∃ x : Nat, x ≤ 7 ∧ t = .int .i64 x ∧ Hid (wr.ownsRow U.heap.size 3 1 v (lpre T s x).length ((ints (lpre T s x)).map (Value.int .i64))) ∧ Hid (Below U.heap.size U wr)) (fun _ t _ => 7 - (intOf t).toNat)
      case atStart => exact ⟨0, by omega, rfl, Lib.hid (World.ownsRow_nil _ _ _ _), Lib.hid (Below.refl _ _)⟩
      case round =>
        obtain ⟨x, hx, rfl, HO, HC⟩ := hrel
        by_cases hlx : x < 7
        · have b1 := bits_bt s x (by omega)
          have b2 := bt_test s x
          have hll := lpre_len (T := T) (s := s) x
          have HLS := Lib.hid (show lpre T s (x + 1) = if s.testBit x then lpre T s x ++ [gn T x] else lpre T s x from rfl)
          cases htb : s.testBit x with
          | false =>
            rw [htb] at b2
            have HN := Lib.hid (show lpre T s (x + 1) = lpre T s x by rw [HLS.out, htb]; rfl)
            clear htb
            go_wp2
            go_roundw
            case rel => go_light; exact ⟨x + 1, by omega, by go_num, by rw [HN.out]; exact HO, HC⟩
            case measure => simp [intOf]; omega
          | true =>
            rw [htb] at b2
            have HN := Lib.hid (show lpre T s (x + 1) = lpre T s x ++ [gn T x] by rw [HLS.out, htb]; rfl)
            have HBC := Lib.hid (btr HB.out HC.out)
            have e1 := cell_of (persist HTB.out HBC.out) x (toA_at hlx)
            have z1 := lt_of_block (persist HTB.out HBC.out)
            rw [HT.out x hlx] at e1
            have htl := HTL.out x
            generalize gn T x = y at *
            obtain ⟨ln, hln⟩ : ∃ z, (lpre T s x).length = z := ⟨_, rfl⟩
            have HLN := Lib.hid hln
            have hown := HO.out
            rw [hln] at hown hll
            obtain ⟨va, vc, rfl⟩ := own_form hown
            have hwz := HC.out.size
            clear htb hln
            go_wp2_with (at_builtin; refine wpList_app1 rfl _ _ 22 rfl Try.underlying22 infoInt rfl (by decide) U.heap.size (.slice va ln vc) ln _ rfl (hown.alloc _) wr.heap.size #[.int .i64 (y : Int)] rfl (new_at _ _) rfl (by simp [Value.oneCell']) (by omega) (by omega) (by simp; omega) ?_; intro v' wn hown' hgrow; obtain ⟨wa, wc, rfl⟩ := own_form hown')
            have HO2 := Lib.hid (show wn.ownsRow U.heap.size 3 1 (.slice wa (ln + 1) wc) (lpre T s (x + 1)).length ((ints (lpre T s (x + 1))).map (Value.int .i64)) by
              rw [HN.out, ints_app, List.map_append, List.length_append, HLN.out]; exact hown')
            have HBN := Lib.hid ((bal HC.out (.cells #[.int .i64 (y : Int)] 3)).grown hgrow (by simp; omega) (fun i hi => (hown.lt i hi).1))
            clear hown hown' hgrow e1
            go_wp2
            go_roundw
            case rel => go_light; first | exact ⟨x + 1, by omega, by go_num, HO2, HBN⟩ | exact ⟨_, x + 1, by omega, by go_num, HO2, HBN⟩ | exact ⟨_, _, _, ⟨x + 1, by omega, by go_num, HO2, HBN⟩, rfl, rfl, rfl⟩ | ((repeat apply Exists.intro); exact ⟨⟨x + 1, by omega, by go_num, HO2, HBN⟩, rfl, rfl, rfl⟩)
            case measure => simp [intOf]; omega
        · obtain rfl : x = 7 := by omega
          obtain ⟨l0, l1, l2, q, hl, ⟨h0, h1, h2, hq⟩, hne, hf, hlo, hin, hdot⟩ := HLI.out
          have hown := HO.out
          rw [hl] at hown
          obtain ⟨va, vc, rfl⟩ := own_form hown
          obtain ⟨g, rfl, hg1, hg2, hg3, hg4, hg5, _, _⟩ := own_cells hown (by simp)
          unfold maxLen at hg4
          have hg3' : 3 ≤ vc := hg3
          have a0 : wr.cell? ⟨g, 0, none⟩ = some (.int .i64 (l0 : Int)) := hg5 0 _ rfl
          have a1 : wr.cell? ⟨g, 1, none⟩ = some (.int .i64 (l1 : Int)) := hg5 1 _ rfl
          have a2 : wr.cell? ⟨g, 2, none⟩ = some (.int .i64 (l2 : Int)) := hg5 2 _ rfl
          have HA := Lib.hid (And.intro a0 (And.intro a1 a2))
          have HJ := Lib.hid (fun w' => (show Calls Try.prog 19 #[.int .i64 2, .int .i64 (l0 : Int), .int .i64 (l1 : Int)] w' (fun e w'' => e = .returned (.tuple #[.int .i64 (q : Int), .int .i64 0]) ∧ Below w'.heap.size w' w'') from ajoin_go w' 2 l0 l1 q (.inl rfl) (by rw [pts2_len]; exact h0) (by rw [pts2_len]; exact h1) hne (by rw [pts2_len]; exact hq) hf hlo hin))
          have HON := Lib.hid (fun w' => (show Calls Try.prog 20 #[.int .i64 2, .int .i64 (l2 : Int), .int .i64 (q : Int)] w' (fun e w'' => e = .returned (.tuple #[.bool true, .int .i64 0]) ∧ Below w'.heap.size w' w'') from by
            have h := aOn_go w' 2 l2 q (.inl rfl) (by rw [pts2_len]; exact h2) (by rw [pts2_len]; exact hq)
            rw [hdot] at h
            exact h))
          have HBC := Lib.hid (btr HB.out HC.out)
          have hD : Below wr.heap.size wr wr.drew := (Below.refl _ _).drew
          have a0d : wr.drew.cell? ⟨g, 0, none⟩ = _ := a0
          have a1d : wr.drew.cell? ⟨g, 1, none⟩ = _ := a1
          have HSX := Lib.hid (fun (w' : World) (hb : Below wr.heap.size wr w') => (show w'.cell? ⟨g, 0, none⟩ = some (.int .i64 (l0 : Int)) ∧ w'.cell? ⟨g, 1, none⟩ = some (.int .i64 (l1 : Int)) from ⟨(hb.cell (p := ⟨g, 0, none⟩) hg2).trans HA.out.1, (hb.cell (p := ⟨g, 1, none⟩) hg2).trans HA.out.2.1⟩))
          have hlen : (lpre T s 7).length = 3 := by rw [hl]; rfl
          clear hown hg5 hl hf hlo hin hdot
          go_wp2
          go_region_held3 (fun w' => w'.cell? ⟨g, 0, none⟩ = some (.int .i64 (l0 : Int)) ∧ w'.cell? ⟨g, 1, none⟩ = some (.int .i64 (l1 : Int))) (first | exact HSX.out _ hD | go_keep)
            (first
              | ((with_reducible refine (HJ.out _).mono ?_); rintro e w' ⟨rfl, hb⟩; replace hD := btr hD hb; clear hb; have a2d := (hD.cell (p := ⟨g, 2, none⟩) hg2).trans HA.out.2.2; have z2 := Nat.lt_of_lt_of_le hg2 hD.size))
          go_wp2_with fail
          refine (HON.out _).mono ?_
          rintro e w8 ⟨rfl, hb⟩
          have HBF := Lib.hid (btr HBC.out (btr hD hb))
          clear hb hD a2d z2 a0 a1 a2 a0d a1d
          go_wp2
          go_roundw
          case rel => go_light; exact ⟨j + 1, by omega, by go_num, HBF⟩
          case measure => simp [intOf]; omega
    · obtain rfl : j = 7 := by omega
      have HB2 := Lib.hid (btr HB0.out HB.out)
      go_wp2
      exact ⟨rfl, hexit _ _ _ _ _ _ _ _ _ _ _ _ _ _ _ _ _ _ _ _ _ _ _ _ _ _ _ _ _ _ _ _ _ _ _ _ _ _ _ _ _ _ _ _ _ _ _ _ _ _ _ _ _ _ _ _ _ _ _ _ HB2.out⟩
end Go.Proofs.Ytiapngmallfelaa
