/- Chapter 9: StemsStill, its inner loop. -/
import Derived.Test.YtcmakddnjmeklaaPq
import Derived.Test.YtcmakddnjmeklaaWe
namespace Go.Proofs.Ytcmakddnjmeklaa
open Go.RowKit
set_option linter.unusedSimpArgs false
noncomputable def stBody (i : Nat) : Code := ((loopBodies (Try.f12.body.getD .skip))[i]?).getD .skip
def ActB (w : World) (p : Nat) (g : Int) (z : Option Addr) (k q : Nat) : Prop := w.heap[p]? = some (.cells #[.int .i64 g, .slice z k q] 42 (0, 0))
theorem ActB.mono {w w' : World} {p : Nat} {g : Int} {z : Option Addr} {k q : Nat} (h : ActB w p g z k q) (hb : Below w.heap.size w w') : ActB w' p g z k q := persist h hb
theorem ActB.cells {w : World} {p : Nat} {g : Int} {z : Option Addr} {k q : Nat} (h : ActB w p g z k q) : p < w.heap.size ∧ w.cell? ⟨p, 0, none⟩ = some (.int .i64 g) ∧ w.cell? ⟨p, 1, none⟩ = some (.slice z k q) :=
  ⟨lt_of_block h, by rw [cells_at h]; rfl, by rw [cells_at h]; rfl⟩

set_option maxRecDepth 100000 in
set_option maxHeartbeats 4000000 in
theorem st_in (V W1 : World) (gb ax m lc q s : Nat) (al g : Int) (la z : Option Addr) (W : Wd) (p l : List Int) (hok : isPlanB W p = true) (hm : W.acts.length = m) (hs : s < m) (hl : Sl V la m lc l) (hlb : ∀ u, u < m → 0 ≤ nth l u ∧ nth l u ≤ 20736) (ho : Sl V z m q (podds W p s)) (hal : allN W p m = al)
    (hB : Below V.heap.size V W1) (hgb : V.heap.size ≤ gb) (hax : ActB W1 ax g z m q) (hne : ax ≠ gb) (hown : W1.ownsRow V.heap.size 3 1 (.slice (some ⟨gb, 0, none⟩) m m) m ((nxL W p l s 0).map (Value.int .i64))) (R : Act → World → Prop)
    (c0 c1 c2 c3 c4 c5 c6 c7 c8 c9 c10 c11 c12 c14 c15 c17 c18 c19 c20 c21 c22 c25 c27 c28 c29 c30 c31 c32 c33 c34 c35 c36 c37 c38 c39 c40 c41 c42 c43 c44 c45 c46 c47 c48 c49 c50 c51 c52 c53 c54 c55 c56 c57 c58 c59 c60 c61 c62 c63 c64 c65 c66 c67 c68 c69 c70 c71 c72 c73 c74 c75 c76 c77 c78 c79 c80 c81 c82 c83 c84 c85 c86 c87 c88 c89 c90 c91 c92 c93 c94 c95 c96 c97 c98 c99 c100 c101 c102 c103 c104 c105 c106 c107 c108 c109 c110 c111 c112 c113 c114 c115 c116 c117 c118 c119 c120 c121 c122 c123 c124 c125 c126 c127 c128 c129 c130 c131 c132 c133 c134 c135 c136 c137 c138 c139 c140 c141 c142 c143 c144 c145 c146 c147 c148 c149 c150 c151 c152 c153 c154 c155 c156 c157 c158 c159 c160 c161 c162 c163 c164 c165 c166 c167 c168 c169 c170 c171 c172 c173 c174 c175 c176 c177 c178 c179 c180 c181 c182 c183 c184 c185 c186 c187 c188 c189 c190 c191 c192 c193 c194 c195 c196 c197 c198 c199 c200 c204 c205 c206 c207 c208 c209 c210 c211 c212 c213 c214 c215 c216 c217 c218 c219 c220 c221 c222 c223 c224 c225 c226 c227 c228 c229 c230 c231 c232 c233 c234 c235 c236 c237 c238 c239 c240 c241 c242 c243 c244 c245 c246 c247 c248 c249 c250 c251 c252 c253 c254 c255 c256 c257 c258 c259 c260 c261 c262 c263 c264 c265 c266 c267 c268 c269 c270 c271 c272 c273 c274 c275 c276 c277 c278 c279 : Value)
    (hexit : ∀ (u27 u28 u203 u204 u205 u206 u207 u208 u209 u210 u211 u212 u213 u214 u215 u216 u217 u218 u219 u220 u221 u222 u223 u224 u225 u226 : Value) (w' : World), w'.ownsRow V.heap.size 3 1 (.slice (some ⟨gb, 0, none⟩) m m) m ((nxL W p l (s + 1) 0).map (Value.int .i64)) → Below V.heap.size V w' → R ⟨List.toArray (c0 :: c1 :: c2 :: c3 :: c4 :: c5 :: c6 :: c7 :: c8 :: c9 :: c10 :: c11 :: c12 :: .slice la m lc :: c14 :: c15 :: .int .i64 al :: c17 :: c18 :: c19 :: c20 :: c21 :: c22 :: .slice (some ⟨gb, 0, none⟩) m m :: .int .i64 s :: c25 :: .pointer (some ⟨ax, 0, none⟩) :: u27 :: u28 :: c29 :: c30 :: c31 :: c32 :: c33 :: c34 :: c35 :: c36 :: c37 :: c38 :: c39 :: c40 :: c41 :: c42 :: c43 :: c44 :: c45 :: c46 :: c47 :: c48 :: c49 :: c50 :: c51 :: c52 :: c53 :: c54 :: c55 :: c56 :: c57 :: c58 :: c59 :: c60 :: c61 :: c62 :: c63 :: c64 :: c65 :: c66 :: c67 :: c68 :: c69 :: c70 :: c71 :: c72 :: c73 :: c74 :: c75 :: c76 :: c77 :: c78 :: c79 :: c80 :: c81 :: c82 :: c83 :: c84 :: c85 :: c86 :: c87 :: c88 :: c89 :: c90 :: c91 :: c92 :: c93 :: c94 :: c95 :: c96 :: c97 :: c98 :: c99 :: c100 :: c101 :: c102 :: c103 :: c104 :: c105 :: c106 :: c107 :: c108 :: c109 :: c110 :: c111 :: c112 :: c113 :: c114 :: c115 :: c116 :: c117 :: c118 :: c119 :: c120 :: c121 :: c122 :: c123 :: c124 :: c125 :: c126 :: c127 :: c128 :: c129 :: c130 :: c131 :: c132 :: c133 :: c134 :: c135 :: c136 :: c137 :: c138 :: c139 :: c140 :: c141 :: c142 :: c143 :: c144 :: c145 :: c146 :: c147 :: c148 :: c149 :: c150 :: c151 :: c152 :: c153 :: c154 :: c155 :: c156 :: c157 :: c158 :: c159 :: c160 :: c161 :: c162 :: c163 :: c164 :: c165 :: c166 :: c167 :: c168 :: c169 :: c170 :: c171 :: c172 :: c173 :: c174 :: c175 :: c176 :: c177 :: c178 :: c179 :: c180 :: c181 :: c182 :: c183 :: c184 :: c185 :: c186 :: c187 :: c188 :: c189 :: c190 :: c191 :: c192 :: c193 :: c194 :: c195 :: c196 :: c197 :: c198 :: c199 :: c200 :: .slice z m q :: .int .i64 m :: u203 :: u204 :: u205 :: u206 :: u207 :: u208 :: u209 :: u210 :: u211 :: u212 :: u213 :: u214 :: u215 :: u216 :: u217 :: u218 :: u219 :: u220 :: u221 :: u222 :: u223 :: u224 :: u225 :: u226 :: c227 :: c228 :: c229 :: c230 :: c231 :: c232 :: c233 :: c234 :: c235 :: c236 :: c237 :: c238 :: c239 :: c240 :: c241 :: c242 :: c243 :: c244 :: c245 :: c246 :: c247 :: c248 :: c249 :: c250 :: c251 :: c252 :: c253 :: c254 :: c255 :: c256 :: c257 :: c258 :: c259 :: c260 :: c261 :: c262 :: c263 :: c264 :: c265 :: c266 :: c267 :: c268 :: c269 :: c270 :: c271 :: c272 :: c273 :: c274 :: c275 :: c276 :: c277 :: c278 :: c279 :: []), []⟩ w') :
    Code.wp Try.prog (Code.loop (stBody 2)) (OnExit 4 R) ⟨List.toArray (c0 :: c1 :: c2 :: c3 :: c4 :: c5 :: c6 :: c7 :: c8 :: c9 :: c10 :: c11 :: c12 :: .slice la m lc :: c14 :: c15 :: .int .i64 al :: c17 :: c18 :: c19 :: c20 :: c21 :: c22 :: .slice (some ⟨gb, 0, none⟩) m m :: .int .i64 s :: c25 :: .pointer (some ⟨ax, 0, none⟩) :: c27 :: c28 :: c29 :: c30 :: c31 :: c32 :: c33 :: c34 :: c35 :: c36 :: c37 :: c38 :: c39 :: c40 :: c41 :: c42 :: c43 :: c44 :: c45 :: c46 :: c47 :: c48 :: c49 :: c50 :: c51 :: c52 :: c53 :: c54 :: c55 :: c56 :: c57 :: c58 :: c59 :: c60 :: c61 :: c62 :: c63 :: c64 :: c65 :: c66 :: c67 :: c68 :: c69 :: c70 :: c71 :: c72 :: c73 :: c74 :: c75 :: c76 :: c77 :: c78 :: c79 :: c80 :: c81 :: c82 :: c83 :: c84 :: c85 :: c86 :: c87 :: c88 :: c89 :: c90 :: c91 :: c92 :: c93 :: c94 :: c95 :: c96 :: c97 :: c98 :: c99 :: c100 :: c101 :: c102 :: c103 :: c104 :: c105 :: c106 :: c107 :: c108 :: c109 :: c110 :: c111 :: c112 :: c113 :: c114 :: c115 :: c116 :: c117 :: c118 :: c119 :: c120 :: c121 :: c122 :: c123 :: c124 :: c125 :: c126 :: c127 :: c128 :: c129 :: c130 :: c131 :: c132 :: c133 :: c134 :: c135 :: c136 :: c137 :: c138 :: c139 :: c140 :: c141 :: c142 :: c143 :: c144 :: c145 :: c146 :: c147 :: c148 :: c149 :: c150 :: c151 :: c152 :: c153 :: c154 :: c155 :: c156 :: c157 :: c158 :: c159 :: c160 :: c161 :: c162 :: c163 :: c164 :: c165 :: c166 :: c167 :: c168 :: c169 :: c170 :: c171 :: c172 :: c173 :: c174 :: c175 :: c176 :: c177 :: c178 :: c179 :: c180 :: c181 :: c182 :: c183 :: c184 :: c185 :: c186 :: c187 :: c188 :: c189 :: c190 :: c191 :: c192 :: c193 :: c194 :: c195 :: c196 :: c197 :: c198 :: c199 :: c200 :: .slice z m q :: .int .i64 m :: .int .i64 0 :: c204 :: c205 :: c206 :: c207 :: c208 :: c209 :: c210 :: c211 :: c212 :: c213 :: c214 :: c215 :: c216 :: c217 :: c218 :: c219 :: c220 :: c221 :: c222 :: c223 :: c224 :: c225 :: c226 :: c227 :: c228 :: c229 :: c230 :: c231 :: c232 :: c233 :: c234 :: c235 :: c236 :: c237 :: c238 :: c239 :: c240 :: c241 :: c242 :: c243 :: c244 :: c245 :: c246 :: c247 :: c248 :: c249 :: c250 :: c251 :: c252 :: c253 :: c254 :: c255 :: c256 :: c257 :: c258 :: c259 :: c260 :: c261 :: c262 :: c263 :: c264 :: c265 :: c266 :: c267 :: c268 :: c269 :: c270 :: c271 :: c272 :: c273 :: c274 :: c275 :: c276 :: c277 :: c278 :: c279 :: []), []⟩ W1 := by
  conv => arg 2; arg 1; whnf
  have hsA : s < W.acts.length := by omega
  have HNX := Lib.hid (fun k s (hk : k < W.acts.length) (hs : s ≤ W.acts.length) => nx_bd hok (l := l) (fun u hu => hlb u (by omega)) hk s hs)
  have heN := eN_mul hok hsA
  have hS := pa_of0 hok hsA
  have HOB := Lib.hid (show ∀ y ∈ podds W p s, 0 ≤ y ∧ y ≤ 3 from (vAc_at (vAc_pact hok hsA)).2.2.2.1)
  have HOL := Lib.hid ho.len
  have HMA := Lib.hid hm
  have hls := hlb s hs
  have hall := all_max hok
  rw [hm, hal] at hall
  have heE : al.tdiv (isum (podds W p s)) = eN W p s := by unfold eN; rw [hm, hal]
  obtain ⟨e, he⟩ : ∃ e, eN W p s = e := ⟨_, rfl⟩
  have HEE := Lib.hid he
  rw [he] at heN heE
  have he2 := heN.2
  obtain ⟨S, hSS⟩ : ∃ S, isum (podds W p s) = S := ⟨_, rfl⟩
  have HSE := Lib.hid hSS
  rw [hSS] at hS heE
  have hS0 : S ≠ 0 := by omega
  have hS0b : (S == 0) = false := by rw [beq_eq_false_iff_ne]; exact hS0
  have k1 : IntKind.i64.wrap e = e := wrap_i64j _ (by omega) (by omega)
  have k2 : IntKind.i64.wrap (al.tdiv S) = e := by rw [heE]; exact k1
  obtain ⟨ls, hlse⟩ : ∃ ls, nth l s = ls := ⟨_, rfl⟩
  have HLS := Lib.hid hlse
  rw [hlse] at hls
  have hcl := hl.cap
  have hco := ho.cap
  unfold maxLen at hcl hco
  have HL := Lib.hid hl
  have HO := Lib.hid ho
  have HB0 := Lib.hid hB
  have HX0 := Lib.hid hax
  have HN0 := Lib.hid hown
  clear hl ho hB hax hown hlb hm hal hSS hlse he heN
  go_loopw [203] (fun t2 wr => ∃ j : Nat, j ≤ m ∧ t2 = .int .i64 j ∧ Hid (wr.ownsRow V.heap.size 3 1 (.slice (some ⟨gb, 0, none⟩) m m) m ((nxL W p l s j).map (Value.int .i64))) ∧ Hid (ActB wr ax g z m q) ∧ Hid (Below V.heap.size V wr)) (fun t2 _ => m - (intOf t2).toNat)
  case atStart => exact ⟨0, by omega, rfl, HN0, HX0, HB0⟩
  case round =>
    clear HN0 HX0 HB0
    obtain ⟨j, hj, rfl, HN, HX, HB⟩ := hrel
    by_cases hlj : j < m
    · have hjA : j < W.acts.length := by rw [HMA.out]; exact hlj
      obtain ⟨b1, o1, rfl, hb1v, hc1⟩ := HO.out.at (by omega)
      have e1 := hc1 j hlj
      rw [← (bcell HB.out).1 _ _ hb1v] at e1
      obtain ⟨b2, o2, rfl, hb2v, hc2⟩ := HL.out.at (by omega)
      have e2 := hc2 s hs
      rw [HLS.out, ← (bcell HB.out).1 _ _ hb2v] at e2
      have hy := HOB.out _ (nth_mem (l := podds W p s) (k := j) (by rw [HOL.out]; exact hlj))
      have hnx := HNX.out j s hjA (by rw [HMA.out]; omega)
      have hnx2 := HNX.out j (s + 1) hjA (by rw [HMA.out]; omega)
      have HST := Lib.hid (nxL_set (W := W) (p := p) (l := l) (s := s) hjA)
      have hcur : nth (nxL W p l s j) j = nxN W p l s j := by rw [nxL_at hjA, if_neg (by omega)]
      have hnn : nxN W p l (s + 1) j = nxN W p l s j + nth l s * nth (podds W p s) j * eN W p s := rfl
      rw [hnn] at hnx2
      rw [HEE.out, HLS.out] at HST hnx2
      obtain ⟨v0, hv0⟩ : ∃ v, nxN W p l s j = v := ⟨_, rfl⟩
      rw [hv0] at hnx hnx2 HST hcur
      obtain ⟨yy, hyy⟩ : ∃ v, nth (podds W p s) j = v := ⟨_, rfl⟩
      rw [hyy] at hy hnx2 HST e1
      have m1 := mul_le3 (A := 20736) (B := 3) (show -20736 ≤ ls by omega) hls.2 (show -3 ≤ yy by omega) hy.2 (by omega)
      obtain ⟨u1, hu1⟩ : ∃ u, ls * yy = u := ⟨_, rfl⟩
      rw [hu1] at m1 hnx2 HST
      have m2 := mul_le3 (A := 62208) (B := 20736) (show -62208 ≤ u1 by omega) (by omega) (show -20736 ≤ e by omega) (by omega) (by omega)
      obtain ⟨u2, hu2⟩ : ∃ u, u1 * e = u := ⟨_, rfl⟩
      rw [hu2] at m2 hnx2 HST
      have hsm4 : s ≤ 4 := by have := (plan_parts hok).2.2.2.1; have := HMA.out; omega
      have k3 : IntKind.i64.wrap (ls * yy) = u1 := by rw [hu1]; exact wrap_i64j _ (by omega) (by omega)
      have k4 : IntKind.i64.wrap (u1 * e) = u2 := by rw [hu2]; exact wrap_i64j _ (by omega) (by omega)
      have k5 : IntKind.i64.wrap (v0 + u2) = v0 + u2 := wrap_i64j _ (by omega) (by omega)
      obtain ⟨_, e9, hgt, hgz, hnc1, hnc2, hcells, hfr, _⟩ := own_cells HN.out (by omega)
      injection e9 with e9
      injection e9 with e9
      subst e9
      have q1 : wr.cell? ⟨gb, j, none⟩ = some (.int .i64 v0) := hcells j _ (by rw [List.getElem?_map, List.getElem?_eq_getElem (by rw [nxL_len]; exact hjA), ← hcur, nth_of_lt (by rw [nxL_len]; exact hjA)]; rfl)
      have HFR := Lib.hid (hfr j)
      have Q1 := Lib.hid q1
      have E2 := Lib.hid e2
      have hb2w := Nat.lt_of_lt_of_le hb2v HB.out.size
      have HSX := Lib.hid (fun (w' : World) (hb : Below wr.heap.size wr w') =>
        (show w'.cell? ⟨gb, j, none⟩ = some (.int .i64 v0) ∧ w'.cell? ⟨b2, o2 + s, none⟩ = some (.int .i64 ls) ∧ w'.cell? ⟨ax, 1, none⟩ = some (.slice (some ⟨b1, o1, none⟩) m q) from ⟨((bcell hb).1 _ _ hgz).trans Q1.out, ((bcell hb).1 _ _ hb2w).trans E2.out, (HX.out.mono hb).cells.2.2⟩))
      have hC : Below wr.heap.size wr wr.drew := (Below.refl _ _).drew
      have hz1 : ax < wr.heap.size := HX.out.cells.1
      have hax1 : wr.cell? ⟨ax, 1, none⟩ = some (.slice (some ⟨b1, o1, none⟩) m q) := HX.out.cells.2.2
      have hjm0 : (0 : Int) ≤ (j : Int) := by omega
      have hjmm : (j : Int) < (m : Int) := by omega
      have hsm0 : (0 : Int) ≤ (s : Int) := by omega
      have hsmm : (s : Int) < (m : Int) := by omega
      have HSUM := Lib.hid (fun (w' : World) (hb : Below wr.heap.size wr w') => rsum_go w' (some ⟨b1, o1, none⟩) m q (podds W p s) (HO.out.mono (btr HB.out hb)) (by have := (plan_parts hok).2.2.2.1; have := HMA.out; omega) HOB.out)
      rw [HSE.out] at HSUM
      clear hc1 hc2 hcells hfr hv0 hyy hu1 hu2 hcur hnn q1 e2
      go_wp2
      refine wp_region_F (S := (fun w' => w'.cell? ⟨gb, j, none⟩ = some (.int .i64 v0) ∧ w'.cell? ⟨b2, o2 + s, none⟩ = some (.int .i64 ls) ∧ w'.cell? ⟨ax, 1, none⟩ = some (.slice (some ⟨b1, o1, none⟩) m q))) 18 (by kernel_rfl) (HSX.out _ hC) (fun hHeld => ?_)
      refine wpAnyF_take (i := 0) (oi := _) (v := ?_) rfl (by kernel_rfl) (by kernel_rfl) (by kernel_rfl) (by kernel_rfl) (fun _ _ _ h => h) (Or.inl ⟨by rfl, ?_⟩) (by assumption) ?_
      rotate_left
      · intro w hSw
        (try dsimp only at hSw)
        go_simp
        all_goals with_reducible rfl
      (try simp only [Act.put, List.setIfInBounds_toArray, List.set_cons_zero, List.set_cons_succ])
      refine wpAnyF_take (i := 1) (oi := _) (v := ?_) rfl (by kernel_rfl) (by kernel_rfl) (by kernel_rfl) (by kernel_rfl) (fun _ _ _ h => h) (Or.inl ⟨by rfl, ?_⟩) (by assumption) ?_
      rotate_left
      · intro w hSw
        (try dsimp only at hSw)
        go_simp
        all_goals with_reducible rfl
      (try simp only [Act.put, List.setIfInBounds_toArray, List.set_cons_zero, List.set_cons_succ])
      refine wpAnyF_take (i := 2) (oi := _) (v := ?_) rfl (by kernel_rfl) (by kernel_rfl) (by kernel_rfl) (by kernel_rfl) (fun _ _ _ h => h) (Or.inl ⟨by rfl, ?_⟩) (by assumption) ?_
      rotate_left
      · intro w hSw
        (try dsimp only at hSw)
        go_simp
        all_goals with_reducible rfl
      (try simp only [Act.put, List.setIfInBounds_toArray, List.set_cons_zero, List.set_cons_succ])
      refine wpAnyF_take (i := 3) (oi := _) (v := ?_) rfl (by kernel_rfl) (by kernel_rfl) (by kernel_rfl) (by kernel_rfl) (fun _ _ _ h => h) (Or.inl ⟨by rfl, ?_⟩) (by assumption) ?_
      rotate_left
      · intro w hSw
        (try dsimp only at hSw)
        go_simp
        all_goals with_reducible rfl
      (try simp only [Act.put, List.setIfInBounds_toArray, List.set_cons_zero, List.set_cons_succ])
      refine wpAnyF_take (i := 4) (oi := _) (v := ?_) rfl (by kernel_rfl) (by kernel_rfl) (by kernel_rfl) (by kernel_rfl) (fun _ _ _ h => h) (Or.inl ⟨by rfl, ?_⟩) (by assumption) ?_
      rotate_left
      · intro w hSw
        (try dsimp only at hSw)
        go_simp
        all_goals with_reducible rfl
      (try simp only [Act.put, List.setIfInBounds_toArray, List.set_cons_zero, List.set_cons_succ])
      refine wpAnyF_take (i := 5) (oi := _) (v := ?_) rfl (by kernel_rfl) (by kernel_rfl) (by kernel_rfl) (by kernel_rfl) (fun _ _ _ h => h) (Or.inl ⟨by rfl, ?_⟩) (by assumption) ?_
      rotate_left
      · intro w hSw
        (try dsimp only at hSw)
        go_simp
        all_goals with_reducible rfl
      (try simp only [Act.put, List.setIfInBounds_toArray, List.set_cons_zero, List.set_cons_succ])
      refine wpAnyF_take (i := 6) (oi := _) (v := ?_) rfl (by kernel_rfl) (by kernel_rfl) (by kernel_rfl) (by kernel_rfl) (fun _ _ _ h => h) (Or.inl ⟨by rfl, ?_⟩) (by assumption) ?_
      rotate_left
      · intro w hSw
        (try dsimp only at hSw)
        go_simp
        all_goals with_reducible rfl
      (try simp only [Act.put, List.setIfInBounds_toArray, List.set_cons_zero, List.set_cons_succ])
      refine wpAnyF_take (i := 7) (oi := _) (v := ?_) rfl (by kernel_rfl) (by kernel_rfl) (by kernel_rfl) (by kernel_rfl) (fun _ _ _ h => h) (Or.inl ⟨by rfl, ?_⟩) (by assumption) ?_
      rotate_left
      · intro w hSw
        (try dsimp only at hSw)
        go_simp
        all_goals with_reducible rfl
      (try simp only [Act.put, List.setIfInBounds_toArray, List.set_cons_zero, List.set_cons_succ])
      refine wpAnyF_take (i := 8) (oi := _) (v := ?_) rfl (by kernel_rfl) (by kernel_rfl) (by kernel_rfl) (by kernel_rfl) (fun _ _ _ h => h) (Or.inl ⟨by rfl, ?_⟩) (by assumption) ?_
      rotate_left
      · intro w hSw
        (try dsimp only at hSw)
        go_simp
        all_goals with_reducible rfl
      (try simp only [Act.put, List.setIfInBounds_toArray, List.set_cons_zero, List.set_cons_succ])
      refine wpAnyF_take (i := 9) (oi := _) (v := ?_) rfl (by kernel_rfl) (by kernel_rfl) (by kernel_rfl) (by kernel_rfl) (fun _ _ _ h => h) (Or.inl ⟨by rfl, ?_⟩) (by assumption) ?_
      rotate_left
      · intro w hSw
        (try dsimp only at hSw)
        go_simp
        all_goals with_reducible rfl
      (try simp only [Act.put, List.setIfInBounds_toArray, List.set_cons_zero, List.set_cons_succ])
      refine wpAnyF_take (i := 10) (oi := _) (v := ?_) rfl (by kernel_rfl) (by kernel_rfl) (by kernel_rfl) (by kernel_rfl) (fun _ _ _ h => h) (Or.inl ⟨by rfl, ?_⟩) (by assumption) ?_
      rotate_left
      · intro w hSw
        (try dsimp only at hSw)
        go_simp
        all_goals with_reducible rfl
      (try simp only [Act.put, List.setIfInBounds_toArray, List.set_cons_zero, List.set_cons_succ])
      refine wpAnyF_take (i := 11) (oi := _) (v := ?_) rfl (by kernel_rfl) (by kernel_rfl) (by kernel_rfl) (by kernel_rfl) (fun _ _ _ h => h) (Or.inl ⟨by rfl, ?_⟩) (by assumption) ?_
      rotate_left
      · intro w hSw
        (try dsimp only at hSw)
        go_simp
        all_goals with_reducible rfl
      (try simp only [Act.put, List.setIfInBounds_toArray, List.set_cons_zero, List.set_cons_succ])
      refine wpAnyF_take (i := 12) (oi := _) (v := ?_) rfl (by kernel_rfl) (by kernel_rfl) (by kernel_rfl) (by kernel_rfl) (fun _ _ _ h => h) (Or.inl ⟨by rfl, ?_⟩) (by assumption) ?_
      rotate_left
      · intro w hSw
        (try dsimp only at hSw)
        go_simp
        all_goals with_reducible rfl
      (try simp only [Act.put, List.setIfInBounds_toArray, List.set_cons_zero, List.set_cons_succ])
      refine wpAnyF_one (i := 13) (o := _) (by kernel_rfl) rfl (fun K hK => ?_)
      go_simp
      refine (HSUM.out _ hC).mono ?_
      rintro e' w' ⟨rfl, hw⟩
      replace hC := btr hC (show Below _ _ w' by rw [hw]; exact Below.refl _ _)
      clear hw
      refine hK.out _ _ (HSX.out _ hC) (fun hHeld => ?_)
      clear hK K
      (try simp only [Act.put, List.setIfInBounds_toArray, List.set_cons_zero, List.set_cons_succ])
      refine wpAnyF_take (i := 14) (oi := _) (v := ?_) rfl (by kernel_rfl) (by kernel_rfl) (by kernel_rfl) (by kernel_rfl) (fun _ _ _ h => h) (Or.inl ⟨by rfl, ?_⟩) (by assumption) ?_
      rotate_left
      · intro w hSw
        (try dsimp only at hSw)
        go_simp
        all_goals with_reducible rfl
      (try simp only [Act.put, List.setIfInBounds_toArray, List.set_cons_zero, List.set_cons_succ])
      refine wpAnyF_take (i := 15) (oi := _) (v := ?_) rfl (by kernel_rfl) (by kernel_rfl) (by kernel_rfl) (by kernel_rfl) (fun _ _ _ h => h) (Or.inl ⟨by rfl, ?_⟩) (by assumption) ?_
      rotate_left
      · intro w hSw
        (try dsimp only at hSw)
        go_simp
        all_goals with_reducible rfl
      (try simp only [Act.put, List.setIfInBounds_toArray, List.set_cons_zero, List.set_cons_succ])
      refine wpAnyF_take (i := 16) (oi := _) (v := ?_) rfl (by kernel_rfl) (by kernel_rfl) (by kernel_rfl) (by kernel_rfl) (fun _ _ _ h => h) (Or.inl ⟨by rfl, ?_⟩) (by assumption) ?_
      rotate_left
      · intro w hSw
        (try dsimp only at hSw)
        go_simp
        all_goals with_reducible rfl
      (try simp only [Act.put, List.setIfInBounds_toArray, List.set_cons_zero, List.set_cons_succ])
      refine wpAnyF_take (i := 17) (oi := _) (v := ?_) rfl (by kernel_rfl) (by kernel_rfl) (by kernel_rfl) (by kernel_rfl) (fun _ _ _ h => h) (Or.inl ⟨by rfl, ?_⟩) (by assumption) ?_
      rotate_left
      · intro w hSw
        (try dsimp only at hSw)
        go_simp
        all_goals with_reducible rfl
      (try simp only [Act.put, List.setIfInBounds_toArray, List.set_cons_zero, List.set_cons_succ])
      refine wpAnyF_last (o := _) (by kernel_rfl) rfl (by kernel_rfl) (fun K hK => ?_)
      obtain ⟨u1z, u2z, u3z⟩ := HSX.out _ hC
      have u6z : _ = false := ((bcell hC).2 gb j hgz).trans HFR.out
      have u7z : gb < _ := Nat.lt_of_lt_of_le hgz hC.size
      go_simp
      refine hK.out _ _ ?_
      clear hK K
      (try simp only [Act.put, List.setIfInBounds_toArray, List.set_cons_zero, List.set_cons_succ])
      have HN2 := Lib.hid (show (World.setCell w' ⟨gb, j, none⟩ (.int .i64 (v0 + u2))).ownsRow V.heap.size 3 1 (.slice (some ⟨gb, 0, none⟩) m m) m ((nxL W p l s (j + 1)).map (Value.int .i64)) by
        rw [HST.out, List.map_set]; exact ((own_mono HN.out hC).stored j _).1)
      have HX2 := Lib.hid (show ActB (World.setCell w' ⟨gb, j, none⟩ (.int .i64 (v0 + u2))) ax g (some ⟨b1, o1, none⟩) m q from (Below.heap_setCell _ _ _ ax hne).trans (HX.out.mono hC))
      have HB2 := Lib.hid ((btr HB.out hC).setCell (p := ⟨gb, j, none⟩) hgb (.int .i64 (v0 + u2)))
      clear hC
      go_wp2
      go_roundw
      case rel => go_light; exact ⟨j + 1, by omega, by go_num, HN2, HX2, HB2⟩
      case measure => simp [intOf]; omega
    · obtain rfl : j = m := by omega
      have HN2 := Lib.hid (show wr.ownsRow V.heap.size 3 1 (.slice (some ⟨gb, 0, none⟩) j j) j ((nxL W p l (s + 1) 0).map (Value.int .i64)) by rw [← nxL_next, HMA.out]; exact HN.out)
      go_wp2
      exact ⟨rfl, hexit _ _ _ _ _ _ _ _ _ _ _ _ _ _ _ _ _ _ _ _ _ _ _ _ _ _ _ HN2.out HB.out⟩
end Go.Proofs.Ytcmakddnjmeklaa
