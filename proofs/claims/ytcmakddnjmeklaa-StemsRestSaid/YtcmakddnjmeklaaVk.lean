/- Chapter 9, the reference: Rest: the states that come again. -/
import Derived.Test.YtcmakddnjmeklaaVc
import Derived.Test.YtcmakddnjmeklaaPn
import Derived.Test.YtcmakddnjmeklaaVi
namespace Go.Proofs.Ytcmakddnjmeklaa
open Go.RowKit
set_option linter.unusedSimpArgs false

noncomputable def rrBody (i : Nat) : Code := ((loopBodies (Try.f43.body.getD .skip))[i]?).getD .skip
theorem ag_test {W : Wd} {p : List Int} {f s : Nat} (hs : s < W.acts.length) : (agSet W p f).testBit s = ((rch W p f).testBit s && backB W p s W.acts.length) := by
  rw [Bool.eq_iff_iff, Bool.and_eq_true]
  unfold agSet
  rw [agS_bit]
  exact ⟨fun h => h.2, fun h => ⟨hs, h⟩⟩

set_option maxRecDepth 100000 in
set_option maxHeartbeats 4000000 in
theorem rr_again (V : World) (pw n c m d f : Nat) (W : Wd) (x y : Option Addr) (p : List Int) (hw : BoxR V pw W.a W.b x n c) (hA : A2Sl V x n c W.acts) (hp : Sl V y m d p) (hok : isPlanB W p = true) (hf : f < n) (R : Act → World → Prop)
    (c0 c2 c4 c5 c6 c7 c10 c11 c12 c13 c14 c15 c16 c17 c18 c19 c20 c21 c22 c23 c24 c25 c26 c27 c28 c29 c30 c31 c32 c33 c34 c35 c38 c39 c40 c41 c42 c43 c44 c45 c46 c47 c48 c49 c50 c51 c52 c53 c54 c55 c56 c57 c58 c59 c60 c61 c62 c63 c64 c65 c66 c67 c68 c69 c70 c71 c72 c73 c74 c75 c76 c77 c78 c79 c80 c81 c82 c83 c84 c85 c86 c87 c88 c89 c90 c91 c92 c93 c94 c95 c96 c97 c98 c99 c100 c101 c102 c103 c104 c105 c106 c107 c108 c109 c110 c111 c112 c113 c114 c115 c116 c117 c118 c119 c120 c121 c122 c123 c124 c125 c126 c127 c128 c129 c130 c131 c132 c133 c134 c135 c136 c137 c138 c139 c140 c141 c142 c143 c144 c145 c146 c147 c148 c149 c150 c151 c152 c153 c154 c155 c156 c157 c158 c159 c160 c161 c162 c163 c164 c165 c166 c167 c168 c169 c170 c171 c172 c173 c174 c175 c176 c177 c178 c179 c180 c181 c182 c183 c184 c185 c186 c187 c188 c189 c190 c191 c192 c193 c194 c195 c196 c197 c198 c199 c200 c201 c202 c203 c204 c205 c206 c207 c208 c209 c210 c211 c212 c213 c214 c215 c216 c217 c218 c219 c220 c221 c222 c223 c224 c225 c226 c227 c228 c229 c230 c231 c232 c233 c234 c235 c236 c237 c238 c239 : Value)
    (hexit : ∀ (la : Option Addr) (K lc : Nat), ∀ (u10 u11 u12 u37 u38 u39 u40 u41 u42 u43 u44 u45 u46 u47 u48 u49 u50 u51 u52 u53 u54 u55 u56 u57 u58 u59 u60 u61 u62 u63 u64 u65 u66 u67 u68 u69 u70 u71 u72 u73 u74 u75 u76 u77 : Value) (w' : World), K = (stL (agSet W p f) W.acts.length).length → Sl w' la K lc (natI (stL (agSet W p f) W.acts.length)) → Below V.heap.size V w' → R ⟨List.toArray (c0 :: .slice y m d :: c2 :: .pointer (some ⟨pw, 0, none⟩) :: c4 :: c5 :: c6 :: c7 :: .int .i64 (rch W p f) :: .slice la K lc :: u10 :: u11 :: u12 :: c13 :: c14 :: c15 :: c16 :: c17 :: c18 :: c19 :: c20 :: c21 :: c22 :: c23 :: c24 :: c25 :: c26 :: c27 :: c28 :: c29 :: c30 :: c31 :: c32 :: c33 :: c34 :: c35 :: .int .i64 m :: u37 :: u38 :: u39 :: u40 :: u41 :: u42 :: u43 :: u44 :: u45 :: u46 :: u47 :: u48 :: u49 :: u50 :: u51 :: u52 :: u53 :: u54 :: u55 :: u56 :: u57 :: u58 :: u59 :: u60 :: u61 :: u62 :: u63 :: u64 :: u65 :: u66 :: u67 :: u68 :: u69 :: u70 :: u71 :: u72 :: u73 :: u74 :: u75 :: u76 :: u77 :: c78 :: c79 :: c80 :: c81 :: c82 :: c83 :: c84 :: c85 :: c86 :: c87 :: c88 :: c89 :: c90 :: c91 :: c92 :: c93 :: c94 :: c95 :: c96 :: c97 :: c98 :: c99 :: c100 :: c101 :: c102 :: c103 :: c104 :: c105 :: c106 :: c107 :: c108 :: c109 :: c110 :: c111 :: c112 :: c113 :: c114 :: c115 :: c116 :: c117 :: c118 :: c119 :: c120 :: c121 :: c122 :: c123 :: c124 :: c125 :: c126 :: c127 :: c128 :: c129 :: c130 :: c131 :: c132 :: c133 :: c134 :: c135 :: c136 :: c137 :: c138 :: c139 :: c140 :: c141 :: c142 :: c143 :: c144 :: c145 :: c146 :: c147 :: c148 :: c149 :: c150 :: c151 :: c152 :: c153 :: c154 :: c155 :: c156 :: c157 :: c158 :: c159 :: c160 :: c161 :: c162 :: c163 :: c164 :: c165 :: c166 :: c167 :: c168 :: c169 :: c170 :: c171 :: c172 :: c173 :: c174 :: c175 :: c176 :: c177 :: c178 :: c179 :: c180 :: c181 :: c182 :: c183 :: c184 :: c185 :: c186 :: c187 :: c188 :: c189 :: c190 :: c191 :: c192 :: c193 :: c194 :: c195 :: c196 :: c197 :: c198 :: c199 :: c200 :: c201 :: c202 :: c203 :: c204 :: c205 :: c206 :: c207 :: c208 :: c209 :: c210 :: c211 :: c212 :: c213 :: c214 :: c215 :: c216 :: c217 :: c218 :: c219 :: c220 :: c221 :: c222 :: c223 :: c224 :: c225 :: c226 :: c227 :: c228 :: c229 :: c230 :: c231 :: c232 :: c233 :: c234 :: c235 :: c236 :: c237 :: c238 :: c239 :: []), []⟩ w') :
    Code.wp Try.prog (Code.loop (rrBody 0)) (OnExit 0 R) ⟨List.toArray (c0 :: .slice y m d :: c2 :: .pointer (some ⟨pw, 0, none⟩) :: c4 :: c5 :: c6 :: c7 :: .int .i64 (rch W p f) :: .slice none 0 0 :: c10 :: c11 :: c12 :: c13 :: c14 :: c15 :: c16 :: c17 :: c18 :: c19 :: c20 :: c21 :: c22 :: c23 :: c24 :: c25 :: c26 :: c27 :: c28 :: c29 :: c30 :: c31 :: c32 :: c33 :: c34 :: c35 :: .int .i64 m :: .int .i64 0 :: c38 :: c39 :: c40 :: c41 :: c42 :: c43 :: c44 :: c45 :: c46 :: c47 :: c48 :: c49 :: c50 :: c51 :: c52 :: c53 :: c54 :: c55 :: c56 :: c57 :: c58 :: c59 :: c60 :: c61 :: c62 :: c63 :: c64 :: c65 :: c66 :: c67 :: c68 :: c69 :: c70 :: c71 :: c72 :: c73 :: c74 :: c75 :: c76 :: c77 :: c78 :: c79 :: c80 :: c81 :: c82 :: c83 :: c84 :: c85 :: c86 :: c87 :: c88 :: c89 :: c90 :: c91 :: c92 :: c93 :: c94 :: c95 :: c96 :: c97 :: c98 :: c99 :: c100 :: c101 :: c102 :: c103 :: c104 :: c105 :: c106 :: c107 :: c108 :: c109 :: c110 :: c111 :: c112 :: c113 :: c114 :: c115 :: c116 :: c117 :: c118 :: c119 :: c120 :: c121 :: c122 :: c123 :: c124 :: c125 :: c126 :: c127 :: c128 :: c129 :: c130 :: c131 :: c132 :: c133 :: c134 :: c135 :: c136 :: c137 :: c138 :: c139 :: c140 :: c141 :: c142 :: c143 :: c144 :: c145 :: c146 :: c147 :: c148 :: c149 :: c150 :: c151 :: c152 :: c153 :: c154 :: c155 :: c156 :: c157 :: c158 :: c159 :: c160 :: c161 :: c162 :: c163 :: c164 :: c165 :: c166 :: c167 :: c168 :: c169 :: c170 :: c171 :: c172 :: c173 :: c174 :: c175 :: c176 :: c177 :: c178 :: c179 :: c180 :: c181 :: c182 :: c183 :: c184 :: c185 :: c186 :: c187 :: c188 :: c189 :: c190 :: c191 :: c192 :: c193 :: c194 :: c195 :: c196 :: c197 :: c198 :: c199 :: c200 :: c201 :: c202 :: c203 :: c204 :: c205 :: c206 :: c207 :: c208 :: c209 :: c210 :: c211 :: c212 :: c213 :: c214 :: c215 :: c216 :: c217 :: c218 :: c219 :: c220 :: c221 :: c222 :: c223 :: c224 :: c225 :: c226 :: c227 :: c228 :: c229 :: c230 :: c231 :: c232 :: c233 :: c234 :: c235 :: c236 :: c237 :: c238 :: c239 :: []), []⟩ V := by
  conv => arg 2; arg 1; whnf
  have HA := Lib.hid hA
  have HP := Lib.hid hp
  have HZ := Lib.hid hw
  have HOK := Lib.hid hok
  have HNA := Lib.hid hA.1
  obtain ⟨_, hpl, _, ⟨hn1, hn4, _⟩, _⟩ := plan_parts hok
  have hnA := hA.1
  have hmp := hp.len
  obtain rfl : m = n := by omega
  have hn4 : m ≤ 4 := by omega
  have HRL := Lib.hid (fun g (hg : g < m) => rch_16 (f := g) hok (by omega))
  have HAT := Lib.hid (fun s (hs : s < W.acts.length) => ag_test (W := W) (p := p) (f := f) hs)
  have hrf := HRL.out f hf
  obtain ⟨RF, hRF⟩ : ∃ RF, rch W p f = RF := ⟨_, rfl⟩
  rw [hRF] at hrf HAT hexit ⊢
  obtain ⟨X, hX⟩ : ∃ X, agSet W p f = X := ⟨_, rfl⟩
  rw [hX] at HAT hexit
  clear hA hp hw hok hpl hnA hmp hRF hX hn1
  go_loopw [9, 37] (fun v t2 wr => ∃ s : Nat, s ≤ m ∧ t2 = .int .i64 s ∧ Hid (wr.ownsRow V.heap.size 3 1 v (stL X s).length ((natI (stL X s)).map (Value.int .i64))) ∧ Hid (Below V.heap.size V wr)) (fun _ t2 _ => m - (intOf t2).toNat)
  case atStart => exact ⟨0, by omega, rfl, Lib.hid (World.ownsRow_nil _ _ _ _), Lib.hid (Below.refl _ _)⟩
  case round =>
    obtain ⟨s, hs, rfl, HO, HB⟩ := hrel
    by_cases hls : s < m
    · have HAS := Lib.hid (show X.testBit s = (RF.testBit s && backB W p s m) by rw [HAT.out s (by rw [HNA.out]; exact hls), HNA.out])
      have hb9 := bits_bt RF s (by omega)
      have hb1' := bt1 RF s
      have hs64 : s < 64 := by omega
      obtain ⟨tb, htb⟩ : ∃ tb, RF.testBit s = tb := ⟨_, rfl⟩
      rw [htb] at hb1' HAS
      have hrs := HRL.out s hls
      have HBS := Lib.hid (show ∀ k, backB W p s (k + 1) = (backB W p s k && (!(rch W p s).testBit k || (rch W p k).testBit s)) from fun k => rfl)
      obtain ⟨RS, hRS⟩ : ∃ RS, rch W p s = RS := ⟨_, rfl⟩
      have HRS := Lib.hid hRS
      rw [hRS] at hrs HBS
      clear hRS htb
      go_wp2
      generalize wr = U at *
      go_loopw [11, 47] (fun v t2 wr => ∃ k : Nat, k ≤ m ∧ t2 = .int .i64 k ∧ v = .bool (tb && backB W p s k) ∧ Hid (Below U.heap.size U wr)) (fun _ t2 _ => m - (intOf t2).toNat)
      case atStart => exact ⟨0, by omega, rfl, by rw [show backB W p s 0 = true from rfl, Bool.and_true], Lib.hid (Below.refl _ _)⟩
      case round =>
        obtain ⟨k, hk, rfl, rfl, HC⟩ := hrel
        by_cases hlk : k < m
        · have HBK := Lib.hid (HBS.out k)
          have hrk := HRL.out k hlk
          have hk64 : k < 64 := by omega
          have hq1 := bits_bt RS k (by omega)
          have hq0 := bt0 RS k
          have HBC := Lib.hid (btr HB.out HC.out)
          obtain ⟨z0, z1, z2, z3⟩ := (HZ.out.mono HBC.out).cells
          cases hbk : (tb && backB W p s k) with
          | false =>
            have HN := Lib.hid (show (tb && backB W p s (k + 1)) = false by rw [HBK.out, ← Bool.and_assoc, hbk]; rfl)
            go_wp2
            go_roundw
            case rel => go_light; exact ⟨k + 1, by omega, by go_num, by rw [HN.out], HC⟩
            case measure => simp [intOf]; omega
          | true =>
            have HBK2 := Lib.hid (show (tb && backB W p s (k + 1)) = (!RS.testBit k || (rch W p k).testBit s) by rw [HBK.out, ← Bool.and_assoc, hbk]; rfl)
            go_wp2_with fail
            refine (rreach_go _ x y m c m d s W p (HA.out.mono HBC.out) (HP.out.mono HBC.out) HOK.out hls).mono ?_
            rintro e w2 ⟨rfl, hb⟩
            rw [HRS.out]
            have HC2 := Lib.hid (btr HC.out hb)
            have HBC2 := Lib.hid (btr HBC.out hb)
            clear hb z0 z1 z2 z3
            obtain ⟨z0, z1, z2, z3⟩ := (HZ.out.mono HBC2.out).cells
            cases htk : RS.testBit k with
            | false =>
              have HN := Lib.hid (show (tb && backB W p s (k + 1)) = true by rw [HBK2.out, htk]; rfl)
              rw [htk] at hq0
              go_wp2
              go_roundw
              case rel => go_light; exact ⟨k + 1, by omega, by go_num, by rw [HN.out], HC2⟩
              case measure => simp [intOf]; omega
            | true =>
              rw [htk] at hq0 HBK2
              go_wp2_with fail
              refine (rreach_go _ x y m c m d k W p (HA.out.mono HBC2.out) (HP.out.mono HBC2.out) HOK.out hlk).mono ?_
              rintro e w3 ⟨rfl, hb⟩
              have HC3 := Lib.hid (btr HC2.out hb)
              have hv1 := bits_bt (rch W p k) s (by omega)
              have hv2 := bt1 (rch W p k) s
              have HN := Lib.hid (show (tb && backB W p s (k + 1)) = (rch W p k).testBit s by rw [HBK2.out]; simp)
              clear hb z0 z1 z2 z3
              generalize rch W p k = RK at *
              obtain ⟨tc, htc⟩ : ∃ tb, RK.testBit s = tb := ⟨_, rfl⟩
              rw [htc] at hv2 HN
              go_wp2
              go_roundw
              case rel => go_light; exact ⟨k + 1, by omega, by go_num, by rw [HN.out], HC3⟩
              case measure => simp [intOf]; omega
        · obtain rfl : k = m := by omega
          have HSS := Lib.hid (stL_succ X s)
          have hsl := stL_len (X := X) (n := s)
          rw [← HAS.out]
          cases hxb : X.testBit s with
          | false =>
            have HN := Lib.hid (show stL X (s + 1) = stL X s by rw [HSS.out, hxb]; simp)
            have HO2 := Lib.hid (own_mono HO.out HC.out)
            have HB2 := Lib.hid (btr HB.out HC.out)
            go_wp2
            go_roundw
            case rel => go_light; exact ⟨s + 1, by omega, by go_num, by rw [HN.out]; exact HO2, HB2⟩
            case measure => simp [intOf]; omega
          | true =>
            have HN := Lib.hid (show stL X (s + 1) = stL X s ++ [s] by rw [HSS.out, hxb]; simp)
            have hown := own_mono HO.out HC.out
            obtain ⟨ln, hln⟩ : ∃ z, (stL X s).length = z := ⟨_, rfl⟩
            have HLN := Lib.hid hln
            rw [hln] at hown hsl
            obtain ⟨va, vc, rfl⟩ := own_form hown
            have HB2 := Lib.hid (btr HB.out HC.out)
            have hwz := HB2.out.size
            clear hln
            go_wp2_with (at_builtin; refine wpList_app1 rfl _ _ 26 rfl Try.underlying26 infoInt rfl (by decide) V.heap.size (.slice va ln vc) ln _ rfl (hown.alloc _) wr.heap.size #[.int .i64 (s : Int)] rfl (new_at _ _) rfl (by simp [Value.oneCell']) (by omega) (by omega) (by simp; omega) ?_; intro v' wn hown' hgrow; obtain ⟨wa, wc, rfl⟩ := own_form hown')
            have HO2 := Lib.hid (show wn.ownsRow V.heap.size 3 1 (.slice wa (ln + 1) wc) (stL X (s + 1)).length ((natI (stL X (s + 1))).map (Value.int .i64)) by
              rw [HN.out, natI_app, List.map_append, List.length_append, HLN.out]; exact hown')
            have HBN := Lib.hid ((bal HB2.out (.cells #[.int .i64 (s : Int)] 3)).grown hgrow (by simp; omega) (fun i hi => (hown.lt i hi).1))
            clear hown hown' hgrow
            go_wp2
            go_roundw
            case rel => go_light; exact ⟨s + 1, by omega, by go_num, HO2, HBN⟩
            case measure => simp [intOf]; omega
    · obtain rfl : s = m := by omega
      have hown := HO.out
      obtain ⟨va, vc, rfl⟩ := own_form hown
      have HS := Lib.hid (own_sl hown)
      clear hown
      rw [HNA.out] at hexit
      go_wp2
      exact ⟨rfl, hexit va _ vc _ _ _ _ _ _ _ _ _ _ _ _ _ _ _ _ _ _ _ _ _ _ _ _ _ _ _ _ _ _ _ _ _ _ _ _ _ _ _ _ _ _ _ _ _ rfl HS.out HB.out⟩

set_option maxRecDepth 100000 in
set_option maxHeartbeats 4000000 in
theorem rr_check (V : World) (pw n c m d K lc f : Nat) (W : Wd) (x y la : Option Addr) (p : List Int) (hw : BoxR V pw W.a W.b x n c) (hA : A2Sl V x n c W.acts) (hp : Sl V y m d p) (hok : isPlanB W p = true) (hf : f < n) (hK : K = (stL (agSet W p f) W.acts.length).length) (hl : Sl V la K lc (natI (stL (agSet W p f) W.acts.length))) (R S : Act → World → Prop)
    (c0 c2 c4 c5 c6 c7 c8 c10 c11 c12 c13 c14 c15 c16 c17 c18 c19 c20 c21 c22 c23 c24 c25 c26 c27 c28 c29 c30 c31 c32 c33 c34 c35 c36 c37 c38 c39 c40 c41 c42 c43 c44 c45 c46 c47 c48 c49 c50 c51 c52 c53 c54 c55 c56 c57 c58 c59 c60 c61 c62 c63 c64 c65 c66 c67 c68 c69 c70 c71 c72 c73 c74 c75 c76 c77 c81 c82 c83 c84 c85 c86 c87 c88 c89 c90 c91 c92 c93 c94 c95 c96 c97 c98 c99 c100 c101 c102 c103 c104 c105 c106 c107 c108 c109 c110 c111 c112 c113 c114 c115 c116 c117 c118 c119 c120 c121 c122 c123 c124 c125 c126 c127 c128 c129 c130 c131 c132 c133 c134 c135 c136 c137 c138 c139 c140 c141 c142 c143 c144 c145 c146 c147 c148 c149 c150 c151 c152 c153 c154 c155 c156 c157 c158 c159 c160 c161 c162 c163 c164 c165 c166 c167 c168 c169 c170 c171 c172 c173 c174 c175 c176 c177 c178 c179 c180 c181 c182 c183 c184 c185 c186 c187 c188 c189 c190 c191 c192 c193 c194 c195 c196 c197 c198 c199 c200 c201 c202 c203 c204 c205 c206 c207 c208 c209 c210 c211 c212 c213 c214 c215 c216 c217 c218 c219 c220 c221 c222 c223 c224 c225 c226 c227 c228 c229 c230 c231 c232 c233 c234 c235 c236 c237 c238 c239 : Value)
    (hexit : Hid (agOk W p f = true → ∀ (u6 u7 u14 u16 u80 u81 u82 u83 u84 u85 u86 u87 u88 u89 u90 u91 u92 u93 u94 u95 u96 u97 u98 u99 : Value) (w' : World), Below V.heap.size V w' → R ⟨List.toArray (c0 :: .slice y m d :: c2 :: .pointer (some ⟨pw, 0, none⟩) :: c4 :: c5 :: u6 :: u7 :: c8 :: .slice la K lc :: c10 :: c11 :: c12 :: c13 :: u14 :: c15 :: u16 :: c17 :: c18 :: c19 :: c20 :: c21 :: c22 :: c23 :: c24 :: c25 :: c26 :: c27 :: c28 :: c29 :: c30 :: c31 :: c32 :: c33 :: c34 :: c35 :: c36 :: c37 :: c38 :: c39 :: c40 :: c41 :: c42 :: c43 :: c44 :: c45 :: c46 :: c47 :: c48 :: c49 :: c50 :: c51 :: c52 :: c53 :: c54 :: c55 :: c56 :: c57 :: c58 :: c59 :: c60 :: c61 :: c62 :: c63 :: c64 :: c65 :: c66 :: c67 :: c68 :: c69 :: c70 :: c71 :: c72 :: c73 :: c74 :: c75 :: c76 :: c77 :: .slice la K lc :: .int .i64 K :: u80 :: u81 :: u82 :: u83 :: u84 :: u85 :: u86 :: u87 :: u88 :: u89 :: u90 :: u91 :: u92 :: u93 :: u94 :: u95 :: u96 :: u97 :: u98 :: u99 :: c100 :: c101 :: c102 :: c103 :: c104 :: c105 :: c106 :: c107 :: c108 :: c109 :: c110 :: c111 :: c112 :: c113 :: c114 :: c115 :: c116 :: c117 :: c118 :: c119 :: c120 :: c121 :: c122 :: c123 :: c124 :: c125 :: c126 :: c127 :: c128 :: c129 :: c130 :: c131 :: c132 :: c133 :: c134 :: c135 :: c136 :: c137 :: c138 :: c139 :: c140 :: c141 :: c142 :: c143 :: c144 :: c145 :: c146 :: c147 :: c148 :: c149 :: c150 :: c151 :: c152 :: c153 :: c154 :: c155 :: c156 :: c157 :: c158 :: c159 :: c160 :: c161 :: c162 :: c163 :: c164 :: c165 :: c166 :: c167 :: c168 :: c169 :: c170 :: c171 :: c172 :: c173 :: c174 :: c175 :: c176 :: c177 :: c178 :: c179 :: c180 :: c181 :: c182 :: c183 :: c184 :: c185 :: c186 :: c187 :: c188 :: c189 :: c190 :: c191 :: c192 :: c193 :: c194 :: c195 :: c196 :: c197 :: c198 :: c199 :: c200 :: c201 :: c202 :: c203 :: c204 :: c205 :: c206 :: c207 :: c208 :: c209 :: c210 :: c211 :: c212 :: c213 :: c214 :: c215 :: c216 :: c217 :: c218 :: c219 :: c220 :: c221 :: c222 :: c223 :: c224 :: c225 :: c226 :: c227 :: c228 :: c229 :: c230 :: c231 :: c232 :: c233 :: c234 :: c235 :: c236 :: c237 :: c238 :: c239 :: []), []⟩ w'))
    (hret : Hid (agOk W p f = false → ∀ (u14 u16 u80 u81 u82 u83 u84 u85 u86 u87 u88 u89 u90 u91 u92 u93 u94 u95 u96 u97 u98 u99 : Value) (w' : World), Below V.heap.size V w' → S ⟨List.toArray (c0 :: .slice y m d :: c2 :: .pointer (some ⟨pw, 0, none⟩) :: c4 :: c5 :: .slice none 0 0 :: .int .i64 5 :: c8 :: .slice la K lc :: c10 :: c11 :: c12 :: c13 :: u14 :: c15 :: u16 :: c17 :: c18 :: c19 :: c20 :: c21 :: c22 :: c23 :: c24 :: c25 :: c26 :: c27 :: c28 :: c29 :: c30 :: c31 :: c32 :: c33 :: c34 :: c35 :: c36 :: c37 :: c38 :: c39 :: c40 :: c41 :: c42 :: c43 :: c44 :: c45 :: c46 :: c47 :: c48 :: c49 :: c50 :: c51 :: c52 :: c53 :: c54 :: c55 :: c56 :: c57 :: c58 :: c59 :: c60 :: c61 :: c62 :: c63 :: c64 :: c65 :: c66 :: c67 :: c68 :: c69 :: c70 :: c71 :: c72 :: c73 :: c74 :: c75 :: c76 :: c77 :: .slice la K lc :: .int .i64 K :: u80 :: u81 :: u82 :: u83 :: u84 :: u85 :: u86 :: u87 :: u88 :: u89 :: u90 :: u91 :: u92 :: u93 :: u94 :: u95 :: u96 :: u97 :: u98 :: u99 :: c100 :: c101 :: c102 :: c103 :: c104 :: c105 :: c106 :: c107 :: c108 :: c109 :: c110 :: c111 :: c112 :: c113 :: c114 :: c115 :: c116 :: c117 :: c118 :: c119 :: c120 :: c121 :: c122 :: c123 :: c124 :: c125 :: c126 :: c127 :: c128 :: c129 :: c130 :: c131 :: c132 :: c133 :: c134 :: c135 :: c136 :: c137 :: c138 :: c139 :: c140 :: c141 :: c142 :: c143 :: c144 :: c145 :: c146 :: c147 :: c148 :: c149 :: c150 :: c151 :: c152 :: c153 :: c154 :: c155 :: c156 :: c157 :: c158 :: c159 :: c160 :: c161 :: c162 :: c163 :: c164 :: c165 :: c166 :: c167 :: c168 :: c169 :: c170 :: c171 :: c172 :: c173 :: c174 :: c175 :: c176 :: c177 :: c178 :: c179 :: c180 :: c181 :: c182 :: c183 :: c184 :: c185 :: c186 :: c187 :: c188 :: c189 :: c190 :: c191 :: c192 :: c193 :: c194 :: c195 :: c196 :: c197 :: c198 :: c199 :: c200 :: c201 :: c202 :: c203 :: c204 :: c205 :: c206 :: c207 :: c208 :: c209 :: c210 :: c211 :: c212 :: c213 :: c214 :: c215 :: c216 :: c217 :: c218 :: c219 :: c220 :: c221 :: c222 :: c223 :: c224 :: c225 :: c226 :: c227 :: c228 :: c229 :: c230 :: c231 :: c232 :: c233 :: c234 :: c235 :: c236 :: c237 :: c238 :: c239 :: []), []⟩ w')) :
    Code.wp Try.prog (Code.loop (rrBody 2)) (OnEnd 4 R S) ⟨List.toArray (c0 :: .slice y m d :: c2 :: .pointer (some ⟨pw, 0, none⟩) :: c4 :: c5 :: c6 :: c7 :: c8 :: .slice la K lc :: c10 :: c11 :: c12 :: c13 :: c14 :: c15 :: c16 :: c17 :: c18 :: c19 :: c20 :: c21 :: c22 :: c23 :: c24 :: c25 :: c26 :: c27 :: c28 :: c29 :: c30 :: c31 :: c32 :: c33 :: c34 :: c35 :: c36 :: c37 :: c38 :: c39 :: c40 :: c41 :: c42 :: c43 :: c44 :: c45 :: c46 :: c47 :: c48 :: c49 :: c50 :: c51 :: c52 :: c53 :: c54 :: c55 :: c56 :: c57 :: c58 :: c59 :: c60 :: c61 :: c62 :: c63 :: c64 :: c65 :: c66 :: c67 :: c68 :: c69 :: c70 :: c71 :: c72 :: c73 :: c74 :: c75 :: c76 :: c77 :: .slice la K lc :: .int .i64 K :: .int .i64 0 :: c81 :: c82 :: c83 :: c84 :: c85 :: c86 :: c87 :: c88 :: c89 :: c90 :: c91 :: c92 :: c93 :: c94 :: c95 :: c96 :: c97 :: c98 :: c99 :: c100 :: c101 :: c102 :: c103 :: c104 :: c105 :: c106 :: c107 :: c108 :: c109 :: c110 :: c111 :: c112 :: c113 :: c114 :: c115 :: c116 :: c117 :: c118 :: c119 :: c120 :: c121 :: c122 :: c123 :: c124 :: c125 :: c126 :: c127 :: c128 :: c129 :: c130 :: c131 :: c132 :: c133 :: c134 :: c135 :: c136 :: c137 :: c138 :: c139 :: c140 :: c141 :: c142 :: c143 :: c144 :: c145 :: c146 :: c147 :: c148 :: c149 :: c150 :: c151 :: c152 :: c153 :: c154 :: c155 :: c156 :: c157 :: c158 :: c159 :: c160 :: c161 :: c162 :: c163 :: c164 :: c165 :: c166 :: c167 :: c168 :: c169 :: c170 :: c171 :: c172 :: c173 :: c174 :: c175 :: c176 :: c177 :: c178 :: c179 :: c180 :: c181 :: c182 :: c183 :: c184 :: c185 :: c186 :: c187 :: c188 :: c189 :: c190 :: c191 :: c192 :: c193 :: c194 :: c195 :: c196 :: c197 :: c198 :: c199 :: c200 :: c201 :: c202 :: c203 :: c204 :: c205 :: c206 :: c207 :: c208 :: c209 :: c210 :: c211 :: c212 :: c213 :: c214 :: c215 :: c216 :: c217 :: c218 :: c219 :: c220 :: c221 :: c222 :: c223 :: c224 :: c225 :: c226 :: c227 :: c228 :: c229 :: c230 :: c231 :: c232 :: c233 :: c234 :: c235 :: c236 :: c237 :: c238 :: c239 :: []), []⟩ V := by
  conv => arg 2; arg 1; whnf
  have HA := Lib.hid hA
  have HP := Lib.hid hp
  have HZ := Lib.hid hw
  have HOK := Lib.hid hok
  have HNA := Lib.hid hA.1
  obtain ⟨_, hpl, _, ⟨hn1, hn4, _⟩, _⟩ := plan_parts hok
  have hnA := hA.1
  have hmp := hp.len
  obtain rfl : m = n := by omega
  have hn4 : m ≤ 4 := by omega
  have hfA : f < W.acts.length := by omega
  have HRL := Lib.hid (fun g (hg : g < m) => rch_16 (f := g) hok (by omega))
  have hK4 : K ≤ 4 := by have := stL_len (X := agSet W p f) (n := W.acts.length); omega
  have HGN := Lib.hid (fun i (hi : i < K) => ix_gN (X := agSet W p f) (n := W.acts.length) (i := i) (by omega))
  have HYES := Lib.hid (show (∀ i j, i < K → j < K → (rch W p (gN (stL (agSet W p f) W.acts.length) i)).testBit (gN (stL (agSet W p f) W.acts.length) j) = true) → agOk W p f = true from fun h => (agOk_iff hfA).2 fun s t hs ht => by
    have h1 := h (ix (agSet W p f) s) (ix (agSet W p f) t) (by have := ix_lt (ag_in hs).1 hs; unfold ix at *; omega) (by have := ix_lt (ag_in ht).1 ht; unfold ix at *; omega)
    rw [gN_ix _ (ag_in hs).1 hs, gN_ix _ (ag_in ht).1 ht] at h1
    exact h1)
  have HNO := Lib.hid (show ∀ i j, i < K → j < K → (rch W p (gN (stL (agSet W p f) W.acts.length) i)).testBit (gN (stL (agSet W p f) W.acts.length) j) = false → agOk W p f = false from fun i j hi hj h => by
    cases hq : agOk W p f with
    | false => rfl
    | true =>
      have h2 := (agOk_iff hfA).1 hq _ _ (HGN.out i hi).2.1 (HGN.out j hj).2.1
      rw [h] at h2; cases h2)
  have hcl := hl.cap
  unfold maxLen at hcl
  have HL := Lib.hid hl
  obtain ⟨L, hL⟩ : ∃ L, stL (agSet W p f) W.acts.length = L := ⟨_, rfl⟩
  have HGL := Lib.hid (show ∀ i, i < K → gN L i < m from fun i hi => by have := (HGN.out i hi).1; rw [hL] at this; omega)
  rw [hL] at HYES HNO HL
  clear hA hp hw hok hpl hnA hmp hn1 hl hK hL HGN hfA
  go_loopw [80] (fun t2 wr => ∃ i : Nat, i ≤ K ∧ t2 = .int .i64 i ∧ Hid (∀ a b, a < i → b < K → (rch W p (gN L a)).testBit (gN L b) = true) ∧ Hid (Below V.heap.size V wr)) (fun t2 _ => K - (intOf t2).toNat)
  case atStart => exact ⟨0, by omega, rfl, Lib.hid (fun a b ha => by omega), Lib.hid (Below.refl _ _)⟩
  case round =>
    obtain ⟨i, hi, rfl, HR, HB⟩ := hrel
    by_cases hli : i < K
    · obtain ⟨s, hsE⟩ : ∃ s, gN L i = s := ⟨_, rfl⟩
      have hsm := HGL.out i hli
      rw [hsE] at hsm
      have HSE := Lib.hid hsE
      obtain ⟨b0, o0, rfl, hb0, hc0⟩ := HL.out.at (by omega)
      have e0 := hc0 i hli
      rw [natI_at, hsE, ← (bcell HB.out).1 _ _ hb0] at e0
      have hrs := HRL.out s hsm
      clear hsE
      go_wp2
      generalize wr = U at *
      go_loopw [86] (fun t2 wr => ∃ j : Nat, j ≤ K ∧ t2 = .int .i64 j ∧ Hid (∀ b, b < j → (rch W p s).testBit (gN L b) = true) ∧ Hid (Below U.heap.size U wr)) (fun t2 _ => K - (intOf t2).toNat)
      case atStart => exact ⟨0, by omega, rfl, Lib.hid (fun b hb => by omega), Lib.hid (Below.refl _ _)⟩
      case round =>
        obtain ⟨j, hj, rfl, HJ, HC⟩ := hrel
        by_cases hlj : j < K
        · obtain ⟨u, huE⟩ : ∃ u, gN L j = u := ⟨_, rfl⟩
          have hum := HGL.out j hlj
          rw [huE] at hum
          have HUE := Lib.hid huE
          have HBC := Lib.hid (btr HB.out HC.out)
          have e1 := hc0 j hlj
          rw [natI_at, huE, ← (bcell HBC.out).1 _ _ hb0] at e1
          have hwz := HBC.out.size
          obtain ⟨z0, z1, z2, z3⟩ := (HZ.out.mono HBC.out).cells
          clear huE
          go_wp2_with fail
          refine (rreach_go _ x y m c m d s W p (HA.out.mono HBC.out) (HP.out.mono HBC.out) HOK.out hsm).mono ?_
          rintro e w2 ⟨rfl, hb⟩
          have HC2 := Lib.hid (btr HC.out hb)
          have hv1 := bits_bt (rch W p s) u (by omega)
          have hv2 := bt0 (rch W p s) u
          have hu64 : u < 64 := by omega
          clear hb z0 z1 z2 z3
          obtain ⟨RS, hRS⟩ : ∃ RS, rch W p s = RS := ⟨_, rfl⟩
          have HRS := Lib.hid hRS
          rw [hRS] at hv1 hv2 ⊢
          clear hRS
          cases htb : RS.testBit u with
          | true =>
            have HJ2 := Lib.hid (show ∀ b, b < j + 1 → (rch W p s).testBit (gN L b) = true from fun b hb => by
              by_cases e : b = j
              · subst e; rw [HRS.out, HUE.out]; exact htb
              · exact HJ.out b (by omega))
            rw [htb] at hv2
            go_wp2
            go_roundw
            case rel => go_light; exact ⟨j + 1, by omega, by go_num, HJ2, HC2⟩
            case measure => simp [intOf]; omega
          | false =>
            have HF := Lib.hid (HNO.out i j hli hlj (by rw [HSE.out, HUE.out, HRS.out]; exact htb))
            have HB3 := Lib.hid (btr HB.out HC2.out)
            rw [htb] at hv2
            go_wp2
            exact hret.out HF.out _ _ _ _ _ _ _ _ _ _ _ _ _ _ _ _ _ _ _ _ _ _ _ HB3.out
        · obtain rfl : j = K := by omega
          have HR2 := Lib.hid (show ∀ a b, a < i + 1 → b < j → (rch W p (gN L a)).testBit (gN L b) = true from fun a b ha hb => by
            by_cases e : a = i
            · subst e; rw [HSE.out]; exact HJ.out b hb
            · exact HR.out a b (by omega) hb)
          have HB2 := Lib.hid (btr HB.out HC.out)
          go_wp2
          go_roundw
          case rel => go_light; exact ⟨i + 1, by omega, by go_num, HR2, HB2⟩
          case measure => simp [intOf]; omega
    · obtain rfl : i = K := by omega
      have HY := Lib.hid (HYES.out fun a b ha hb => HR.out a b ha hb)
      go_wp2
      exact ⟨rfl, hexit.out HY.out _ _ _ _ _ _ _ _ _ _ _ _ _ _ _ _ _ _ _ _ _ _ _ _ _ HB.out⟩
end Go.Proofs.Ytcmakddnjmeklaa
