/- Chapter 9, walks: better. -/
import Derived.Test.YtcmakddnjmeklaaWf
import Derived.Test.YtcmakddnjmeklaaWg
namespace Go.Proofs.Ytcmakddnjmeklaa
open Go.RowKit
noncomputable def beBody (i : Nat) : Code := ((loopBodies (Try.f55.body.getD .skip))[i]?).getD .skip
theorem cf_more (args : Array Value) (w : World) : (callFunc 79 args).run Try.prog w = .ok (.enter 79 args) w := by kernel_rfl
/-- A boxed act, whose odds lie in an elder world. -/
def ActAt (V w : World) (p k : Nat) (x : Ac) : Prop := ∃ z q, w.heap[p]? = some (.cells #[.int .i64 x.g, .slice z k q] 50 (0, 0)) ∧ Sl V z k q x.o
theorem own_at {w : World} {base n c g : Nat} {L : List Int} (h : w.ownsRow base 3 1 (.slice (some ⟨g, 0, none⟩) n c) n (L.map (Value.int .i64))) (hn : 0 < n) : base ≤ g ∧ g < w.heap.size ∧ (∀ i, i < n → w.cell? ⟨g, i, none⟩ = some (.int .i64 (nth L i))) ∧ (∀ i, w.frozen? ⟨g, i, none⟩ = false) ∧ n ≤ c ∧ c ≤ maxLen ∧ ∃ cur, w.heap[g]? = some (.cells cur 3 (0, 0)) := by
  obtain ⟨g', e, h1, h2, h3, h4, h5, h6, h7⟩ := own_cells h hn
  injection e with e
  injection e with e
  subst e
  have hl : L.length = n := by have := h.1; simpa using this
  exact ⟨h1, h2, fun i hi => h5 i _ (by rw [List.getElem?_map, List.getElem?_eq_getElem (by omega), nth_of_lt (by omega)]; rfl), h6, h3, h4, h7⟩

set_option maxRecDepth 100000 in
set_option maxHeartbeats 1000000 in
theorem be_acts (V W : World) (pw pp pb go n c k m d s na ca oc own : Nat) (a b : Int) (x y xa : Option Addr) (As : List Ac) (l L : List Int) (dv : Int) (f0 : Bool) (mo : Nat → Nat → Bool) (hmo : ∀ i j, mo i j = decide (tel a b (ac As j) (nth l) dv * isum (ac As i).o < tel a b (ac As i) (nth l) dv * isum (ac As j).o))
    (hA : AcSl V xa na ca As) (hB : Below V.heap.size V W) (hw : BoxW V pw a b x n c) (hpp : BoxP V pp y m d dv) (hl : Sl V y m d l) (hout : W.ownsRow V.heap.size 3 1 (.slice (some ⟨go, 0, none⟩) k oc) k (L.map (Value.int .i64)))
    (hb12 : ActAt V W pb k (ac As own)) (hpb : V.heap.size ≤ pb) (hLs : nth L s = own) (hs : s < k) (hown : own < na) (hv : ∀ i, i < na → vAc k (ac As i) = true) (hna : na ≤ 3) (hk : k ≤ 4) (hkm : k ≤ m) (ha : 1 ≤ a) (hab : a < b) (hb : b ≤ 4)
    (hlb : ∀ e ∈ l, -1000000000000 ≤ e ∧ e ≤ 1000000000000) (hd : 0 ≤ dv ∧ dv ≤ 1000000000) (R : Act → World → Prop)
    (c0 c1 c2 c3 c4 c5 c6 c10 c13 c14 c15 c16 c17 c18 c19 c20 c21 c22 c23 c24 c25 c26 c27 c28 c29 c30 c31 c32 c33 c34 c35 c39 c40 c41 c42 c43 c44 c45 c46 c47 c48 c49 c50 c51 c52 c53 c54 c55 : Value)
    (hexit : ∀ (f : Bool), ∀ (u13 u14 u38 u39 u40 u41 u42 u43 u44 u45 u46 u47 u48 u49 u50 u51 u52 : Value) (w' : World), f = (f0 || fIx mo own na) → w'.ownsRow V.heap.size 3 1 (.slice (some ⟨go, 0, none⟩) k oc) k ((L.set s (bIx mo own na : Int)).map (Value.int .i64)) → Below V.heap.size V w' → R ⟨List.toArray (c0 :: c1 :: c2 :: c3 :: c4 :: c5 :: c6 :: .slice (some ⟨go, 0, none⟩) k oc :: .bool f :: .int .i64 s :: c10 :: .func (Fn.func 79) #[] #[.pointer (some ⟨pw, 0, none⟩), .pointer (some ⟨pp, 0, none⟩)] :: .pointer (some ⟨pb, 0, none⟩) :: u13 :: u14 :: c15 :: c16 :: c17 :: c18 :: c19 :: c20 :: c21 :: c22 :: c23 :: c24 :: c25 :: c26 :: c27 :: c28 :: c29 :: c30 :: c31 :: c32 :: c33 :: c34 :: c35 :: .slice xa na ca :: .int .i64 na :: u38 :: u39 :: u40 :: u41 :: u42 :: u43 :: u44 :: u45 :: u46 :: u47 :: u48 :: u49 :: u50 :: u51 :: u52 :: c53 :: c54 :: c55 :: []), []⟩ w') :
    Code.wp Try.prog (Code.loop (beBody 1)) (OnExit 2 R) ⟨List.toArray (c0 :: c1 :: c2 :: c3 :: c4 :: c5 :: c6 :: .slice (some ⟨go, 0, none⟩) k oc :: .bool f0 :: .int .i64 s :: c10 :: .func (Fn.func 79) #[] #[.pointer (some ⟨pw, 0, none⟩), .pointer (some ⟨pp, 0, none⟩)] :: .pointer (some ⟨pb, 0, none⟩) :: c13 :: c14 :: c15 :: c16 :: c17 :: c18 :: c19 :: c20 :: c21 :: c22 :: c23 :: c24 :: c25 :: c26 :: c27 :: c28 :: c29 :: c30 :: c31 :: c32 :: c33 :: c34 :: c35 :: .slice xa na ca :: .int .i64 na :: .int .i64 0 :: c39 :: c40 :: c41 :: c42 :: c43 :: c44 :: c45 :: c46 :: c47 :: c48 :: c49 :: c50 :: c51 :: c52 :: c53 :: c54 :: c55 :: []), []⟩ W := by
  conv => arg 2; arg 1; whnf
  have hcf := cf_more
  have HA := Lib.hid hA
  have HW := Lib.hid hw
  have HP := Lib.hid hpp
  have HL := Lib.hid hl
  have HV := Lib.hid hv
  have HLB := Lib.hid hlb
  have HMO := Lib.hid hmo
  have hLl : L.length = k := by have := hout.1; simpa using this
  have HLL := Lib.hid hLl
  have HSET := Lib.hid (show L.set s (own : Int) = L by
    refine List.ext_getElem (by simp) fun i h1 h2 => ?_
    rw [List.getElem_set]
    split
    · rename_i e; subst e; rw [← hLs, nth_of_lt h2]
    · rfl)
  have hcap := hA.2.cap
  unfold maxLen at hcap
  clear hA hw hpp hl hv hlb hmo hLl hLs
  go_loopw [8, 38] (fun f t wr => ∃ (j : Nat) (fb : Bool), j ≤ na ∧ t = .int .i64 j ∧ f = .bool fb ∧ Hid (fb = (f0 || fIx mo own j)) ∧ Hid (wr.ownsRow V.heap.size 3 1 (.slice (some ⟨go, 0, none⟩) k oc) k ((L.set s (bIx mo own j : Int)).map (Value.int .i64))) ∧ Hid (ActAt V wr pb k (ac As (bIx mo own j))) ∧ Hid (bIx mo own j < na) ∧ Hid (Below V.heap.size V wr)) (fun _ t _ => na - (intOf t).toNat)
  case atStart => exact ⟨0, f0, by omega, rfl, rfl, Lib.hid (by simp [fIx]), Lib.hid (by show W.ownsRow _ _ _ _ _ ((L.set s (own : Int)).map _); rw [HSET.out]; exact hout), Lib.hid hb12, Lib.hid hown, Lib.hid hB⟩
  case round =>
    clear hout hb12 hB hown
    obtain ⟨j, fb, hj, rfl, rfl, HF, HO, H12, HBX, HB⟩ := hrel
    by_cases hlj : j < na
    · obtain ⟨b1, o1, rfl, hb1, hc1⟩ := HA.out.at (by omega)
      obtain ⟨eg, z, k1, q, eo, hS⟩ := hc1 j hlj
      have hvj := HV.out j hlj
      have hk1 : k1 = k := by rw [← hS.len]; exact (vAc_at hvj).2.2.1
      subst hk1
      rw [← (bcell HB.out).1 _ _ hb1] at eg eo
      have hb1' := Nat.lt_of_lt_of_le hb1 HB.out.size
      have HS := Lib.hid hS
      have HVJ := Lib.hid hvj
      have HVB := Lib.hid (HV.out _ HBX.out)
      obtain ⟨z12, q12, h12, hS12⟩ := H12.out
      have HS12 := Lib.hid hS12
      have H12' := Lib.hid h12
      have e1 : bIx mo own (j + 1) = if mo j (bIx mo own j) then j else bIx mo own j := rfl
      have e2 : fIx mo own (j + 1) = (fIx mo own j || mo j (bIx mo own j)) := rfl
      rw [HMO.out] at e1 e2
      have E1 := Lib.hid e1
      have E2 := Lib.hid e2
      generalize bIx mo own j = bj at *
      generalize fIx mo own j = fj at *
      obtain ⟨X1, hX1⟩ : ∃ X, ac As j = X := ⟨_, rfl⟩
      obtain ⟨X2, hX2⟩ : ∃ X, ac As bj = X := ⟨_, rfl⟩
      have HX1 := Lib.hid hX1
      have HX2 := Lib.hid hX2
      rw [hX1] at eg
      rw [hX2] at h12
      have p0 : wr.cell? ⟨pb, 0, none⟩ = some (.int .i64 X2.g) := by rw [cells_at h12]; rfl
      have p1 : wr.cell? ⟨pb, 1, none⟩ = some (.slice z12 k1 q12) := by rw [cells_at h12]; rfl
      have p2 := free_at h12 0
      have p3 := free_at h12 1
      have p4 := lt_of_block h12
      have hwa := bal (Below.refl wr.heap.size wr) (.cells #[.int .i64 X1.g, .slice z k1 q] 50)
      have HWA := Lib.hid hwa
      have H14 := Lib.hid (new_at wr (.cells #[.int .i64 X1.g, .slice z k1 q] 50))
      have HBA := Lib.hid (btr HB.out hwa)
      clear hc1 hS hvj hS12 h12 e1 e2 hX1 hX2 hwa
      go_wp2_with fail
      refine (more_go _ a b pw pp n c k1 q q12 m d x y z z12 X1 X2 l dv (persist HW.out HBA.out) (persist HP.out HBA.out) (by have := HS.out.mono HBA.out; rwa [HX1.out] at this) (by have := HS12.out.mono HBA.out; rwa [HX2.out] at this) (HL.out.mono HBA.out) (by have := HVJ.out; rwa [HX1.out] at this) (by have := HVB.out; rwa [HX2.out] at this) hk hkm ha hab hb HLB.out hd).mono ?_
      rintro e w2 ⟨rfl, hb2⟩
      have HB2 := Lib.hid (btr HBA.out hb2)
      have H14' := Lib.hid (persist H14.out hb2)
      have HO2 := Lib.hid (own_mono (own_mono HO.out HWA.out) hb2)
      have h122 := persist (persist H12'.out HWA.out) hb2
      rw [HX2.out] at h122
      have H122 := Lib.hid h122
      have E1' := Lib.hid (show bIx mo own (j + 1) = if decide (tel a b X2 (nth l) dv * isum X1.o < tel a b X1 (nth l) dv * isum X2.o) then j else bj by rw [E1.out, HX1.out, HX2.out])
      have E2' := Lib.hid (show fIx mo own (j + 1) = (fj || decide (tel a b X2 (nth l) dv * isum X1.o < tel a b X1 (nth l) dv * isum X2.o)) by rw [E2.out, HX1.out, HX2.out])
      clear E1 E2
      generalize decide (tel a b X2 (nth l) dv * isum X1.o < tel a b X1 (nth l) dv * isum X2.o) = r at *
      cases r with
      | false =>
        have E1'' := Lib.hid (show bIx mo own (j + 1) = bj from E1'.out)
        have E2'' := Lib.hid (show fIx mo own (j + 1) = fj by rw [E2'.out, Bool.or_false])
        have H12N := Lib.hid (show ActAt V w2 pb k1 (ac As bj) from ⟨z12, q12, by rw [HX2.out]; exact H122.out, HS12.out⟩)
        clear hb2 h122 p0 p1 p2 p3 p4
        go_wp2
        go_roundw
        case rel =>
          go_light
          refine ⟨j + 1, fb, by omega, by go_num, rfl, ?_, ?_, ?_, ?_, HB2⟩
          · rw [E2''.out]; exact HF
          · rw [E1''.out]; exact HO2
          · rw [E1''.out]; exact H12N
          · rw [E1''.out]; exact HBX
        case measure => simp [intOf]; omega
      | true =>
        have E1'' := Lib.hid (show bIx mo own (j + 1) = j by rw [E1'.out]; rfl)
        have E2'' := Lib.hid (show fIx mo own (j + 1) = true by rw [E2'.out, Bool.or_true])
        have q0 : w2.cell? ⟨pb, 0, none⟩ = some (.int .i64 X2.g) := by rw [cells_at h122]; rfl
        have q1 : w2.cell? ⟨pb, 1, none⟩ = some (.slice z12 k1 q12) := by rw [cells_at h122]; rfl
        have q2 := free_at h122 0
        have q3 := free_at h122 1
        have q4 := lt_of_block h122
        have r0 : w2.cell? ⟨wr.heap.size, 0, none⟩ = some (.int .i64 X1.g) := by rw [cells_at H14'.out]; rfl
        have r1 : w2.cell? ⟨wr.heap.size, 1, none⟩ = some (.slice z k1 q) := by rw [cells_at H14'.out]; rfl
        have r4 := lt_of_block H14'.out
        obtain ⟨g1, g2, g3, g4, g5, g6, cur, g7⟩ := own_at HO2.out (by omega)
        have g3s := g3 s hs
        have g4s := g4 s
        have HG7 := Lib.hid g7
        have hne : ¬ go = pb := fun e => by
          subst e
          rw [h122] at g7
          injection g7 with g7
          injection g7 with _ g7
          exact absurd g7 (by decide)
        have hs0 : (0 : Int) ≤ (s : Int) := by omega
        have hsk : (s : Int) < (k1 : Int) := by omega
        unfold maxLen at g6
        have hgV := g1
        have hw3 := set_at (set_at h122 0 (.int .i64 X1.g)) 1 (.slice z k1 q)
        have H12N := Lib.hid (show ActAt V (((w2.setCell ⟨pb, 0, none⟩ (.int .i64 X1.g)).setCell ⟨pb, 1, none⟩ (.slice z k1 q)).setCell ⟨go, s, none⟩ (.int .i64 j)) pb k1 (ac As j) from
          ⟨z, q, by rw [Below.heap_setCell _ _ _ _ (fun e => hne e.symm), hw3, HX1.out]; rfl, HS.out⟩)
        have hO3 := HO2.out.kept (w' := (w2.setCell ⟨pb, 0, none⟩ (.int .i64 X1.g)).setCell ⟨pb, 1, none⟩ (.slice z k1 q)) (row := some pb) (grown_store (grown_store (World.grownBy.refl _ _) _) _) (.inr (fun e => hne (by simpa [Value.ownBlock] using e)))
        have hO4 := (hO3.stored s (.int .i64 j)).1
        rw [← List.map_set, List.set_set] at hO4
        have HO4 := Lib.hid hO4
        have HBN := Lib.hid (((HB2.out.setCell (p := ⟨pb, 0, none⟩) hpb (.int .i64 X1.g)).setCell (p := ⟨pb, 1, none⟩) hpb (.slice z k1 q)).setCell (p := ⟨go, s, none⟩) hgV (.int .i64 j))
        clear hb2 h122 p0 p1 p2 p3 p4 g3 g4 g7 hw3 hO3 hO4
        go_wp2
        go_roundw
        case rel =>
          go_light
          refine ⟨j + 1, true, by omega, by go_num, rfl, ?_, ?_, ?_, ?_, HBN⟩
          · rw [E2''.out]; exact Lib.hid (by simp)
          · rw [E1''.out]; exact HO4
          · rw [E1''.out]; exact H12N
          · rw [E1''.out]; exact Lib.hid hlj
        case measure => simp [intOf]; omega
    · obtain rfl : j = na := by omega
      go_wp2
      exact ⟨rfl, hexit _ _ _ _ _ _ _ _ _ _ _ _ _ _ _ _ _ _ _ HF.out HO.out HB.out⟩

def nextTo (W : Wd) (p : List Int) (s : Nat) : List Int := (List.range W.acts.length).map fun i => if i < s then (bIx (moW W p i) (nth p i).toNat (acl W.acts i).length : Int) else nth p i
theorem nextTo_len {W : Wd} {p : List Int} {s : Nat} : (nextTo W p s).length = W.acts.length := by simp [nextTo]
theorem nextTo_at {W : Wd} {p : List Int} {s i : Nat} (hi : i < W.acts.length) : nth (nextTo W p s) i = if i < s then (bIx (moW W p i) (nth p i).toNat (acl W.acts i).length : Int) else nth p i := by simp [nth, nextTo, hi]
theorem nth_ext {l m : List Int} (hl : l.length = m.length) (h : ∀ i, i < l.length → nth l i = nth m i) : l = m := by
  refine List.ext_getElem hl fun i h1 h2 => ?_
  have := h i h1
  rwa [nth_of_lt h1, nth_of_lt h2] at this
theorem nextTo_zero {W : Wd} {p : List Int} (hp : p.length = W.acts.length) : nextTo W p 0 = p := nth_ext (by rw [nextTo_len, hp]) fun i hi => by rw [nextTo_len] at hi; rw [nextTo_at hi, if_neg (by omega)]
theorem nextTo_end {W : Wd} {p : List Int} : nextTo W p W.acts.length = nextP W p := nth_ext (by rw [nextTo_len, nextP_len]) fun i hi => by rw [nextTo_len] at hi; rw [nextTo_at hi, if_pos hi, nextP_at hi]
theorem nextTo_succ {W : Wd} {p : List Int} {s : Nat} (_hs : s < W.acts.length) : nextTo W p (s + 1) = (nextTo W p s).set s (bIx (moW W p s) (nth p s).toNat (acl W.acts s).length : Int) := by
  refine nth_ext (by simp [nextTo_len]) fun i hi => ?_
  rw [nextTo_len] at hi
  rw [nextTo_at hi, nth_set, nextTo_len]
  by_cases q : s = i
  · subst q; rw [if_pos (show s < s + 1 by omega), if_pos ⟨rfl, hi⟩]
  · rw [if_neg (show ¬ (s = i ∧ i < W.acts.length) from fun e => q e.1), nextTo_at hi]
    by_cases q2 : i < s
    · rw [if_pos (show i < s + 1 by omega), if_pos q2]
    · rw [if_neg (show ¬ i < s + 1 by omega), if_neg q2]
def foundTo (W : Wd) (p : List Int) (s : Nat) : Bool := (List.range s).any fun i => fIx (moW W p i) (nth p i).toNat (acl W.acts i).length
theorem foundTo_succ {W : Wd} {p : List Int} {s : Nat} : foundTo W p (s + 1) = (foundTo W p s || fIx (moW W p s) (nth p s).toNat (acl W.acts s).length) := by unfold foundTo; rw [List.range_succ, List.any_append]; simp
set_option maxRecDepth 100000 in
set_option maxHeartbeats 1000000 in
theorem be_states (V W : World) (pw pp go c k m d oc yc : Nat) (x y ya : Option Addr) (Wo : Wd) (p : List Int) (hA : A2Sl V x k c Wo.acts) (hp : Sl V ya k yc p) (hok : isPlanB Wo p = true)
    (hB : Below V.heap.size V W) (hw : BoxW V pw Wo.a Wo.b x k c) (hpp : BoxP V pp y m d (wD Wo.a Wo.b (planActs Wo.acts p))) (hl : Sl V y m d (wNs Wo.a Wo.b (planActs Wo.acts p))) (hout : W.ownsRow V.heap.size 3 1 (.slice (some ⟨go, 0, none⟩) k oc) k (p.map (Value.int .i64))) (R : Act → World → Prop)
    (c0 c3 c4 c5 c9 c10 c11 c12 c13 c14 c15 c16 c17 c18 c19 c20 c24 c25 c26 c27 c28 c29 c30 c31 c32 c33 c34 c35 c36 c37 c38 c39 c40 c41 c42 c43 c44 c45 c46 c47 c48 c49 c50 c51 c52 c53 c54 c55 : Value)
    (hexit : ∀ (f : Bool), ∀ (u9 u10 u11 u12 u13 u14 u23 u24 u25 u26 u27 u28 u29 u30 u31 u32 u33 u34 u35 u36 u37 u38 u39 u40 u41 u42 u43 u44 u45 u46 u47 u48 u49 u50 u51 u52 u53 : Value) (w' : World), f = foundP Wo p → w'.ownsRow V.heap.size 3 1 (.slice (some ⟨go, 0, none⟩) k oc) k ((nextP Wo p).map (Value.int .i64)) → Below V.heap.size V w' → R ⟨List.toArray (c0 :: .slice ya k yc :: .pointer (some ⟨pw, 0, none⟩) :: c3 :: c4 :: c5 :: .pointer (some ⟨pp, 0, none⟩) :: .slice (some ⟨go, 0, none⟩) k oc :: .bool f :: u9 :: u10 :: u11 :: u12 :: u13 :: u14 :: c15 :: c16 :: c17 :: c18 :: c19 :: c20 :: .slice x k c :: .int .i64 k :: u23 :: u24 :: u25 :: u26 :: u27 :: u28 :: u29 :: u30 :: u31 :: u32 :: u33 :: u34 :: u35 :: u36 :: u37 :: u38 :: u39 :: u40 :: u41 :: u42 :: u43 :: u44 :: u45 :: u46 :: u47 :: u48 :: u49 :: u50 :: u51 :: u52 :: u53 :: c54 :: c55 :: []), []⟩ w') :
    Code.wp Try.prog (Code.loop (beBody 0)) (OnExit 0 R) ⟨List.toArray (c0 :: .slice ya k yc :: .pointer (some ⟨pw, 0, none⟩) :: c3 :: c4 :: c5 :: .pointer (some ⟨pp, 0, none⟩) :: .slice (some ⟨go, 0, none⟩) k oc :: .bool false :: c9 :: c10 :: c11 :: c12 :: c13 :: c14 :: c15 :: c16 :: c17 :: c18 :: c19 :: c20 :: .slice x k c :: .int .i64 k :: .int .i64 0 :: c24 :: c25 :: c26 :: c27 :: c28 :: c29 :: c30 :: c31 :: c32 :: c33 :: c34 :: c35 :: c36 :: c37 :: c38 :: c39 :: c40 :: c41 :: c42 :: c43 :: c44 :: c45 :: c46 :: c47 :: c48 :: c49 :: c50 :: c51 :: c52 :: c53 :: c54 :: c55 :: []), []⟩ W := by
  conv => arg 2; arg 1; whnf
  have hcf := cf_more
  obtain ⟨hvw, hpl, hpa, ⟨hn1, hn4, ha1, hab, hb4⟩, hvv⟩ := plan_parts hok
  have hAn := hA.1
  have HAN := Lib.hid hAn
  have HA := Lib.hid hA
  have HP := Lib.hid hp
  have HOK := Lib.hid hok
  have HW := Lib.hid hw
  have HPP := Lib.hid hpp
  have HL := Lib.hid hl
  have HPA := Lib.hid hpa
  have HVV := Lib.hid hvv
  have hD := wD_pos (okX_plan hok)
  have HNB := Lib.hid (wNs_bound (okX_plan hok))
  have hk4 : k ≤ 4 := by omega
  have hkm : k = m := by have := hl.len; rw [wNs_len, planActs_len] at this; omega
  have hcap := hp.cap
  have hcap2 := hA.2.cap
  unfold maxLen at hcap hcap2
  have HZ0 := Lib.hid (show W.ownsRow V.heap.size 3 1 (.slice (some ⟨go, 0, none⟩) k oc) k ((nextTo Wo p 0).map (Value.int .i64)) by rw [nextTo_zero hpl]; exact hout)
  have HE := Lib.hid (nextTo_end (W := Wo) (p := p))
  have HMO := Lib.hid (mo_eq Wo p)
  clear hA hp hok hw hpp hl hpa hvv hvw hpl hout hn1 hn4
  rw [hAn] at HE
  clear hAn
  have HKM := Lib.hid hkm
  have hkm2 : k ≤ m := by omega
  clear hkm
  have hd : 0 ≤ wD Wo.a Wo.b (planActs Wo.acts p) ∧ wD Wo.a Wo.b (planActs Wo.acts p) ≤ 1000000000 := by omega
  clear hD
  have HD := Lib.hid hd
  clear hd
  go_loopw [8, 23] (fun f t wr => ∃ (s : Nat) (fb : Bool), s ≤ k ∧ t = .int .i64 s ∧ f = .bool fb ∧ Hid (fb = foundTo Wo p s) ∧ Hid (wr.ownsRow V.heap.size 3 1 (.slice (some ⟨go, 0, none⟩) k oc) k ((nextTo Wo p s).map (Value.int .i64))) ∧ Hid (Below V.heap.size V wr)) (fun _ t _ => k - (intOf t).toNat)
  case atStart => exact ⟨0, false, by omega, rfl, rfl, Lib.hid rfl, HZ0, Lib.hid hB⟩
  case round =>
    clear hB HZ0
    obtain ⟨s, fb, hs, rfl, rfl, HF, HO, HB⟩ := hrel
    by_cases hl : s < k
    · have hsA : s < Wo.acts.length := by rw [HAN.out]; exact hl
      obtain ⟨hp0, hp1⟩ := HPA.out s hsA
      obtain ⟨hv1, hv3, hvi⟩ := HVV.out s hsA
      obtain ⟨b1, o1, rfl, hb1, hc1⟩ := HA.out.at (by omega)
      obtain ⟨a2, n2, c2, e2, h2⟩ := hc1 s hl
      have hl2 := h2.1
      obtain ⟨t, ht⟩ : ∃ t : Nat, nth p s = (t : Int) := ⟨(nth p s).toNat, by omega⟩
      obtain ⟨b2, o2, rfl, hb2, hc2⟩ := h2.at (by omega)
      obtain ⟨eg, z, k1, q, eo, hS⟩ := hc2 t (by omega)
      obtain ⟨b3, o3, rfl, hb3, hc3⟩ := HP.out.at (by omega)
      have e3 := hc3 s hl
      rw [ht] at e3
      have hk1 : k1 = k := by rw [← hS.len, ← HAN.out]; exact (vAc_at (hvi t (by omega))).2.2.1
      subst hk1
      have htn : t < n2 := by omega
      have hcn2 := h2.2.cap
      unfold maxLen at hcn2
      have hn23 : n2 ≤ 3 := by omega
      rw [← (bcell HB.out).1 _ _ hb1] at e2
      rw [← (bcell HB.out).1 _ _ hb2] at eg eo
      rw [← (bcell HB.out).1 _ _ hb3] at e3
      have hzz := HB.out.size
      have hb1' := Nat.lt_of_lt_of_le hb1 hzz
      have hb2' := Nat.lt_of_lt_of_le hb2 hzz
      have hb3' := Nat.lt_of_lt_of_le hb3 hzz
      obtain ⟨y0, y1, y2, y3⟩ := BoxW.cells (persist HW.out HB.out)
      have H2 := Lib.hid h2
      have HS := Lib.hid hS
      have HVI := Lib.hid (show ∀ i, i < n2 → vAc k1 (ac (acl Wo.acts s) i) = true from fun i hi => by have := hvi i (by omega); rwa [HAN.out] at this)
      have HT := Lib.hid ht
      have HL2 := Lib.hid hl2
      have HLS := Lib.hid (show nth (nextTo Wo p s) s = (t : Int) by rw [nextTo_at hsA, if_neg (by omega), ht])
      have HBN := Lib.hid (bal HB.out (.cells #[.int .i64 (ac (acl Wo.acts s) t).g, .slice z k1 q] 50))
      have HON := Lib.hid (HO.out.alloc (.cells #[.int .i64 (ac (acl Wo.acts s) t).g, .slice z k1 q] 50))
      have H12 := Lib.hid (show ActAt V (wr.alloc (.cells #[.int .i64 (ac (acl Wo.acts s) t).g, .slice z k1 q] 50)) wr.heap.size k1 (ac (acl Wo.acts s) t) from ⟨z, q, new_at wr _, HS.out⟩)
      have HNX := Lib.hid (nextTo_succ (W := Wo) (p := p) hsA)
      have HFX := Lib.hid (foundTo_succ (W := Wo) (p := p) (s := s))
      clear hc1 hc2 hc3 h2 hS hvi ht hp0 hp1 hl2 hv1 hv3
      generalize (ac (acl Wo.acts s) t).g = gg at *
      go_wp2
      refine wp_onExit (k := 2) (be_acts V _ pw pp wr.heap.size go k1 c k1 m d s n2 c2 oc t Wo.a Wo.b _ y _ (acl Wo.acts s) _ (nextTo Wo p s) _ fb (moW Wo p s) (HMO.out s) H2.out HBN.out HW.out HPP.out HL.out HON.out H12.out hzz HLS.out hl htn HVI.out hn23 hk4 hkm2 ha1 hab hb4 (fun e he => by have := HNB.out e he; omega) HD.out _ _ _ _ _ _ _ _ _ _ _ _ _ _ _ _ _ _ _ _ _ _ _ _ _ _ _ _ _ _ _ _ _ _ _ _ _ _ _ _ _ _ _ _ _ _ _ _ _ ?_)
      intro f v13 v14 v38 v39 v40 v41 v42 v43 v44 v45 v46 v47 v48 v49 v50 v51 v52 w' hf hO hBw
      have HO2 := Lib.hid (show w'.ownsRow V.heap.size 3 1 (.slice (some ⟨go, 0, none⟩) k1 oc) k1 ((nextTo Wo p (s + 1)).map (Value.int .i64)) by
        rw [HNX.out, HT.out, HL2.out]; exact hO)
      have HF2 := Lib.hid (show f = foundTo Wo p (s + 1) by rw [HFX.out, HT.out, HL2.out, hf, HF.out]; rfl)
      have HB2 := Lib.hid hBw
      clear hf hO hBw
      go_wp2
      go_roundw
      case rel => go_light; exact ⟨s + 1, f, by omega, by go_num, rfl, HF2, HO2, HB2⟩
      case measure => simp [intOf]; omega
    · obtain rfl : s = k := by omega
      have HO2 := HO.out
      rw [HE.out] at HO2
      have HO3 := Lib.hid HO2
      have HF3 := Lib.hid (show fb = foundP Wo p by rw [HF.out]; unfold foundTo foundP; rw [HAN.out])
      clear HO2
      go_wp2
      exact ⟨rfl, hexit _ _ _ _ _ _ _ _ _ _ _ _ _ _ _ _ _ _ _ _ _ _ _ _ _ _ _ _ _ _ _ _ _ _ _ _ _ _ _ HF3.out HO3.out HB.out⟩

def GivesBt (w : World) (l : List Int) (f : Bool) (e : Ending) (w' : World) : Prop := ∃ a n c, e = .returned (.tuple #[.slice a n c, .bool f]) ∧ w'.ownsRow w.heap.size 3 1 (.slice a n c) n (l.map (Value.int .i64)) ∧ Below w.heap.size w w'
set_option maxRecDepth 100000 in
set_option maxHeartbeats 1000000 in
theorem better_go (w : World) (x y : Option Addr) (n c m d : Nat) (W : Wd) (p : List Int) (hA : A2Sl w x n c W.acts) (hp : Sl w y m d p) (hok : isPlanB W p = true) :
    Calls Try.prog 55 #[wv W.a W.b x n c, .slice y m d] w (GivesBt w (nextP W p) (foundP W p)) := by
  have hb0 := bal (Below.refl w.heap.size w) (.cells #[.int .i64 W.a, .int .i64 W.b, .slice x n c] 33)
  have HA := Lib.hid (hA.mono hb0)
  have HP := Lib.hid (hp.mono hb0)
  have HB0 := Lib.hid hb0
  have HZ := Lib.hid (show BoxW (w.alloc (.cells #[.int .i64 W.a, .int .i64 W.b, .slice x n c] 33)) w.heap.size W.a W.b x n c from new_at w _)
  obtain ⟨_, hpl, _, ⟨hn1, hn4, _⟩, _⟩ := plan_parts hok
  have hAn := hA.1
  have hpm := hp.len
  obtain rfl : m = n := by omega
  have hm1 : 1 ≤ m := by omega
  have hm4 : m ≤ 4 := by omega
  have hcap := hA.2.cap
  unfold maxLen at hcap
  have HOK := Lib.hid hok
  clear hA hp hb0 hok hpl hn1 hn4 hAn hpm
  go_enter Try.func55, Try.ntmps55
  go_wp2_with fail
  refine (worth_go _ x y m c m d W p HA.out HP.out HOK.out).mono ?_
  rintro e w2 ⟨py, pn, pc, rfl, hP, hb2⟩
  have HB2 := Lib.hid (bal (btr HB0.out hb2) (.cells #[.slice py pn pc, .int .i64 (wD W.a W.b (planActs W.acts p))] 80))
  have hbv := bal (Below.refl w2.heap.size w2) (.cells #[.slice py pn pc, .int .i64 (wD W.a W.b (planActs W.acts p))] 80)
  have HBX := Lib.hid (show BoxP (w2.alloc (.cells #[.slice py pn pc, .int .i64 (wD W.a W.b (planActs W.acts p))] 80)) w2.heap.size py pn pc (wD W.a W.b (planActs W.acts p)) from new_at w2 _)
  have HL := Lib.hid (hP.mono hbv)
  have HA2 := Lib.hid (HA.out.mono (btr hb2 hbv))
  have HP2 := Lib.hid (HP.out.mono (btr hb2 hbv))
  have HZ2 := Lib.hid (show BoxW _ w.heap.size W.a W.b x m c from persist HZ.out (btr hb2 hbv))
  clear hP hb2 hbv
  go_wp2_with fail
  refine (clone_go _ y m d p HP2.out (by omega)).mono ?_
  rintro e w3 ⟨oa, on, oc, rfl, hO, hb3⟩
  have hon : on = m := by rw [← HP2.out.len]; have := hO.1; simpa using this.symm
  subst hon
  obtain ⟨go, rfl, _⟩ := own_cells hO (by omega)
  have HO := Lib.hid hO
  have HB3 := Lib.hid hb3
  obtain ⟨z0, z1, z2, z3⟩ := BoxW.cells (persist HZ2.out hb3)
  clear hO hb3
  go_wp2
  generalize hVe : w2.alloc (.cells #[.slice py pn pc, .int .i64 (wD W.a W.b (planActs W.acts p))] 80) = V at *
  clear hVe
  refine wp_onExit (k := 0) (be_states V w3 w.heap.size w2.heap.size go c on pn pc oc d x py y W p HA2.out HP2.out HOK.out HB3.out HZ2.out HBX.out HL.out HO.out _ _ _ _ _ _ _ _ _ _ _ _ _ _ _ _ _ _ _ _ _ _ _ _ _ _ _ _ _ _ _ _ _ _ _ _ _ _ _ _ _ _ _ _ _ _ _ _ _ ?_)
  intro f v9 v10 v11 v12 v13 v14 v23 v24 v25 v26 v27 v28 v29 v30 v31 v32 v33 v34 v35 v36 v37 v38 v39 v40 v41 v42 v43 v44 v45 v46 v47 v48 v49 v50 v51 v52 v53 w4 hf hO4 hb4
  have HB4 := Lib.hid (btr HB2.out hb4)
  have HO4 := Lib.hid (own_base hO4 HB2.out.size)
  have HF := Lib.hid hf
  clear hO4 hb4 hf
  go_wp2
  go_ret2
  rw [← HF.out]
  exact ⟨_, _, _, rfl, HO4.out, HB4.out⟩
end Go.Proofs.Ytcmakddnjmeklaa
