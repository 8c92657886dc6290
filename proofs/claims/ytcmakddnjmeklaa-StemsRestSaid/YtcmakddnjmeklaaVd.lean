/- Chapter 9: the rest of a plan: the sums on the diagonal. -/
import Derived.Test.YtcmakddnjmeklaaVc
import Derived.Test.YtcmakddnjmeklaaHe
namespace Go.Proofs.Ytcmakddnjmeklaa
open Go.RowKit
set_option linter.unusedSimpArgs false

def fS (W : Wd) (p : List Int) (L : List Nat) (i : Nat) : Int := isum (podds W p (gN L i))
/-- What flows, with the sums of the first i states on the diagonal. -/
def fTo (W : Wd) (p : List Int) (L : List Nat) (i : Nat) : List (List Int) := (List.range L.length).map fun k => if k < i then (fRow W p L (gN L k)).set k (nth (fRow W p L (gN L k)) k + fS W p L k) else fRow W p L (gN L k)
def flow (W : Wd) (p : List Int) (L : List Nat) : List (List Int) := fTo W p L L.length
theorem fTo_len {W : Wd} {p : List Int} {L : List Nat} {i : Nat} : (fTo W p L i).length = L.length := by simp [fTo]
theorem fTo_at {W : Wd} {p : List Int} {L : List Nat} {i k : Nat} (hk : k < L.length) : rw_ (fTo W p L i) k = if k < i then (fRow W p L (gN L k)).set k (nth (fRow W p L (gN L k)) k + fS W p L k) else fRow W p L (gN L k) := by simp [rw_, fTo, hk]
theorem fTo_zero (W : Wd) (p : List Int) (L : List Nat) : fTo W p L 0 = fBare W p L := rw_ext (by rw [fTo_len, fBare_len]) fun k hk => by rw [fTo_len] at hk; rw [fTo_at hk, if_neg (by omega), fBare_at hk]
theorem fTo_succ {W : Wd} {p : List Int} {L : List Nat} {i : Nat} (hi : i < L.length) : fTo W p L (i + 1) = (fTo W p L i).set i ((rw_ (fTo W p L i) i).set i (nth (fRow W p L (gN L i)) i + fS W p L i)) := by
  refine rw_ext (by simp [fTo_len]) fun k hk => ?_
  rw [fTo_len] at hk
  rw [fTo_at hk, fTo_at hi, if_neg (show ¬ i < i by omega)]
  have e : ∀ (L : List (List Int)) (x : List Int), k < L.length → rw_ (L.set i x) k = if i = k then x else rw_ L k := by
    intro L x hL
    unfold rw_
    rw [List.getD_eq_getElem?_getD, List.getD_eq_getElem?_getD, List.getElem?_set]
    by_cases q : i = k
    · subst q; simp [hL]
    · simp [q]
  rw [e _ _ (by rw [fTo_len]; exact hk), fTo_at hk]
  by_cases q : i = k
  · subst q; simp
  · rw [if_neg q]
    by_cases q2 : k < i
    · rw [if_pos (by omega), if_pos q2]
    · rw [if_neg (by omega), if_neg q2]
theorem fRow_bd {W : Wd} {p : List Int} {L : List Nat} {s k : Nat} (h : isPlanB W p = true) (hs : s < W.acts.length) (hk : k < L.length) (hg : gN L k < W.acts.length) : -3 ≤ nth (fRow W p L s) k ∧ nth (fRow W p L s) k ≤ 0 := by
  rw [fRow_at hk]
  have hv := vAc_at (vAc_pact h hs)
  have := hv.2.2.2.1 _ (nth_mem (l := podds W p s) (k := gN L k) (by show _ < (pact W.acts p s).o.length; omega))
  unfold podds at *
  omega
theorem own_keepB {w w' : World} {base e size n : Nat} {v : Value} {xs : List Value} (h : w.ownsRow base e size v n xs) (hk : ∀ b, v.ownBlock = some b → w'.heap[b]? = w.heap[b]?) : w'.ownsRow base e size v n xs :=
  ((own_in h).keepB hk).1

set_option maxRecDepth 100000 in
set_option maxHeartbeats 4000000 in
theorem rt_diag (V V1 : World) (pw n c m d K lc mc top : Nat) (W : Wd) (x y la ma : Option Addr) (p : List Int) (L : List Nat) (hw : BoxW V pw W.a W.b x n c) (hA : A2Sl V x n c W.acts) (hp : Sl V y m d p) (hok : isPlanB W p = true) (hl : Sl V la K lc (natI L)) (hL : ∀ s ∈ L, s < n) (hK : K ≤ 4)
    (hM : RwOwn V1 V.heap.size top (.slice ma K mc) (fBare W p L)) (hB : Below V.heap.size V V1) (htop : top ≤ V1.heap.size) (R : Act → World → Prop)
    (c0 c2 c4 c5 c6 c7 c8 c9 c11 c13 c14 c15 c16 c17 c18 c19 c20 c21 c22 c23 c24 c25 c26 c27 c28 c29 c30 c31 c32 c33 c34 c35 c36 c37 c38 c39 c40 c41 c42 c43 c44 c45 c46 c47 c48 c49 c50 c51 c52 c53 c54 c55 c56 c57 c58 c59 c60 c61 c62 c63 c64 c65 c66 c67 c68 c69 c70 c71 c72 c73 c74 c75 c76 c77 c78 c79 c80 c81 c82 c83 c87 c88 c89 c90 c91 c92 c93 c94 c95 c96 c97 c98 c99 c100 c101 c102 c103 c104 c105 c106 c107 c108 c109 c110 c111 c112 c113 c114 c115 c116 c117 c118 c119 c120 c121 c122 c123 c124 c125 c126 c127 c128 c129 c130 c131 c132 c133 c134 c135 c136 c137 c138 : Value)
    (hexit : ∀ (u20 u21 u86 u87 u88 u89 u90 u91 u92 u93 u94 u95 u96 u97 u98 u99 u100 u101 u102 u103 u104 u105 : Value) (w' : World), RwOwn w' V.heap.size top (.slice ma K mc) (flow W p L) → Below V.heap.size V w' → (∀ b, top ≤ b → b < V1.heap.size → w'.heap[b]? = V1.heap[b]?) → V1.heap.size ≤ w'.heap.size → R ⟨List.toArray (c0 :: .slice y m d :: c2 :: .pointer (some ⟨pw, 0, none⟩) :: c4 :: c5 :: c6 :: c7 :: c8 :: c9 :: .slice la K lc :: c11 :: .slice ma K mc :: c13 :: c14 :: c15 :: c16 :: c17 :: c18 :: c19 :: u20 :: u21 :: c22 :: c23 :: c24 :: c25 :: c26 :: c27 :: c28 :: c29 :: c30 :: c31 :: c32 :: c33 :: c34 :: c35 :: c36 :: c37 :: c38 :: c39 :: c40 :: c41 :: c42 :: c43 :: c44 :: c45 :: c46 :: c47 :: c48 :: c49 :: c50 :: c51 :: c52 :: c53 :: c54 :: c55 :: c56 :: c57 :: c58 :: c59 :: c60 :: c61 :: c62 :: c63 :: c64 :: c65 :: c66 :: c67 :: c68 :: c69 :: c70 :: c71 :: c72 :: c73 :: c74 :: c75 :: c76 :: c77 :: c78 :: c79 :: c80 :: c81 :: c82 :: c83 :: .slice la K lc :: .int .i64 K :: u86 :: u87 :: u88 :: u89 :: u90 :: u91 :: u92 :: u93 :: u94 :: u95 :: u96 :: u97 :: u98 :: u99 :: u100 :: u101 :: u102 :: u103 :: u104 :: u105 :: c106 :: c107 :: c108 :: c109 :: c110 :: c111 :: c112 :: c113 :: c114 :: c115 :: c116 :: c117 :: c118 :: c119 :: c120 :: c121 :: c122 :: c123 :: c124 :: c125 :: c126 :: c127 :: c128 :: c129 :: c130 :: c131 :: c132 :: c133 :: c134 :: c135 :: c136 :: c137 :: c138 :: []), []⟩ w') :
    Code.wp Try.prog (Code.loop (rtBody 3)) (OnExit 6 R) ⟨List.toArray (c0 :: .slice y m d :: c2 :: .pointer (some ⟨pw, 0, none⟩) :: c4 :: c5 :: c6 :: c7 :: c8 :: c9 :: .slice la K lc :: c11 :: .slice ma K mc :: c13 :: c14 :: c15 :: c16 :: c17 :: c18 :: c19 :: c20 :: c21 :: c22 :: c23 :: c24 :: c25 :: c26 :: c27 :: c28 :: c29 :: c30 :: c31 :: c32 :: c33 :: c34 :: c35 :: c36 :: c37 :: c38 :: c39 :: c40 :: c41 :: c42 :: c43 :: c44 :: c45 :: c46 :: c47 :: c48 :: c49 :: c50 :: c51 :: c52 :: c53 :: c54 :: c55 :: c56 :: c57 :: c58 :: c59 :: c60 :: c61 :: c62 :: c63 :: c64 :: c65 :: c66 :: c67 :: c68 :: c69 :: c70 :: c71 :: c72 :: c73 :: c74 :: c75 :: c76 :: c77 :: c78 :: c79 :: c80 :: c81 :: c82 :: c83 :: .slice la K lc :: .int .i64 K :: .int .i64 0 :: c87 :: c88 :: c89 :: c90 :: c91 :: c92 :: c93 :: c94 :: c95 :: c96 :: c97 :: c98 :: c99 :: c100 :: c101 :: c102 :: c103 :: c104 :: c105 :: c106 :: c107 :: c108 :: c109 :: c110 :: c111 :: c112 :: c113 :: c114 :: c115 :: c116 :: c117 :: c118 :: c119 :: c120 :: c121 :: c122 :: c123 :: c124 :: c125 :: c126 :: c127 :: c128 :: c129 :: c130 :: c131 :: c132 :: c133 :: c134 :: c135 :: c136 :: c137 :: c138 :: []), []⟩ V1 := by
  conv => arg 2; arg 1; whnf
  have HVA := Lib.hid (fun s (hs : s < W.acts.length) => vAc_at (vAc_pact hok hs))
  have HFB := Lib.hid (fun s k (hs : s < W.acts.length) (hk : k < L.length) (hg : gN L k < W.acts.length) => fRow_bd hok hs hk hg)
  obtain ⟨_, hpl, hpa, ⟨hn1, hn4, _⟩, _⟩ := plan_parts hok
  have hnA := hA.1
  have hmp := hp.len
  have hlK : K = L.length := by have := hl.len; rw [natI_len] at this; exact this.symm
  have hlcap := hl.cap
  unfold maxLen at hlcap
  obtain rfl : m = n := by omega
  have HNA := Lib.hid hnA
  have HLK := Lib.hid hlK
  have HLN := Lib.hid (show ∀ i, i < K → gN L i < m from fun i hi => hL _ (gN_mem (by omega)))
  have HPP := Lib.hid (show ∀ s, s < m → 0 ≤ nth p s ∧ nth p s < (acl W.acts s).length from fun s hs => hpa s (by omega))
  have hm4 : m ≤ 4 := by omega
  have HA := Lib.hid hA
  have HP := Lib.hid hp
  have HW := Lib.hid hw
  have HL := Lib.hid hl
  have HM0 := Lib.hid (show RwOwn V1 V.heap.size top (.slice ma K mc) (fTo W p L 0) by rw [fTo_zero]; exact hM)
  have HB0 := Lib.hid hB
  have HTP := Lib.hid htop
  clear hA hp hw hl hok hpl hpa hnA hmp hn1 hn4 hL hlK hM hB htop
  go_loopw [86] (fun t2 wr => ∃ i : Nat, i ≤ K ∧ t2 = .int .i64 i ∧ Hid (RwOwn wr V.heap.size top (.slice ma K mc) (fTo W p L i)) ∧ Hid (Below V.heap.size V wr) ∧ Hid (∀ b, top ≤ b → b < V1.heap.size → wr.heap[b]? = V1.heap[b]?) ∧ Hid (V1.heap.size ≤ wr.heap.size)) (fun t _ => K - (intOf t).toNat)
  case atStart => exact ⟨0, by omega, rfl, HM0, HB0, Lib.hid (fun _ _ _ => rfl), Lib.hid (Nat.le_refl _)⟩
  case round =>
    clear HM0 HB0
    obtain ⟨i, hi, rfl, HM, HB, HT, HS⟩ := hrel
    by_cases hli : i < K
    · obtain ⟨t, ht⟩ : ∃ t, gN L i = t := ⟨_, rfl⟩
      have htm := HLN.out i hli
      have hfb := HFB.out (gN L i) i (by rw [HNA.out]; exact htm) (by rw [← HLK.out]; exact hli) (by rw [HNA.out]; exact htm)
      rw [ht] at htm
      have htA : t < W.acts.length := by rw [HNA.out]; exact htm
      have hpa := HPP.out t htm
      obtain ⟨b0, o0, rfl, hb0, hc0⟩ := HL.out.at (by omega)
      have e0 := hc0 i hli
      rw [natI_at, ht, ← (bcell HB.out).1 _ _ hb0] at e0
      obtain ⟨_, _, hol, hor, hS1, hS2⟩ := HVA.out t htA
      have HPO := Lib.hid (show podds W p t = (pact W.acts p t).o from rfl)
      rw [← HPO.out] at hol hor hS1 hS2
      have HFS := Lib.hid (show fS W p L i = isum (podds W p t) by unfold fS; rw [ht])
      have HTL := Lib.hid ht
      -- the row
      obtain ⟨E, D, hTr⟩ := HM.out
      have hlen : (fTo W p L i).length = K := by rw [fTo_len]; exact HLK.out.symm
      obtain ⟨g, rfl, hgV, hg, hnc, hc, hcells, _, _⟩ := own_cells (n := K) (by have := hTr.1.1; rw [hlen] at this; exact this) (by omega)
      unfold maxLen at hc
      have hEi := hTr.2.2.2.2 i (by omega)
      have hrow : rw_ (fTo W p L i) i = fRow W p L (gN L i) := by rw [fTo_at (by rw [← HLK.out]; exact hli), if_neg (by omega)]
      have hrl : (rw_ (fTo W p L i) i).length = K := by rw [hrow, fRow_len]; exact HLK.out.symm
      rw [hrl] at hEi
      obtain ⟨ea, ec, hE⟩ := own_form hEi.1
      have hEo := hEi.1
      rw [hE] at hEo
      obtain ⟨ge, rfl, hge1, hge2, hec1, hec2, hecl, hefr, _⟩ := own_cells hEo (by omega)
      unfold maxLen at hec2
      have hcE : wr.cell? ⟨g, i, none⟩ = some (.slice (some ⟨ge, 0, none⟩) K ec) := hcells i _ (by rw [List.getElem?_map, List.getElem?_range (by omega)]; exact congrArg some hE)
      have hge : ge < top := by
        have h1 := hEi.2 ge (by rw [hE]; rfl)
        have h2 := mono_le hTr.2.2.1 (i + 1) (fTo W p L i).length (by omega) (Nat.le_refl _)
        have := hTr.2.2.2.1
        omega
      have hgeV : V.heap.size ≤ ge := by
        have h1 := mono_le hTr.2.2.1 0 i (by omega) (by omega)
        have := hTr.2.1
        omega
      obtain ⟨v0, hv0⟩ : ∃ v0, nth (fRow W p L (gN L i)) i = v0 := ⟨_, rfl⟩
      have hce : wr.cell? ⟨ge, i, none⟩ = some (.int .i64 v0) := hecl i _ (by rw [hrow, List.getElem?_map, List.getElem?_eq_getElem (by rw [fRow_len, ← HLK.out]; exact hli), ← hv0, nth_of_lt (by rw [fRow_len, ← HLK.out]; exact hli)]; rfl)
      have HFR := Lib.hid (hefr i)
      have HSTO := Lib.hid (fun (w' : World) (hb : Below wr.heap.size wr w') => (show RwOwn (w'.setCell ⟨ge, i, none⟩ (.int .i64 (v0 + isum (podds W p t)))) V.heap.size top (.slice (some ⟨g, 0, none⟩) K mc) (fTo W p L (i + 1)) by
        have hT2 : RwTr w' V.heap.size top (.slice (some ⟨g, 0, none⟩) K mc) (fTo W p L i) E D := hTr.keepB (fun b hbb => hb.block b (hTr.1.1.lt b hbb).2) (fun j hj b hbb => hb.block b (hTr.row_lt hj hbb).2.2)
        have h3 := hT2.stored (s := i) (by omega) ⟨K, ec, hE⟩ (v0 + isum (podds W p t))
        rw [← hv0, ← HFS.out, ← fTo_succ (by rw [← HLK.out]; exact hli)] at h3
        rw [hv0, HFS.out] at h3
        exact ⟨E, D, h3⟩))
      rw [hv0] at hfb
      obtain ⟨S, hSS⟩ : ∃ S, isum (podds W p t) = S := ⟨_, rfl⟩
      rw [hSS] at hS1 hS2 HSTO
      have HSE := Lib.hid hSS
      have hS12 : S ≤ 12 := by have := HNA.out; omega
      have hgz : g < wr.heap.size := hg
      have hgez : ge < wr.heap.size := hge2
      have CE := Lib.hid hcE
      have CV := Lib.hid hce
      have hi0 : (0 : Int) ≤ (i : Int) := by omega
      have hil : (i : Int) < (K : Int) := by omega
      have k5 : IntKind.i64.wrap (v0 + S) = v0 + S := wrap_i64j _ (by omega) (by omega)
      have HSX := Lib.hid (fun (w' : World) (hb : Below wr.heap.size wr w') =>
        (show w'.cell? ⟨g, i, none⟩ = some (.slice (some ⟨ge, 0, none⟩) K ec) ∧ w'.cell? ⟨ge, i, none⟩ = some (.int .i64 v0) ∧ w'.cell? ⟨pw, 0, none⟩ = some (.int .i64 W.a) ∧ w'.cell? ⟨pw, 1, none⟩ = some (.int .i64 W.b) ∧ w'.cell? ⟨pw, 2, none⟩ = some (.slice x m c) from
          have qw := BoxW.cells (persist HW.out (btr HB.out hb))
          ⟨((bcell hb).1 _ _ hgz).trans CE.out, ((bcell hb).1 _ _ hgez).trans CV.out, qw.2.1, qw.2.2.1, qw.2.2.2⟩))
      have HACT := Lib.hid (fun (w' : World) (hb : Below wr.heap.size wr w') => act_goW V w' (btr HB.out hb) W.a W.b x y m c m d t W.acts p HA.out HP.out htm htm hpa.1 hpa.2)
      have HOR := Lib.hid hor
      clear hor hTr hcells hE hEo hEi hefr hecl hrl hlen hc0 hcE hce hrow hv0 hSS ht
      have hC : Below wr.heap.size wr wr.drew := (Below.refl _ _).drew
      have hz1 : pw < wr.heap.size := (BoxW.cells (persist HW.out HB.out)).1
      go_wp2
      refine wp_region_F (S := (fun w' => w'.cell? ⟨g, i, none⟩ = some (.slice (some ⟨ge, 0, none⟩) K ec) ∧ w'.cell? ⟨ge, i, none⟩ = some (.int .i64 v0) ∧ w'.cell? ⟨pw, 0, none⟩ = some (.int .i64 W.a) ∧ w'.cell? ⟨pw, 1, none⟩ = some (.int .i64 W.b) ∧ w'.cell? ⟨pw, 2, none⟩ = some (.slice x m c))) 14 (by kernel_rfl) (HSX.out _ hC) (fun hHeld => ?_)
      refine wpAnyF_take (i := 0) (oi := _) (v := ?_) rfl (by kernel_rfl) (by kernel_rfl) (by kernel_rfl) (by kernel_rfl) (fun _ _ _ h => h) (Or.inl ⟨by rfl, ?_⟩) (by assumption) ?_
      rotate_left
      · intro w hSw
        (try dsimp only at hSw)
        go_simp
        all_goals with_reducible rfl
      (try simp only [Act.put, List.setIfInBounds_toArray, List.set_cons_zero, List.set_cons_succ])
      refine wpAnyF_take (i := 1) (oi := _) (v := ?_) rfl (by kernel_rfl) (by kernel_rfl) (by kernel_rfl) (by kernel_rfl) (fun _ _ _ h => h) (Or.inl ⟨by rfl, ?_⟩) (by assumption) ?_
      rotate_left
      · intro w hSw
        (try dsimp only at hSw)
        go_simp
        all_goals with_reducible rfl
      (try simp only [Act.put, List.setIfInBounds_toArray, List.set_cons_zero, List.set_cons_succ])
      refine wpAnyF_take (i := 2) (oi := _) (v := ?_) rfl (by kernel_rfl) (by kernel_rfl) (by kernel_rfl) (by kernel_rfl) (fun _ _ _ h => h) (Or.inl ⟨by rfl, ?_⟩) (by assumption) ?_
      rotate_left
      · intro w hSw
        (try dsimp only at hSw)
        go_simp
        all_goals with_reducible rfl
      (try simp only [Act.put, List.setIfInBounds_toArray, List.set_cons_zero, List.set_cons_succ])
      refine wpAnyF_take (i := 3) (oi := _) (v := ?_) rfl (by kernel_rfl) (by kernel_rfl) (by kernel_rfl) (by kernel_rfl) (fun _ _ _ h => h) (Or.inl ⟨by rfl, ?_⟩) (by assumption) ?_
      rotate_left
      · intro w hSw
        (try dsimp only at hSw)
        go_simp
        all_goals with_reducible rfl
      (try simp only [Act.put, List.setIfInBounds_toArray, List.set_cons_zero, List.set_cons_succ])
      refine wpAnyF_take (i := 4) (oi := _) (v := ?_) rfl (by kernel_rfl) (by kernel_rfl) (by kernel_rfl) (by kernel_rfl) (fun _ _ _ h => h) (Or.inl ⟨by rfl, ?_⟩) (by assumption) ?_
      rotate_left
      · intro w hSw
        (try dsimp only at hSw)
        go_simp
        all_goals with_reducible rfl
      (try simp only [Act.put, List.setIfInBounds_toArray, List.set_cons_zero, List.set_cons_succ])
      refine wpAnyF_take (i := 5) (oi := _) (v := ?_) rfl (by kernel_rfl) (by kernel_rfl) (by kernel_rfl) (by kernel_rfl) (fun _ _ _ h => h) (Or.inl ⟨by rfl, ?_⟩) (by assumption) ?_
      rotate_left
      · intro w hSw
        (try dsimp only at hSw)
        go_simp
        all_goals with_reducible rfl
      (try simp only [Act.put, List.setIfInBounds_toArray, List.set_cons_zero, List.set_cons_succ])
      refine wpAnyF_take (i := 6) (oi := _) (v := ?_) rfl (by kernel_rfl) (by kernel_rfl) (by kernel_rfl) (by kernel_rfl) (fun _ _ _ h => h) (Or.inl ⟨by rfl, ?_⟩) (by assumption) ?_
      rotate_left
      · intro w hSw
        (try dsimp only at hSw)
        go_simp
        all_goals with_reducible rfl
      (try simp only [Act.put, List.setIfInBounds_toArray, List.set_cons_zero, List.set_cons_succ])
      refine wpAnyF_take (i := 7) (oi := _) (v := ?_) rfl (by kernel_rfl) (by kernel_rfl) (by kernel_rfl) (by kernel_rfl) (fun _ _ _ h => h) (Or.inl ⟨by rfl, ?_⟩) (by assumption) ?_
      rotate_left
      · intro w hSw
        (try dsimp only at hSw)
        go_simp
        all_goals with_reducible rfl
      (try simp only [Act.put, List.setIfInBounds_toArray, List.set_cons_zero, List.set_cons_succ])
      refine wpAnyF_take (i := 8) (oi := _) (v := ?_) rfl (by kernel_rfl) (by kernel_rfl) (by kernel_rfl) (by kernel_rfl) (fun _ _ _ h => h) (Or.inl ⟨by rfl, ?_⟩) (by assumption) ?_
      rotate_left
      · intro w hSw
        (try dsimp only at hSw)
        go_simp
        all_goals with_reducible rfl
      (try simp only [Act.put, List.setIfInBounds_toArray, List.set_cons_zero, List.set_cons_succ])
      refine wpAnyF_take (i := 9) (oi := _) (v := ?_) rfl (by kernel_rfl) (by kernel_rfl) (by kernel_rfl) (by kernel_rfl) (fun _ _ _ h => h) (Or.inl ⟨by rfl, ?_⟩) (by assumption) ?_
      rotate_left
      · intro w hSw
        (try dsimp only at hSw)
        go_simp
        all_goals with_reducible rfl
      (try simp only [Act.put, List.setIfInBounds_toArray, List.set_cons_zero, List.set_cons_succ])
      refine wpAnyF_one (i := 10) (o := _) (by kernel_rfl) rfl (fun K hK => ?_)
      go_simp
      refine (HACT.out _ hC).mono ?_
      rintro e w' ⟨z, k, q, rfl, hZ, hb⟩
      replace hC := btr hC hb
      clear hb
      refine hK.out _ _ (HSX.out _ hC) (fun hHeld => ?_)
      clear hK K
      (try simp only [Act.put, List.setIfInBounds_toArray, List.set_cons_zero, List.set_cons_succ])
      obtain ⟨gg, hgg⟩ : ∃ gg, (pact W.acts p t).g = gg := ⟨_, rfl⟩
      rw [hgg]
      rw [← HPO.out] at hZ
      have hkk : k ≤ 8 := by have := hZ.len; have := HNA.out; omega
      refine wpAnyF_one (i := 11) (o := _) (by kernel_rfl) rfl (fun K hK => ?_)
      go_simp
      refine (sum_go _ gg z k q (podds W p t) (hZ.mono (btr HB.out hC)) hkk HOR.out).mono ?_
      rintro e w' ⟨rfl, hb⟩
      rw [HSE.out]
      replace hC := btr hC hb
      clear hb
      refine hK.out _ _ (HSX.out _ hC) (fun hHeld => ?_)
      clear hK K
      (try simp only [Act.put, List.setIfInBounds_toArray, List.set_cons_zero, List.set_cons_succ])
      refine wpAnyF_take (i := 12) (oi := _) (v := ?_) rfl (by kernel_rfl) (by kernel_rfl) (by kernel_rfl) (by kernel_rfl) (fun _ _ _ h => h) (Or.inl ⟨by rfl, ?_⟩) (by assumption) ?_
      rotate_left
      · intro w hSw
        (try dsimp only at hSw)
        go_simp
        all_goals with_reducible rfl
      (try simp only [Act.put, List.setIfInBounds_toArray, List.set_cons_zero, List.set_cons_succ])
      refine wpAnyF_take (i := 13) (oi := _) (v := ?_) rfl (by kernel_rfl) (by kernel_rfl) (by kernel_rfl) (by kernel_rfl) (fun _ _ _ h => h) (Or.inl ⟨by rfl, ?_⟩) (by assumption) ?_
      rotate_left
      · intro w hSw
        (try dsimp only at hSw)
        go_simp
        all_goals with_reducible rfl
      (try simp only [Act.put, List.setIfInBounds_toArray, List.set_cons_zero, List.set_cons_succ])
      refine wpAnyF_last (o := _) (by kernel_rfl) rfl (by kernel_rfl) (fun K hK => ?_)
      obtain ⟨u1z, u2z, u3z, u4z, u5z⟩ := HSX.out _ hC
      have u6z : _ = false := ((bcell hC).2 ge i hgez).trans HFR.out
      go_simp
      refine hK.out _ _ ?_
      clear hK K
      (try simp only [Act.put, List.setIfInBounds_toArray, List.set_cons_zero, List.set_cons_succ])
      have HM2 := Lib.hid (HSTO.out _ hC)
      have HB2 := Lib.hid ((btr HB.out hC).setCell (p := ⟨ge, i, none⟩) hgeV (.int .i64 (v0 + S)))
      have HT2 := Lib.hid (show ∀ b, top ≤ b → b < V1.heap.size → _ = V1.heap[b]? from fun b hb1 hb2 => (Below.heap_setCell _ ⟨ge, i, none⟩ (.int .i64 (v0 + S)) b (by show b ≠ ge; omega)).trans ((hC.block b (by have := HS.out; omega)).trans (HT.out b hb1 hb2)))
      have HS2 := Lib.hid (show V1.heap.size ≤ _ from Nat.le_trans HS.out (Nat.le_trans hC.size (by rw [World.size_setCell]; exact Nat.le_refl _ : _ ≤ (World.setCell _ ⟨ge, i, none⟩ (.int .i64 (v0 + S))).heap.size)))
      clear hC
      go_wp2
      go_roundw
      case rel => go_light; exact ⟨i + 1, by omega, by go_num, HM2, HB2, HT2, HS2⟩
      case measure => simp [intOf]; omega
    · obtain rfl : i = K := by omega
      have HM2 := Lib.hid (show RwOwn wr V.heap.size top (.slice ma i mc) (flow W p L) by have h := HM.out; unfold flow; rw [← HLK.out]; exact h)
      go_wp2
      exact ⟨rfl, hexit _ _ _ _ _ _ _ _ _ _ _ _ _ _ _ _ _ _ _ _ _ _ _ HM2.out HB.out HT.out HS.out⟩
end Go.Proofs.Ytcmakddnjmeklaa
