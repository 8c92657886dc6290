/- Chapter 9, walks: the worth of a plan. -/
import Derived.Test.YtcmakddnjmeklaaZu
import Derived.Deep.RegionHeld3
import Derived.Deep.DeepCutAuto
namespace Go.Proofs.Ytcmakddnjmeklaa
open Go.RowKit
set_option maxHeartbeats 400000 in
/-- act, where the acts lie in an elder world. -/
theorem act_goW (W w : World) (hB : Below W.heap.size W w) (a b : Int) (x y : Option Addr) (n c m d s : Nat) (A : List (List Ac)) (p : List Int) (hA : A2Sl W x n c A) (hp : Sl W y m d p) (hsn : s < n) (hsm : s < m) (h0 : 0 ≤ nth p s) (h1 : nth p s < (acl A s).length) :
    Calls Try.prog 65 #[wv a b x n c, .slice y m d, .int .i64 s] w fun e w' => ∃ z k q, e = .returned (av (pact A p s).g z k q) ∧ Sl W z k q (pact A p s).o ∧ Below w.heap.size w w' := by
  obtain ⟨b1, o1, rfl, hb1, hc1⟩ := hA.at (by omega)
  obtain ⟨a2, n2, c2, e2, h2⟩ := hc1 s hsn
  have hl2 := h2.1
  obtain ⟨t, ht⟩ : ∃ t : Nat, nth p s = (t : Int) := ⟨(nth p s).toNat, by omega⟩
  obtain ⟨b2, o2, rfl, hb2, hc2⟩ := h2.at (by omega)
  obtain ⟨eg, z, k, q, eo, hS⟩ := hc2 t (by omega)
  obtain ⟨b3, o3, rfl, hb3, hc3⟩ := hp.at (by omega)
  have e3 := hc3 s hsm
  rw [ht] at e3
  have hP : pact A p s = ac (acl A s) t := by unfold pact; rw [ht]; rfl
  rw [hP]
  have HP := Lib.hid hS
  have hcn : n ≤ c := hA.2.cap.1
  have hdm : m ≤ d := hp.cap.1
  have hcn2 := h2.2.cap
  have htn : t < n2 := by omega
  have q1 := hA.2.cap.2
  have q2 := hp.cap.2
  unfold maxLen at q1 q2 hcn2
  rw [← (bcell hB).1 _ _ hb1] at e2
  rw [← (bcell hB).1 _ _ hb2] at eg eo
  rw [← (bcell hB).1 _ _ hb3] at e3
  have hz := hB.size
  have hb1' : b1 < w.heap.size := by omega
  have hb2' : b2 < w.heap.size := by omega
  have hb3' : b3 < w.heap.size := by omega
  clear hA hp hc1 hc2 hc3 h2 hS hP ht h0 h1 hB hb1 hb2 hb3 hz
  generalize (ac (acl A s) t).g = gg at *
  go_enter Try.func65, Try.ntmps65
  go_wp2
  go_region
  go_wp2
  have hB := (bal (bal (Below.refl w.heap.size w) (.cells #[.int .i64 a, .int .i64 b, .slice (some ⟨b1, o1, none⟩) n c] 33)) (.cells #[.int .i64 gg, .slice z k q] 50)).drew
  exact bodyPost_ret (v := av gg z k q) (by simp [results, Try.results65, go_sem]) rfl ⟨z, k, q, rfl, HP.out, hB⟩
noncomputable def woBody (i : Nat) : Code := ((loopBodies (Try.f47.body.getD .skip))[i]?).getD .skip
def mb (a : Int) (o : List Int) : List Int := o.map fun z => -a * z
theorem mb_len (a : Int) (o : List Int) : (mb a o).length = o.length := by simp [mb]
theorem mb_snoc {a : Int} {o : List Int} {j : Nat} (h : j < o.length) : mb a (o.take (j + 1)) = mb a (o.take j) ++ [-a * nth o j] := by
  unfold mb; rw [take_nth h, List.map_append]; rfl
/-- A boxed world. -/
def BoxW (w : World) (p : Nat) (a b : Int) (x : Option Addr) (n c : Nat) : Prop := w.heap[p]? = some (.cells #[.int .i64 a, .int .i64 b, .slice x n c] 33 (0, 0))
theorem BoxW.cells {w : World} {p : Nat} {a b : Int} {x : Option Addr} {n c : Nat} (h : BoxW w p a b x n c) : p < w.heap.size ∧ w.cell? ⟨p, 0, none⟩ = some (.int .i64 a) ∧ w.cell? ⟨p, 1, none⟩ = some (.int .i64 b) ∧ w.cell? ⟨p, 2, none⟩ = some (.slice x n c) :=
  ⟨lt_of_block h, by rw [cells_at h]; rfl, by rw [cells_at h]; rfl, by rw [cells_at h]; rfl⟩

set_option maxRecDepth 100000 in
set_option maxHeartbeats 1000000 in
theorem wo_row (W : World) (pw n c : Nat) (a b : Int) (x z : Option Addr) (k q : Nat) (o : List Int) (hw : BoxW W pw a b x n c) (ha : 1 ≤ a ∧ a ≤ 3) (hs : Sl W z k q o) (hk : k ≤ 4) (ho : ∀ y ∈ o, 0 ≤ y ∧ y ≤ 3) (R : Act → World → Prop)
    (c0 c1 c3 c4 c5 c6 c7 c8 c10 c11 c12 c13 c14 c15 c16 c17 c18 c19 c20 c21 c22 c23 c24 c25 c29 c30 c31 c32 c33 c34 c35 c36 c37 c38 c39 c40 c41 c42 c43 c44 c45 c46 c47 c48 c49 c50 c51 c52 c53 c54 c55 c56 c57 c58 c59 c60 c61 c62 c63 c64 c65 c66 c67 c68 c69 c70 c71 c72 c73 c74 c75 c76 c77 c78 c79 c80 c81 c82 c83 c84 c85 c86 c87 c88 c89 c90 c91 c92 c93 c94 c95 c96 c97 c98 c99 c100 c101 c102 c103 c104 c105 : Value)
    (hexit : ∀ (va : Option Addr) (vc : Nat), ∀ (u11 u28 u29 u30 u31 u32 u33 u34 u35 u36 u37 u38 u39 u40 u41 : Value) (w' : World), w'.ownsRow W.heap.size 3 1 (.slice va k vc) k ((mb a o).map (Value.int .i64)) → Below W.heap.size W w' → R ⟨List.toArray (c0 :: c1 :: .pointer (some ⟨pw, 0, none⟩) :: c3 :: c4 :: c5 :: c6 :: c7 :: c8 :: .slice va k vc :: c10 :: u11 :: c12 :: c13 :: c14 :: c15 :: c16 :: c17 :: c18 :: c19 :: c20 :: c21 :: c22 :: c23 :: c24 :: c25 :: .slice z k q :: .int .i64 k :: u28 :: u29 :: u30 :: u31 :: u32 :: u33 :: u34 :: u35 :: u36 :: u37 :: u38 :: u39 :: u40 :: u41 :: c42 :: c43 :: c44 :: c45 :: c46 :: c47 :: c48 :: c49 :: c50 :: c51 :: c52 :: c53 :: c54 :: c55 :: c56 :: c57 :: c58 :: c59 :: c60 :: c61 :: c62 :: c63 :: c64 :: c65 :: c66 :: c67 :: c68 :: c69 :: c70 :: c71 :: c72 :: c73 :: c74 :: c75 :: c76 :: c77 :: c78 :: c79 :: c80 :: c81 :: c82 :: c83 :: c84 :: c85 :: c86 :: c87 :: c88 :: c89 :: c90 :: c91 :: c92 :: c93 :: c94 :: c95 :: c96 :: c97 :: c98 :: c99 :: c100 :: c101 :: c102 :: c103 :: c104 :: c105 :: []), []⟩ w') :
    Code.wp Try.prog (Code.loop (woBody 1)) (OnExit 2 R) ⟨List.toArray (c0 :: c1 :: .pointer (some ⟨pw, 0, none⟩) :: c3 :: c4 :: c5 :: c6 :: c7 :: c8 :: .slice none 0 0 :: c10 :: c11 :: c12 :: c13 :: c14 :: c15 :: c16 :: c17 :: c18 :: c19 :: c20 :: c21 :: c22 :: c23 :: c24 :: c25 :: .slice z k q :: .int .i64 k :: .int .i64 0 :: c29 :: c30 :: c31 :: c32 :: c33 :: c34 :: c35 :: c36 :: c37 :: c38 :: c39 :: c40 :: c41 :: c42 :: c43 :: c44 :: c45 :: c46 :: c47 :: c48 :: c49 :: c50 :: c51 :: c52 :: c53 :: c54 :: c55 :: c56 :: c57 :: c58 :: c59 :: c60 :: c61 :: c62 :: c63 :: c64 :: c65 :: c66 :: c67 :: c68 :: c69 :: c70 :: c71 :: c72 :: c73 :: c74 :: c75 :: c76 :: c77 :: c78 :: c79 :: c80 :: c81 :: c82 :: c83 :: c84 :: c85 :: c86 :: c87 :: c88 :: c89 :: c90 :: c91 :: c92 :: c93 :: c94 :: c95 :: c96 :: c97 :: c98 :: c99 :: c100 :: c101 :: c102 :: c103 :: c104 :: c105 :: []), []⟩ W := by
  conv => arg 2; arg 1; whnf
  have HN := Lib.hid hs.len
  have HS := Lib.hid hs
  have HO := Lib.hid ho
  have HW := Lib.hid hw
  obtain ⟨z0, h00, h01, h02⟩ := hw.cells
  have hcap := hs.cap
  unfold maxLen at hcap
  clear hs hw ho
  go_loopw [9, 28] (fun v t wr => ∃ j : Nat, j ≤ k ∧ t = .int .i64 j ∧ wr.ownsRow W.heap.size 3 1 v j ((mb a (o.take j)).map (Value.int .i64)) ∧ Below W.heap.size W wr) (fun _ t _ => k - (intOf t).toNat)
  case atStart => exact ⟨0, by omega, rfl, World.ownsRow_nil _ _ _ _, Below.refl _ _⟩
  case round =>
    obtain ⟨j, hj, rfl, hown, hB⟩ := hrel
    by_cases hl : j < k
    · obtain ⟨b2, off, rfl, hb2, hc⟩ := (HS.out.mono hB).at (by omega)
      have hcj := hc j hl
      have hy := HO.out _ (nth_mem (l := o) (k := j) (by rw [HN.out]; exact hl))
      have HF := Lib.hid (mb_snoc (a := a) (o := o) (j := j) (by rw [HN.out]; exact hl))
      obtain ⟨zz, hh0, hh1, hh2⟩ := BoxW.cells (persist HW.out hB)
      have hwz := hB.size
      obtain ⟨va, vc, rfl⟩ := own_form hown
      have hp := mul_le3 (A := 3) (B := 3) (show -3 ≤ -a by omega) (by omega) (show -3 ≤ nth o j by omega) hy.2 (by omega)
      clear hc h00 h01 h02
      generalize nth o j = y at *
      generalize hpe : -a * y = pr at *
      go_wp2_with (at_builtin; refine wpList_app1 rfl _ _ 26 rfl Try.underlying26 infoInt rfl (by decide) W.heap.size (.slice va j vc) j _ rfl (hown.alloc _) wr.heap.size #[.int .i64 pr] rfl (new_at _ _) rfl (by simp [Value.oneCell']) (by omega) (by omega) (by simp; omega) ?_; intro v' wn hown' hgrow; obtain ⟨wa, wc, rfl⟩ := own_form hown')
      have HO2 := Lib.hid (show wn.ownsRow W.heap.size 3 1 (.slice wa (j + 1) wc) (j + 1) ((mb a (o.take (j + 1))).map (Value.int .i64)) by rw [HF.out, List.map_append]; exact hown')
      have HBN := Lib.hid ((bal hB (.cells #[.int .i64 pr] 3)).grown hgrow (by simp; omega) (fun i hi => (hown.lt i hi).1))
      clear hown hown' hgrow hB
      go_wp2
      go_roundw
      case rel => go_light; exact ⟨j + 1, by omega, by go_num, HO2.out, HBN.out⟩
      case measure => simp [intOf]; omega
    · obtain rfl : j = k := by omega
      rw [List.take_of_length_le (by rw [HN.out]; omega)] at hown
      obtain ⟨va, vc, rfl⟩ := own_form hown
      have HO2 := Lib.hid hown
      clear hown
      go_wp2
      exact ⟨rfl, hexit _ _ _ _ _ _ _ _ _ _ _ _ _ _ _ _ _ _ HO2.out hB⟩

def StoreAt (w wx : World) (g s : Nat) (v : Int) : Prop := ∃ w', Below w.heap.size w w' ∧ wx = w'.setCell ⟨g, s, none⟩ (.int .i64 v)
/-- The rows of the equations and their right sides, while they are made. -/
def WoSt (w : World) (lo : Nat) (mv rv : Value) (M : List (List Int)) (r : List Int) : Prop :=
  ∃ (E : Nat → Value) (D : Nat → Nat), RwTr w lo w.heap.size mv M E D ∧ lo ≤ w.heap.size ∧ w.ownsRow lo 3 1 rv r.length (r.map (Value.int .i64)) ∧ ∀ i, i < M.length → ∀ b, rv.ownBlock = some b → (E i).ownBlock ≠ some b
theorem OwnIn.keepB {w w' : World} {lo hi e size n : Nat} {v : Value} {xs : List Value} (h : OwnIn w lo hi e size v n xs) (hk : ∀ b, v.ownBlock = some b → w'.heap[b]? = w.heap[b]?) : OwnIn w' lo hi e size v n xs := by
  obtain ⟨⟨h1, h2⟩, h3⟩ := h
  refine ⟨⟨h1, ?_⟩, h3⟩
  rcases h2 with hn | ⟨g, cap, cur, rfl, hb, hg, rest⟩
  · exact .inl hn
  · exact .inr ⟨g, cap, cur, rfl, hb, (hk g rfl).trans hg, rest⟩
theorem RwTr.keepB {w w' : World} {lo hi : Nat} {v : Value} {M : List (List Int)} {E : Nat → Value} {D : Nat → Nat} (h : RwTr w lo hi v M E D) (hv : ∀ b, v.ownBlock = some b → w'.heap[b]? = w.heap[b]?) (hE : ∀ i, i < M.length → ∀ b, (E i).ownBlock = some b → w'.heap[b]? = w.heap[b]?) : RwTr w' lo hi v M E D :=
  ⟨h.1.keepB hv, h.2.1, h.2.2.1, h.2.2.2.1, fun i hi => (h.2.2.2.2 i hi).keepB (hE i hi)⟩
theorem WoSt.nil (w : World) (lo : Nat) (h : lo ≤ w.heap.size) : WoSt w lo (.slice none 0 0) (.slice none 0 0) [] [] :=
  ⟨fun _ => .slice none 0 0, fun _ => lo, ⟨⟨World.ownsRow_nil _ _ _ _, fun b hb => by simp [Value.ownBlock] at hb⟩, Nat.le_refl _, fun i hi => absurd hi (by simp), h, fun i hi => absurd hi (by simp)⟩, h, World.ownsRow_nil _ _ _ _, fun i hi => absurd hi (by simp)⟩
theorem app_block {w0 w1 w2 : World} {o : Obj} {row : Option Nat} (hb : Below w0.heap.size w0 w1) (hg : (w1.alloc o).grownBy w2 row) (b : Nat) (hl : b < w0.heap.size) (hne : row ≠ some b) : w2.heap[b]? = w0.heap[b]? := by
  have h2 := hb.size
  rw [hg.block b (by simp; omega) (fun e => hne e.symm), Below.heap_alloc w1 o b (by omega)]
  exact hb.block b hl
theorem RwTr.row_lt {w : World} {lo hi : Nat} {v : Value} {M : List (List Int)} {E : Nat → Value} {D : Nat → Nat} (h : RwTr w lo hi v M E D) {i : Nat} (hi' : i < M.length) {b : Nat} (hb : (E i).ownBlock = some b) : lo ≤ b ∧ b < hi ∧ b < w.heap.size := by
  obtain ⟨h1, h2, h3, h4, h5⟩ := h
  have q := ((h5 i hi').1.lt b hb)
  have q2 := (h5 i hi').2 b hb
  have := mono_le h3 0 i (by omega) (by omega)
  have := mono_le h3 (i + 1) M.length (by omega) (by omega)
  exact ⟨by omega, by omega, q.2⟩
theorem ne_of_type {w : World} {lo lo' size size' n n' g : Nat} {e e' : TypeId} {v v' : Value} {xs xs' : List Value} (h : w.ownsRow lo e size v n xs) (h' : w.ownsRow lo' e' size' v' n' xs') (hne : e ≠ e') (hg : v.ownBlock = some g) : v'.ownBlock ≠ some g := by
  intro hg'
  obtain ⟨c1, h1⟩ := own_type h hg
  obtain ⟨c2, h2⟩ := own_type h' hg'
  rw [h1] at h2
  injection h2 with h2
  injection h2 with _ h4
  exact hne h4
/-- One row more. -/
theorem WoSt.row {w0 w1 w2 : World} {o : Obj} {lo : Nat} {mv mv' rv E' : Value} {M : List (List Int)} {r x : List Int} {E : Nat → Value} {D : Nat → Nat} (hT : RwTr w0 lo w0.heap.size mv M E D) (hlo : lo ≤ w0.heap.size)
    (hR : w0.ownsRow lo 3 1 rv r.length (r.map (Value.int .i64))) (hsep : ∀ i, i < M.length → ∀ b, rv.ownBlock = some b → (E i).ownBlock ≠ some b) (hb : Below w0.heap.size w0 w1)
    (hE : w1.ownsRow w0.heap.size 3 1 E' x.length (x.map (Value.int .i64)))
    (hown : w2.ownsRow lo 26 1 mv' (M.length + 1) ((List.range M.length).map E ++ [E']))
    (hg : (w1.alloc o).grownBy w2 mv.ownBlock) : WoSt w2 lo mv' rv (M ++ [x]) r := by
  have hT2 := hT.snocX hlo hb hE hown hg
  refine ⟨_, _, hT2, ?_, ?_, ?_⟩
  · have := hb.size; have := hg.size; simp at this; omega
  · have hne : ∀ b, rv.ownBlock = some b → mv.ownBlock ≠ some b := fun b hb => ne_of_type hR hT.1.1 (by decide) hb
    refine ((own_mono hR hb).alloc o).kept hg ?_
    cases hq : rv.ownBlock with
    | none => exact .inl rfl
    | some b => exact .inr fun e => hne b hq (e ▸ rfl)
  · intro i hi b hbr
    have hlt := (hR.lt b hbr).2
    show (if i < M.length then E i else E').ownBlock ≠ some b
    split
    · rename_i h; exact hsep i h b hbr
    · intro e; have := (hE.lt b e).1; omega
/-- One right side more. -/
theorem WoSt.right {w0 w1 w2 : World} {o : Obj} {lo : Nat} {mv rv rv' : Value} {M : List (List Int)} {r : List Int} {z : Int} {E : Nat → Value} {D : Nat → Nat} (hT : RwTr w0 lo w0.heap.size mv M E D) (hlo : lo ≤ w0.heap.size)
    (hR : w0.ownsRow lo 3 1 rv r.length (r.map (Value.int .i64))) (hsep : ∀ i, i < M.length → ∀ b, rv.ownBlock = some b → (E i).ownBlock ≠ some b) (hb : Below w0.heap.size w0 w1)
    (hown : w2.ownsRow lo 3 1 rv' (r.length + 1) ((r ++ [z]).map (Value.int .i64)))
    (hg : (w1.alloc o).grownBy w2 rv.ownBlock) (hv : rv'.ownBlock = rv.ownBlock ∨ rv'.ownBlock = some (w1.heap.size + 1)) : WoSt w2 lo mv rv' M (r ++ [z]) := by
  have hz : w0.heap.size ≤ w2.heap.size := by have := hb.size; have := hg.size; simp at this; omega
  have hne : ∀ b, mv.ownBlock = some b → rv.ownBlock ≠ some b := fun b hb => ne_of_type hT.1.1 hR (by decide) hb
  have hT2 : RwTr w2 lo w0.heap.size mv M E D := hT.keepB (fun b hbb => app_block hb hg b (hT.1.2 b hbb) (hne b hbb)) (fun i hi b hbb => app_block hb hg b (hT.row_lt hi hbb).2.1 (fun e => hsep i hi b e hbb))
  refine ⟨E, D, ⟨hT2.1.wide hz, hT2.2.1, hT2.2.2.1, Nat.le_trans hT2.2.2.2.1 hz, hT2.2.2.2.2⟩, by omega, by simpa using hown, ?_⟩
  intro i hi b hbr e
  rcases hv with h | h
  · rw [h] at hbr; exact hsep i hi b hbr e
  · rw [h] at hbr
    injection hbr with hbr
    have := (hT.row_lt hi e).2.1
    have := hb.size
    omega

set_option maxRecDepth 100000 in
set_option maxHeartbeats 1000000 in
theorem wo_rows (W : World) (pw n c m d : Nat) (a b : Int) (x y : Option Addr) (A : List (List Ac)) (p : List Int) (hw : BoxW W pw a b x n c) (hA : A2Sl W x n c A) (hp : Sl W y m d p) (hok : isPlanB ⟨a, b, A⟩ p = true) (R : Act → World → Prop)
    (c0 c3 c4 c7 c8 c9 c10 c11 c12 c13 c14 c15 c16 c19 c20 c21 c22 c23 c24 c25 c26 c27 c28 c29 c30 c31 c32 c33 c34 c35 c36 c37 c38 c39 c40 c41 c42 c43 c44 c45 c46 c47 c48 c49 c50 c51 c52 c53 c54 c55 c56 c57 c58 c59 c60 c61 c62 c63 c64 c65 c66 c67 c68 c69 c70 c71 c72 c73 c74 c75 c76 c77 c78 c79 c80 c81 c82 c83 c84 c85 c86 c87 c88 c89 c90 c91 c92 c93 c94 c95 c96 c97 c98 c99 c100 c101 c102 c103 c104 c105 : Value)
    (hexit : ∀ (mv rv : Value), ∀ (u7 u8 u9 u11 u18 u19 u20 u21 u22 u23 u24 u25 u26 u27 u28 u29 u30 u31 u32 u33 u34 u35 u36 u37 u38 u39 u40 u41 u42 u43 u44 u45 u46 u47 u48 u49 u50 u51 u52 u53 u54 u55 u56 u57 u58 u59 u60 u61 u62 u63 u64 u65 u66 u67 u68 u69 u70 : Value) (w' : World), WoSt w' W.heap.size mv rv (mMat a b (planActs A p)) (mRight b (planActs A p)) → Below W.heap.size W w' → R ⟨List.toArray (c0 :: .slice y m d :: .pointer (some ⟨pw, 0, none⟩) :: c3 :: c4 :: mv :: rv :: u7 :: u8 :: u9 :: c10 :: u11 :: c12 :: c13 :: c14 :: c15 :: c16 :: .int .i64 m :: u18 :: u19 :: u20 :: u21 :: u22 :: u23 :: u24 :: u25 :: u26 :: u27 :: u28 :: u29 :: u30 :: u31 :: u32 :: u33 :: u34 :: u35 :: u36 :: u37 :: u38 :: u39 :: u40 :: u41 :: u42 :: u43 :: u44 :: u45 :: u46 :: u47 :: u48 :: u49 :: u50 :: u51 :: u52 :: u53 :: u54 :: u55 :: u56 :: u57 :: u58 :: u59 :: u60 :: u61 :: u62 :: u63 :: u64 :: u65 :: u66 :: u67 :: u68 :: u69 :: u70 :: c71 :: c72 :: c73 :: c74 :: c75 :: c76 :: c77 :: c78 :: c79 :: c80 :: c81 :: c82 :: c83 :: c84 :: c85 :: c86 :: c87 :: c88 :: c89 :: c90 :: c91 :: c92 :: c93 :: c94 :: c95 :: c96 :: c97 :: c98 :: c99 :: c100 :: c101 :: c102 :: c103 :: c104 :: c105 :: []), []⟩ w') :
    Code.wp Try.prog (Code.loop (woBody 0)) (OnExit 0 R) ⟨List.toArray (c0 :: .slice y m d :: .pointer (some ⟨pw, 0, none⟩) :: c3 :: c4 :: .slice none 0 0 :: .slice none 0 0 :: c7 :: c8 :: c9 :: c10 :: c11 :: c12 :: c13 :: c14 :: c15 :: c16 :: .int .i64 m :: .int .i64 0 :: c19 :: c20 :: c21 :: c22 :: c23 :: c24 :: c25 :: c26 :: c27 :: c28 :: c29 :: c30 :: c31 :: c32 :: c33 :: c34 :: c35 :: c36 :: c37 :: c38 :: c39 :: c40 :: c41 :: c42 :: c43 :: c44 :: c45 :: c46 :: c47 :: c48 :: c49 :: c50 :: c51 :: c52 :: c53 :: c54 :: c55 :: c56 :: c57 :: c58 :: c59 :: c60 :: c61 :: c62 :: c63 :: c64 :: c65 :: c66 :: c67 :: c68 :: c69 :: c70 :: c71 :: c72 :: c73 :: c74 :: c75 :: c76 :: c77 :: c78 :: c79 :: c80 :: c81 :: c82 :: c83 :: c84 :: c85 :: c86 :: c87 :: c88 :: c89 :: c90 :: c91 :: c92 :: c93 :: c94 :: c95 :: c96 :: c97 :: c98 :: c99 :: c100 :: c101 :: c102 :: c103 :: c104 :: c105 :: []), []⟩ W := by
  conv => arg 2; arg 1; whnf
  have hX : OkX a b (planActs A p) := okX_plan hok
  have hXl := planActs_len A p
  have hPl : p.length = A.length := (planOk_at (by unfold isPlanB at hok; rw [Bool.and_eq_true] at hok; exact hok.2)).1
  have hPa : ∀ s, s < A.length → 0 ≤ nth p s ∧ nth p s < (acl A s).length := (planOk_at (by unfold isPlanB at hok; rw [Bool.and_eq_true] at hok; exact hok.2)).2
  have hnA := hA.1
  have hmp := hp.len
  obtain rfl : m = n := by omega
  have HA := Lib.hid hA
  have HP := Lib.hid hp
  have HW := Lib.hid hw
  have HX := Lib.hid hX
  have HXL := Lib.hid (show (planActs A p).length = m by omega)
  have HPA := Lib.hid (show ∀ s, s < m → 0 ≤ nth p s ∧ nth p s < (acl A s).length from fun s hs => hPa s (by omega))
  obtain ⟨hX1, hX4, ha1, hab, hb4, _⟩ := hX
  have hm4 : m ≤ 4 := by omega
  clear hA hp hw hok hXl hPl hPa hnA hmp
  go_loopw [5, 6, 18] (fun mv rv t wr => ∃ s : Nat, s ≤ m ∧ t = .int .i64 s ∧ Hid (WoSt wr W.heap.size mv rv ((mMat a b (planActs A p)).take s) ((mRight b (planActs A p)).take s)) ∧ Below W.heap.size W wr) (fun _ _ t _ => m - (intOf t).toNat)
  case atStart => exact ⟨0, by omega, rfl, Lib.hid (WoSt.nil _ _ (Nat.le_refl _)), Below.refl _ _⟩
  case round =>
    obtain ⟨s, hs, rfl, HS, hB⟩ := hrel
    by_cases hl : s < m
    · have hpa := HPA.out s hl
      obtain ⟨zz, hh0, hh1, hh2⟩ := BoxW.cells (persist HW.out hB)
      go_wp2_with fail
      refine (act_goW W _ hB a b x y m c m d s A p HA.out HP.out hl hl hpa.1 hpa.2).mono ?_
      rintro e w2 ⟨z, k, q, rfl, hZ, hb2⟩
      generalize hgg : (pact A p s).g = gg at *
      generalize ho : (pact A p s).o = o at *
      have HAC := Lib.hid (show ac (planActs A p) s = ⟨gg, o⟩ by rw [planActs_at (by have := HA.out.1; omega), ← hgg, ← ho])
      have hva := vAc_at (HX.out.2.2.2.2.2 s (by rw [HXL.out]; exact hl))
      rw [HAC.out, HXL.out] at hva
      obtain ⟨hg1, hg2, hol, hor, hS1, hS2⟩ := hva
      have hol : o.length = m := hol
      have hk : k = m := by rw [← hZ.len]; exact hol
      subst hk
      have HOR := Lib.hid hor
      have HB2 := Lib.hid (bal hb2 (.cells #[.int .i64 gg, .slice z k q] 50))
      have HBX := Lib.hid (new_at w2 (.cells #[.int .i64 gg, .slice z k q] 50))
      have HZ := Lib.hid hZ
      have HWW := Lib.hid (btr hB (bal hb2 (.cells #[.int .i64 gg, .slice z k q] 50)))
      have HOL := Lib.hid hol
      clear hgg ho hZ hor hol hh0 hh1 hh2 zz
      go_wp2
      refine wp_onExit (k := 2) (wo_row _ pw k c a b x z k q o (persist HW.out HWW.out) ⟨ha1, by omega⟩ (HZ.out.mono HWW.out) hm4 HOR.out _ _ _ _ _ _ _ _ _ _ _ _ _ _ _ _ _ _ _ _ _ _ _ _ _ _ _ _ _ _ _ _ _ _ _ _ _ _ _ _ _ _ _ _ _ _ _ _ _ _ _ _ _ _ _ _ _ _ _ _ _ _ _ _ _ _ _ _ _ _ _ _ _ _ _ _ _ _ _ _ _ _ _ _ _ _ _ _ _ _ _ _ _ _ _ _ _ _ _ _ _ _ ?_)
      intro va vc v11 v28 v29 v30 v31 v32 v33 v34 v35 v36 v37 v38 v39 v40 v41 w3 hown3 hb3
      obtain ⟨gr, rfl, hgr1, hgr2, hvc1, hvc2, hrc, hrf, _⟩ := own_cells hown3 (by omega)
      unfold maxLen at hvc2
      have hbd : Below (w2.alloc (.cells #[.int .i64 gg, .slice z k q] 50)).heap.size (w2.alloc (.cells #[.int .i64 gg, .slice z k q] 50)) w3.drew := hb3.drew
      have hrs : w3.drew.cell? ⟨gr, s, none⟩ = some (.int .i64 (-a * nth o s)) := by
        refine hrc s _ ?_
        rw [List.getElem?_map, mb, List.getElem?_map, List.getElem?_eq_getElem (by rw [HOL.out]; exact hl), nth_of_lt (by rw [HOL.out]; exact hl)]; rfl
      have hbx := persist HBX.out hbd
      have hbw := persist HW.out (btr HWW.out hbd)
      have HSX := Lib.hid (fun (w' : World) (hb : Below w3.drew.heap.size w3.drew w') =>
        (show w'.cell? ⟨pw, 1, none⟩ = some (.int .i64 b) ∧ w'.cell? ⟨w2.heap.size, 0, none⟩ = some (.int .i64 gg) ∧ w'.cell? ⟨w2.heap.size, 1, none⟩ = some (.slice z k q) from ⟨(BoxW.cells (persist hbw hb)).2.2.1, by rw [cells_at (persist hbx hb)]; rfl, by rw [cells_at (persist hbx hb)]; rfl⟩))
      have HZ3 := Lib.hid (HZ.out.mono (btr HWW.out hbd))
      obtain ⟨hq1, hq2, hq3⟩ := HSX.out _ (Below.refl _ _)
      have hgd : gr < w3.drew.heap.size := hgr2
      have hfr : w3.drew.frozen? ⟨gr, s, none⟩ = false := hrf s
      have HFX := Lib.hid (fun (w' : World) (hb : Below w3.drew.heap.size w3.drew w') =>
        (show w'.cell? ⟨gr, s, none⟩ = some (.int .i64 (-a * nth o s)) ∧ w'.frozen? ⟨gr, s, none⟩ = false ∧ gr < w'.heap.size from ⟨by rw [(bcell hb).1 _ _ hgd]; exact hrs, by rw [(bcell hb).2 _ _ hgd]; exact hfr, Nat.lt_of_lt_of_le hgd hb.size⟩))
      have hrb := mul_le3 (A := 3) (B := 3) (show -3 ≤ -a by omega) (by omega) (show -3 ≤ nth o s by have := HOR.out _ (nth_mem (l := o) (k := s) (by rw [HOL.out]; exact hl)); omega) (HOR.out _ (nth_mem (l := o) (k := s) (by rw [HOL.out]; exact hl))).2 (by omega)
      have hsb := mul_le3 (A := 4) (B := 12) (show -4 ≤ b by omega) hb4 (show -12 ≤ isum o by omega) (by omega) (by omega)
      have HRS0 := Lib.hid (show nth (mb a o) s = -a * nth o s by unfold mb; rw [nth_map (by rw [HOL.out]; exact hl)])
      generalize -a * nth o s = rs at *
      have HRS := Lib.hid HRS0.out
      have k1 : IntKind.i64.wrap (b * isum o) = b * isum o := wrap_i64j _ (by omega) (by omega)
      have k2 : IntKind.i64.wrap (rs + b * isum o) = rs + b * isum o := wrap_i64j _ (by omega) (by omega)
      have HOWN3 := Lib.hid hown3
      have HB3 := Lib.hid hb3
      have HBD := Lib.hid hbd
      have hsk : (s : Int) < (k : Int) := by omega
      have hs0 : (0 : Int) ≤ (s : Int) := by omega
      clear hown3 hb3 hbd hbx hbw hrc hrf
      go_wp2
      go_cut [9] from 42 to 53 (fun v9 wx => v9 = .slice (some ⟨gr, 0, none⟩) k vc ∧ StoreAt w3.drew wx gr s (rs + b * isum o))
      case first =>
       go_region_law ((go_simp; go_at_call 54; refine (sum_go _ gg z k q o HZ3.out (by omega) HOR.out).mono ?_; rintro e w4 ⟨rfl, hb4'⟩; obtain ⟨hr4, hf4, hg4⟩ := HFX.out _ hb4'; obtain ⟨hx4, hy4, hz4⟩ := HSX.out _ hb4'))
       all_goals (go_wp2_with fail; go_meet; exact ⟨rfl, w4, hb4', rfl⟩)
      case rest =>
       obtain ⟨rfl, w4, hb4, rfl⟩ := hcut
       obtain ⟨E, D, hT, hlo, hR, hsep⟩ := HS.out
       have hMl : ((mMat a b (planActs A p)).take s).length = s := by rw [List.length_take, mMat_len, HXL.out]; omega
       have hRl : ((mRight b (planActs A p)).take s).length = s := by rw [List.length_take, mRight_len, HXL.out]; omega
       have hst := (own_mono (own_mono HOWN3.out (Below.refl _ _).drew) hb4).stored s (.int .i64 (rs + b * isum o))
       have hBa : Below wr.heap.size wr w4 := btr HB2.out (btr HB3.out (btr (Below.refl _ _).drew hb4))
       have hgw : wr.heap.size ≤ gr := by have := HB2.out.size; omega
       have HB5 := Lib.hid (hBa.setCell (p := ⟨gr, s, none⟩) hgw (.int .i64 (rs + b * isum o)))
       have HE := Lib.hid (show (w4.setCell ⟨gr, s, none⟩ (.int .i64 (rs + b * isum o))).ownsRow wr.heap.size 3 1 (.slice (some ⟨gr, 0, none⟩) k vc) (mRow a b ⟨gg, o⟩ s).length ((mRow a b ⟨gg, o⟩ s).map (Value.int .i64)) by
         have q := own_base hst.1 HB2.out.size
         rw [← List.map_set] at q
         rw [show mRow a b ⟨gg, o⟩ s = (mb a o).set s (rs + b * isum o) by unfold mRow; rw [show mBare a ⟨gg, o⟩ = mb a o from rfl, HRS.out], List.length_set, mb_len, HOL.out]
         exact q)
       have hmown := hT.1.1
       have hrown := hR
       rw [hMl] at hmown
       rw [hRl] at hrown
       obtain ⟨ma, mc, rfl⟩ := own_form hmown
       obtain ⟨ra, rc, rfl⟩ := own_form hrown
       have HT := Lib.hid hT
       have HR := Lib.hid hR
       have HSEP := Lib.hid hsep
       have HML := Lib.hid hMl
       have HRL := Lib.hid hRl
       have HBX4 := Lib.hid (persist HBX.out (btr HB3.out (btr (Below.refl _ _).drew hb4)))
       have hgw2 : (w2.alloc (.cells #[.int .i64 gg, .slice z k q] 50)).heap.size ≤ gr := hgr1
       have HBX5 := Lib.hid ((Below.heap_setCell w4 ⟨gr, s, none⟩ (.int .i64 (rs + b * isum o)) w2.heap.size (by simp at hgw2; show _ ≠ gr; omega)).trans HBX4.out)
       have hsz5 := HB5.out.size
       have hwz := hB.size
       have hzz : W.heap.size ≤ (w4.setCell ⟨gr, s, none⟩ (.int .i64 (rs + b * isum o))).heap.size := by omega
       clear hT hR hsep hMl hRl hst hBa hb4 hrs hgd hfr hq1 hq2 hq3
       generalize w4.setCell ⟨gr, s, none⟩ (.int .i64 (rs + b * isum o)) = w5 at *
       go_wp2_with (at_builtin; refine wpList_app1 rfl _ _ 103 rfl Try.underlying103 infoSl rfl (by decide) W.heap.size (.slice ma s mc) s _ rfl ((own_mono hmown HB5.out).alloc _) w5.heap.size #[.slice (some ⟨gr, 0, none⟩) k vc] rfl (new_at _ _) rfl (by simp [Value.oneCell']) (by omega) (by omega) (by simp; omega) ?_; intro v' w6 hown' hgrow; obtain ⟨na, nc, rfl⟩ := own_form hown')
       have HW6 := Lib.hid (WoSt.row HT.out hlo HR.out HSEP.out HB5.out HE.out (by rw [HML.out]; exact hown') hgrow)
       have HB6 := Lib.hid ((bal (btr hB HB5.out) (.cells #[.slice (some ⟨gr, 0, none⟩) k vc] 26)).grown hgrow (by simp; omega) (fun i hi => (hmown.lt i hi).1))
       have HBX6 := Lib.hid (((app_keep (own_mono hmown HB5.out) (Below.refl _ _) hgrow).2.2 _ _ _ (by decide) HBX5.out).trans HBX5.out)
       have hmt : (mMat a b (planActs A p)).take (s + 1) = (mMat a b (planActs A p)).take s ++ [mRow a b ⟨gg, o⟩ s] := by
         rw [take_row (by rw [mMat_len, HXL.out]; exact hl), mMat_at (by rw [HXL.out]; exact hl), HAC.out]
       have hrt : (mRight b (planActs A p)).take (s + 1) = (mRight b (planActs A p)).take s ++ [b * isum o * gg] := by
         rw [take_nth (by rw [mRight_len, HXL.out]; exact hl), mRight_at (by rw [HXL.out]; exact hl), HAC.out]
       have HMT := Lib.hid hmt
       have HRT := Lib.hid hrt
       clear hown' hgrow hmown hrown hmt hrt
       obtain ⟨E6, D6, hT6, hlo6, hR6, hsep6⟩ := HW6.out
       have HT6 := Lib.hid hT6
       have HR6 := Lib.hid hR6
       have HSEP6 := Lib.hid hsep6
       have hrown6 := hR6
       rw [HRL.out] at hrown6
       have hb6 := HB6.out.drew
       have HSX6 := Lib.hid (fun (w' : World) (hb : Below w6.drew.heap.size w6.drew w') =>
         (show w'.cell? ⟨pw, 1, none⟩ = some (.int .i64 b) ∧ w'.cell? ⟨w2.heap.size, 0, none⟩ = some (.int .i64 gg) ∧ w'.cell? ⟨w2.heap.size, 1, none⟩ = some (.slice z k q) from ⟨(BoxW.cells (persist (persist HW.out HB6.out.drew) hb)).2.2.1, by rw [cells_at (persist (w := w6.drew) HBX6.out hb)]; rfl, by rw [cells_at (persist (w := w6.drew) HBX6.out hb)]; rfl⟩))
       have HSY6 := Lib.hid (fun (w7 w8 : World) (oo : Obj) (hb : Below w6.drew.heap.size w6.drew w7) (hg : (w7.alloc oo).grownBy w8 (Value.slice ra s rc).ownBlock) =>
         (show w8.cell? ⟨pw, 1, none⟩ = some (.int .i64 b) ∧ w8.cell? ⟨w2.heap.size, 0, none⟩ = some (.int .i64 gg) ∧ w8.cell? ⟨w2.heap.size, 1, none⟩ = some (.slice z k q) from
           have k1 := (app_keep (own_mono hrown6 (Below.refl _ _).drew) hb hg).2.2 _ _ _ (by decide) (persist HW.out hb6)
           have k2 := (app_keep (own_mono hrown6 (Below.refl _ _).drew) hb hg).2.2 w2.heap.size _ _ (by decide) HBX6.out
           ⟨(BoxW.cells (k1.trans (persist HW.out hb6))).2.2.1, by rw [cells_at (k2.trans HBX6.out)]; rfl, by rw [cells_at (k2.trans HBX6.out)]; rfl⟩))
       obtain ⟨hq1, hq2, hq3⟩ := HSX6.out _ (Below.refl _ _)
       have hrb3 := mul_le3 (A := 48) (B := 9) (show -48 ≤ b * isum o by omega) (by omega) (show -9 ≤ gg by omega) hg2 (by omega)
       have k3 : IntKind.i64.wrap (b * isum o * gg) = b * isum o * gg := wrap_i64j _ (by omega) (by omega)
       clear hT6 hR6 hsep6 hb6
       go_region_held3 (fun w' => w'.cell? ⟨pw, 1, none⟩ = some (.int .i64 b) ∧ w'.cell? ⟨w2.heap.size, 0, none⟩ = some (.int .i64 gg) ∧ w'.cell? ⟨w2.heap.size, 1, none⟩ = some (.slice z k q))
         (first | exact HSX6.out _ hb7 | exact HSY6.out _ _ _ hb7 hgrow | go_keep)
         (first
           | (go_at_call 54; refine (sum_go _ gg z k q o (HZ.out.mono (HB6.out.drew)) (by omega) HOR.out).mono ?_; rintro e w7 ⟨rfl, hb7⟩)
           | (refine step_app2 rfl _ _ 26 rfl Try.underlying26 infoInt rfl (by decide) W.heap.size (.slice ra s rc) s _ rfl ((own_mono (own_mono hrown6 (Below.refl _ _).drew) hb7).alloc _) w7.heap.size #[.int .i64 (b * isum o * gg)] rfl (new_at _ _) rfl (by simp [Value.oneCell']) (by omega) (by omega) (by have := hb7.size; simp at this; simp; omega) ?_; intro v' w8 hown' hgrow hat; obtain ⟨qa, qc, rfl⟩ := own_form hown'))
       have HWN := Lib.hid (show WoSt w8 W.heap.size (.slice na (s + 1) nc) (.slice qa (s + 1) qc) ((mMat a b (planActs A p)).take (s + 1)) ((mRight b (planActs A p)).take (s + 1)) by
         rw [HMT.out, HRT.out]
         exact WoSt.right HT6.out hlo6 HR6.out HSEP6.out (btr (Below.refl _ _).drew hb7) (by rw [HRL.out, List.map_append]; exact hown') hgrow (by simpa using hat))
       have HBN := Lib.hid ((bal (btr HB6.out.drew hb7) (.cells #[.int .i64 (b * isum o * gg)] 3)).grown hgrow (by have := (btr HB6.out.drew hb7).size; simp; omega) (fun i hi => (hrown6.lt i hi).1))
       clear hown' hgrow hat hrown6 hb7
       go_wp2
       go_roundw
       case rel => go_light; exact ⟨s + 1, by omega, by go_num, HWN, HBN.out⟩
       case measure => simp [intOf]; omega
    · obtain rfl : s = m := by omega
      have HS2 := HS.out
      rw [List.take_of_length_le (by rw [mMat_len, HXL.out]; omega), List.take_of_length_le (by rw [mRight_len, HXL.out]; omega)] at HS2
      have HS3 := Lib.hid HS2
      clear HS2
      go_wp2
      exact ⟨rfl, hexit _ _ _ _ _ _ _ _ _ _ _ _ _ _ _ _ _ _ _ _ _ _ _ _ _ _ _ _ _ _ _ _ _ _ _ _ _ _ _ _ _ _ _ _ _ _ _ _ _ _ _ _ _ _ _ _ _ _ _ _ HS3.out hB⟩
end Go.Proofs.Ytcmakddnjmeklaa
