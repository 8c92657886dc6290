/- Chapter 9: append of one element, whatever its type; walk: Of. -/
import Derived.Test.YtcmakddnjmeklaaZo
import Derived.Deep.RegionHeld3
namespace Go.Proofs.Ytcmakddnjmeklaa
open Go.RowKit

/-- append(out, x): x lies in a block of its own. -/
theorem wp_app1 {o : Oper} {a : Act} {K : Act → World → Prop} {Q : Exit → Act → World → Prop} {w : World} (s x : Operand) (t : TypeId)
    (ho : o.op = .call { callee := .builtin .append, args := #[s, x], argTypes := #[t, t] }) {e size bytes : Nat} {z : Value} (ht : Try.prog.underlying t = some (.slice e))
    (hinfo : (Try.prog.info? e).map (fun i => (i.zero, i.size, i.bytes)) = some (some z, size, bytes)) (hzs : z.cells.size = size) (hsz : 0 < size)
    (base : Nat) (v : Value) (n : Nat) (xs : List Value) (hs : a.eval s = v) (hown : w.ownsRow base e size v n xs)
    (p : Nat) (cs : Array Value) (hx : a.eval x = .slice (some ⟨p, 0, none⟩) 1 1) (hp : w.heap[p]? = some (.cells cs e (0, 0))) (hcs : cs.size = size) (hone : ∀ u ∈ cs.toList, u.oneCell' = true)
    (hb : (n + 1) * bytes ≤ 1000000000000) (hn : n ≤ 1000000000000) (hbase : base ≤ w.heap.size)
    (h : ∀ v' w', w'.ownsRow base e size v' (n + 1) (xs ++ cs.toList) → w.grownBy w' v.ownBlock → K (a.put o.dst v') w') : o.wp Try.prog a w K Q := by
  obtain ⟨i0, hi, hz0, hz1, hz2⟩ := info_parts hinfo
  refine wp_append_own w s x t ho base e i0 z size bytes ht hi hz0 hz1 hz2 hzs hsz v n xs hs hown ⟨p, 0, none⟩ 1 1 cs.toList hx (by simp; omega) ?_ hone (by unfold maxLen; omega) (by omega) hbase (fun v' w' h1 h2 _ => h v' w' h1 h2)
  intro j u hj
  rw [show (⟨p, 0, none⟩ : Addr).add j = ⟨p, j, none⟩ by unfold Addr.add; split <;> simp_all, cells_at hp]
  simpa using hj
theorem wpList_app1 {ops : Array Oper} {rest : List Oper} {o : Oper} {a : Act} {Q : Exit → Act → World → Prop} {w : World} (hgd : o.guard = none) (s x : Operand) (t : TypeId)
    (ho : o.op = .call { callee := .builtin .append, args := #[s, x], argTypes := #[t, t] }) {e size bytes : Nat} {z : Value} (ht : Try.prog.underlying t = some (.slice e))
    (hinfo : (Try.prog.info? e).map (fun i => (i.zero, i.size, i.bytes)) = some (some z, size, bytes)) (hzs : z.cells.size = size) (hsz : 0 < size)
    (base : Nat) (v : Value) (n : Nat) (xs : List Value) (hs : a.eval s = v) (hown : w.ownsRow base e size v n xs)
    (p : Nat) (cs : Array Value) (hx : a.eval x = .slice (some ⟨p, 0, none⟩) 1 1) (hp : w.heap[p]? = some (.cells cs e (0, 0))) (hcs : cs.size = size) (hone : ∀ u ∈ cs.toList, u.oneCell' = true)
    (hb : (n + 1) * bytes ≤ 1000000000000) (hn : n ≤ 1000000000000) (hbase : base ≤ w.heap.size)
    (h : ∀ v' w', w'.ownsRow base e size v' (n + 1) (xs ++ cs.toList) → w.grownBy w' v.ownBlock → wpList Try.prog ops Q rest (a.put o.dst v') w') : wpList Try.prog ops Q (o :: rest) a w :=
  wpList_plain hgd fun _ hK => wp_app1 s x t ho ht hinfo hzs hsz base v n xs hs hown p cs hx hp hcs hone hb hn hbase fun v' w' h2 h3 => hK _ _ (h v' w' h2 h3)
theorem step_app1 {ops : Array Oper} {o : Oper} {a : Act} {K : Act → World → Prop} {Q : Exit → Act → World → Prop} {E : Prop} {w : World} (hgd : o.guard = none) (s x : Operand) (t : TypeId)
    (ho : o.op = .call { callee := .builtin .append, args := #[s, x], argTypes := #[t, t] }) {e size bytes : Nat} {z : Value} (ht : Try.prog.underlying t = some (.slice e))
    (hinfo : (Try.prog.info? e).map (fun i => (i.zero, i.size, i.bytes)) = some (some z, size, bytes)) (hzs : z.cells.size = size) (hsz : 0 < size)
    (base : Nat) (v : Value) (n : Nat) (xs : List Value) (hs : a.eval s = v) (hown : w.ownsRow base e size v n xs)
    (p : Nat) (cs : Array Value) (hx : a.eval x = .slice (some ⟨p, 0, none⟩) 1 1) (hp : w.heap[p]? = some (.cells cs e (0, 0))) (hcs : cs.size = size) (hone : ∀ u ∈ cs.toList, u.oneCell' = true)
    (hb : (n + 1) * bytes ≤ 1000000000000) (hn : n ≤ 1000000000000) (hbase : base ≤ w.heap.size)
    (h : ∀ v' w', w'.ownsRow base e size v' (n + 1) (xs ++ cs.toList) → w.grownBy w' v.ownBlock → K (a.put o.dst v') w') :
    if Region.wanted o (yielded ops a.tmps) = true then Oper.wp Try.prog o a w K Q else E := by
  rw [if_pos (by simp [Region.wanted, hgd])]
  exact wp_app1 s x t ho ht hinfo hzs hsz base v n xs hs hown p cs hx hp hcs hone hb hn hbase h

theorem infoAct : (Try.prog.info? 50).map (fun i => (i.zero, i.size, i.bytes)) = some (some (.agg #[.int .i64 0, .slice none 0 0]), 2, 32) := by kernel_rfl
theorem infoSl : (Try.prog.info? 26).map (fun i => (i.zero, i.size, i.bytes)) = some (some (.slice none 0 0), 1, 24) := by kernel_rfl
theorem infoActs : (Try.prog.info? 49).map (fun i => (i.zero, i.size, i.bytes)) = some (some (.slice none 0 0), 1, 24) := by kernel_rfl
theorem infoFr : (Try.prog.info? 53).map (fun i => (i.zero, i.size, i.bytes)) = some (some (.agg #[.int .i64 0, .int .i64 0]), 2, 16) := by kernel_rfl
/-! ### Of -/
noncomputable def ofBody (i : Nat) : Code := ((loopBodies (Try.f16.body.getD .skip))[i]?).getD .skip
def trAc (x : Ac) : Ac := ⟨x.g, x.o.take 7⟩
def trAcs (A : List Ac) : List Ac := (A.take 5).map trAc
def trL (A : List (List Ac)) : List (List Ac) := (A.take 6).map trAcs
theorem trAcs_snoc {A : List Ac} {j : Nat} (hj : j < A.length) (h5 : j < 5) : trAcs (A.take (j + 1)) = trAcs (A.take j) ++ [trAc (ac A j)] := by
  unfold trAcs
  rw [List.take_take, List.take_take, Nat.min_eq_right (by omega), Nat.min_eq_right (by omega), List.take_succ_eq_append_getElem hj, List.map_append]
  simp [ac, hj]
theorem trAcs_same {A : List Ac} {j : Nat} (h5 : ¬ j < 5) : trAcs (A.take (j + 1)) = trAcs (A.take j) := by
  unfold trAcs
  rw [List.take_take, List.take_take, Nat.min_eq_left (by omega), Nat.min_eq_left (by omega)]
theorem trAcs_len {A : List Ac} {j : Nat} (hj : j ≤ A.length) (h5 : j ≤ 5) : (trAcs (A.take j)).length = j := by
  unfold trAcs; simp; omega
theorem ActsOwn.nil (w : World) (lo : Nat) : ActsOwn w lo lo (.slice none 0 0) [] :=
  ⟨fun _ => .slice none 0 0, fun _ => lo, ⟨World.ownsRow_nil _ _ _ _, fun b hb => by simp [Value.ownBlock] at hb⟩, Nat.le_refl _, fun i hi => absurd hi (by simp), Nat.le_refl _, fun i hi => absurd hi (by simp)⟩
theorem Acts2Own.nil (w : World) (lo : Nat) : Acts2Own w lo lo (.slice none 0 0) [] :=
  ⟨fun _ => .slice none 0 0, fun _ => lo, ⟨World.ownsRow_nil _ _ _ _, fun b hb => by simp [Value.ownBlock] at hb⟩, Nat.le_refl _, fun i hi => absurd hi (by simp), Nat.le_refl _, fun i hi => absurd hi (by simp)⟩
theorem Acts2Own.wide {w : World} {lo hi hi' : Nat} {v : Value} {A : List (List Ac)} (h : Acts2Own w lo hi v A) (hh : hi ≤ hi') : Acts2Own w lo hi' v A := by
  obtain ⟨E, D, h1, h2, h3, h4, h5⟩ := h
  exact ⟨E, D, h1.wide hh, h2, h3, by omega, h5⟩

set_option maxRecDepth 100000 in
set_option maxHeartbeats 1000000 in
theorem of_acts (w : World) (x : Option Addr) (n c : Nat) (A : List Ac) (hA : AcSl w x n c A) (R : Act → World → Prop)
    (W : World) (hB0 : Below w.heap.size w W) (c0 c1 c2 c3 c4 c5 c7 c8 c9 c10 c11 c12 c13 c14 c15 c16 c17 c18 c19 c20 c21 c25 c26 c27 c28 c29 c30 c31 c32 c33 c34 c35 c36 c37 c38 c39 c40 c41 c42 c43 c44 c45 c46 c47 c48 : Value)
    (hexit : ∀ (v : Value), ∀ (u7 u8 u24 u25 u26 u27 u28 u29 u30 u31 u32 u33 u34 u35 u36 u37 u38 u39 u40 : Value) (w' : World), ActsOwn w' W.heap.size w'.heap.size v (trAcs A) → Below W.heap.size W w' → R ⟨List.toArray (c0 :: c1 :: c2 :: c3 :: c4 :: c5 :: v :: u7 :: u8 :: c9 :: c10 :: c11 :: c12 :: c13 :: c14 :: c15 :: c16 :: c17 :: c18 :: c19 :: c20 :: c21 :: .slice x n c :: .int .i64 n :: u24 :: u25 :: u26 :: u27 :: u28 :: u29 :: u30 :: u31 :: u32 :: u33 :: u34 :: u35 :: u36 :: u37 :: u38 :: u39 :: u40 :: c41 :: c42 :: c43 :: c44 :: c45 :: c46 :: c47 :: c48 :: []), []⟩ w') :
    Code.wp Try.prog (Code.loop (ofBody 1)) (OnExit 2 R) ⟨List.toArray (c0 :: c1 :: c2 :: c3 :: c4 :: c5 :: .slice none 0 0 :: c7 :: c8 :: c9 :: c10 :: c11 :: c12 :: c13 :: c14 :: c15 :: c16 :: c17 :: c18 :: c19 :: c20 :: c21 :: .slice x n c :: .int .i64 n :: .int .i64 0 :: c25 :: c26 :: c27 :: c28 :: c29 :: c30 :: c31 :: c32 :: c33 :: c34 :: c35 :: c36 :: c37 :: c38 :: c39 :: c40 :: c41 :: c42 :: c43 :: c44 :: c45 :: c46 :: c47 :: c48 :: []), []⟩ W := by
  conv => arg 2; arg 1; whnf
  have HL := Lib.hid hA.1
  have hcap := hA.2.cap
  unfold maxLen at hcap
  have HA := Lib.hid (hA.mono hB0)
  clear hA hB0
  go_loopw [6, 24] (fun v t wr => ∃ i : Nat, i ≤ n ∧ t = .int .i64 i ∧ Hid (ActsOwn wr W.heap.size wr.heap.size v (trAcs (A.take i))) ∧ Below W.heap.size W wr) (fun _ t _ => n - (intOf t).toNat)
  case atStart => exact ⟨0, by omega, rfl, Lib.hid (ActsOwn.nil _ _), Below.refl _ _⟩
  case round =>
    obtain ⟨i, hi, rfl, HO, hB⟩ := hrel
    by_cases hl : i < n
    · obtain ⟨b, off, rfl, hb, hc⟩ := (HA.out.mono hB).at (by omega)
      obtain ⟨eg, z, k, q, eo, hS⟩ := hc i hl
      obtain ⟨g, hg⟩ : ∃ g, (ac A i).g = g := ⟨_, rfl⟩
      obtain ⟨l, hl2⟩ : ∃ l, (ac A i).o = l := ⟨_, rfl⟩
      have HG := Lib.hid (show ac A i = ⟨g, l⟩ by rw [← hg, ← hl2])
      rw [hg] at eg
      rw [hl2] at hS
      have hb0 : Below wr.heap.size wr (wr.alloc (.cells #[.int .i64 g, .slice z k q] 42)).drew := (bal (Below.refl wr.heap.size wr) _).drew
      have HS := Lib.hid (hS.mono hb0)
      have HB0 := Lib.hid hb0
      have HBX := Lib.hid (show (wr.alloc (.cells #[.int .i64 g, .slice z k q] 42)).drew.heap[wr.heap.size]? = some (.cells #[.int .i64 g, .slice z k q] 42 (0, 0)) from new_at wr _)
      clear hc hS hg hl2
      by_cases h5 : i < 5
      · have d5 : decide ((i : Int) < 5) = true := by simp; omega
        have d5' : decide (i < 5) = true := by simpa using h5
        obtain ⟨E, D, hT⟩ := (HO.out.mono hb0).wide hb0.size
        have hTT := Lib.hid hT
        have hlen := trAcs_len (A := A) (j := i) (by have := HL.out; omega) (by omega)
        have hown := hT.1.1
        rw [hlen] at hown
        have hz1 : wr.heap.size + 1 = (wr.alloc (.cells #[.int .i64 g, .slice z k q] 42)).drew.heap.size := by simp
        have hWs := hB.size
        clear hT hb0 hlen
        have HSX := Lib.hid (fun (w' : World) (hb : w'.heap[wr.heap.size]? = some (.cells #[.int .i64 g, .slice z k q] 42 (0, 0))) =>
          (show w'.cell? ⟨wr.heap.size, 0, none⟩ = some (.int .i64 g) ∧ w'.cell? ⟨wr.heap.size, 1, none⟩ = some (.slice z k q) from ⟨by rw [cells_at hb]; rfl, by rw [cells_at hb]; rfl⟩))
        go_wp2
        go_region_held3 (fun w' => w'.cell? ⟨wr.heap.size, 0, none⟩ = some (.int .i64 g) ∧ w'.cell? ⟨wr.heap.size, 1, none⟩ = some (.slice z k q))
          (first | exact HSX.out _ (persist HBX.out hb2) | exact HSX.out _ (persist HBX.out (bal hb2 _)) | exact HSX.out _ (((app_keep hTT.out.1.1 hb2 hgrow).2.2 _ _ _ (by decide) HBX.out).trans HBX.out) | go_keep)
          (first
            | (go_at_call 17; refine (list_go _ z k q l HS.out).mono ?_; rintro e w2 ⟨a2, n2, c2, rfl, hE, hb2⟩)
            | (refine step_app1 rfl _ _ 49 rfl Try.underlying49 infoAct rfl (by decide) W.heap.size u6 i _ rfl ((own_mono hown hb2).alloc _) w2.heap.size #[.int .i64 g, .slice a2 n2 c2] rfl (new_at _ _) rfl (by simp [Value.oneCell']) (by omega) (by omega) (by have := hb2.size; simp; omega) ?_; intro v' wn hown' hgrow))
        have hn2 : n2 = (l.take 7).length := by have := hE.1; simpa using this.symm
        subst hn2
        have hi2 : i < A.length := by rw [HL.out]; exact hl
        have hlen := trAcs_len (A := A) (j := i) (by omega) (by omega)
        have hN := ActsTr.snoc (x := ⟨g, l.take 7⟩) hTT.out (by omega) hb2 hE (by rw [hlen]; exact hown') hgrow
        rw [show (⟨g, l.take 7⟩ : Ac) = trAc (ac A i) by rw [HG.out]; rfl, ← trAcs_snoc hi2 h5] at hN
        have HN := Lib.hid hN
        have HBN := Lib.hid ((bal (btr (btr hB HB0.out) hb2) _).grown hgrow (by have := hb2.size; simp; omega) (fun j hj => (hown.lt j hj).1))
        clear hN hown' hgrow hE hown hlen hb2 hB
        go_wp2
        go_roundw
        case rel => go_light; exact ⟨i + 1, by omega, by go_num, HN, HBN.out⟩
        case measure => simp [intOf]; omega
      · have d5 : decide ((i : Int) < 5) = false := by simp; omega
        have d5' : decide (i < 5) = false := by simpa using h5
        have HO2 := Lib.hid (show ActsOwn (wr.alloc (.cells #[.int .i64 g, .slice z k q] 42)) W.heap.size (wr.alloc (.cells #[.int .i64 g, .slice z k q] 42)).heap.size u6 (trAcs (A.take (i + 1))) by
          rw [trAcs_same h5]; exact (HO.out.mono (bal (Below.refl _ _) _)).wide (by simp))
        have HB2 := Lib.hid (bal hB (.cells #[.int .i64 g, .slice z k q] 42))
        clear hb0 hB
        go_wp2
        go_roundw
        case rel => go_light; exact ⟨i + 1, by omega, by go_num, HO2, HB2.out⟩
        case measure => simp [intOf]; omega
    · obtain rfl : i = n := by omega
      have HO2 := HO.out
      rw [List.take_of_length_le (by have := HL.out; omega)] at HO2
      have HO3 := Lib.hid HO2
      clear HO2
      go_wp2
      exact ⟨rfl, hexit _ _ _ _ _ _ _ _ _ _ _ _ _ _ _ _ _ _ _ _ _ HO3.out hB⟩

theorem trL_snoc {A : List (List Ac)} {j : Nat} (hj : j < A.length) (h6 : j < 6) : trL (A.take (j + 1)) = trL (A.take j) ++ [trAcs (acl A j)] := by
  unfold trL
  rw [List.take_take, List.take_take, Nat.min_eq_right (by omega), Nat.min_eq_right (by omega), List.take_succ_eq_append_getElem hj, List.map_append]
  simp [acl, hj]
theorem trL_len {A : List (List Ac)} {j : Nat} (hj : j ≤ A.length) (h6 : j ≤ 6) : (trL (A.take j)).length = j := by
  unfold trL; simp; omega
theorem trL_end {A : List (List Ac)} {j : Nat} (h : j = A.length ∨ j = 6) : trL (A.take j) = trL A := by
  unfold trL
  rcases h with rfl | rfl
  · rw [List.take_length]
  · rw [List.take_take, Nat.min_self]

set_option maxRecDepth 100000 in
set_option maxHeartbeats 1000000 in
theorem of_lists (w : World) (x : Option Addr) (n c po : Nat) (a b : Int) (A : List (List Ac)) (hA : A2Sl w x n c A) (R : Act → World → Prop)
    (W : World) (hW0 : Below w.heap.size w W) (hpo : W.heap[po]? = some (.cells #[.int .i64 a, .int .i64 b, .slice none 0 0] 33 (0, 0))) (hpw : w.heap.size ≤ po) (c0 c1 c2 c4 c5 c6 c7 c8 c9 c10 c11 c12 c16 c17 c18 c19 c20 c21 c22 c23 c24 c25 c26 c27 c28 c29 c30 c31 c32 c33 c34 c35 c36 c37 c38 c39 c40 c41 c42 c43 c44 c45 c46 c47 c48 : Value)
    (hexit : ∀ (v : Value), ∀ (u4 u5 u6 u7 u8 u15 u16 u17 u18 u19 u20 u21 u22 u23 u24 u25 u26 u27 u28 u29 u30 u31 u32 u33 u34 u35 u36 u37 u38 u39 u40 u41 u42 u43 u44 u45 u46 u47 : Value) (w' : World), Acts2Own w' W.heap.size w'.heap.size v (trL A) → w'.heap[po]? = some (.cells #[.int .i64 a, .int .i64 b, v] 33 (0, 0)) → Below w.heap.size w w' → W.grownBy w' (some po) → R ⟨List.toArray (c0 :: c1 :: c2 :: .pointer (some ⟨po, 0, none⟩) :: u4 :: u5 :: u6 :: u7 :: u8 :: c9 :: c10 :: c11 :: c12 :: .slice x n c :: .int .i64 n :: u15 :: u16 :: u17 :: u18 :: u19 :: u20 :: u21 :: u22 :: u23 :: u24 :: u25 :: u26 :: u27 :: u28 :: u29 :: u30 :: u31 :: u32 :: u33 :: u34 :: u35 :: u36 :: u37 :: u38 :: u39 :: u40 :: u41 :: u42 :: u43 :: u44 :: u45 :: u46 :: u47 :: c48 :: []), []⟩ w') :
    Code.wp Try.prog (Code.loop (ofBody 0)) (OnExit 0 R) ⟨List.toArray (c0 :: c1 :: c2 :: .pointer (some ⟨po, 0, none⟩) :: c4 :: c5 :: c6 :: c7 :: c8 :: c9 :: c10 :: c11 :: c12 :: .slice x n c :: .int .i64 n :: .int .i64 0 :: c16 :: c17 :: c18 :: c19 :: c20 :: c21 :: c22 :: c23 :: c24 :: c25 :: c26 :: c27 :: c28 :: c29 :: c30 :: c31 :: c32 :: c33 :: c34 :: c35 :: c36 :: c37 :: c38 :: c39 :: c40 :: c41 :: c42 :: c43 :: c44 :: c45 :: c46 :: c47 :: c48 :: []), []⟩ W := by
  conv => arg 2; arg 1; whnf
  have HL := Lib.hid hA.1
  have hcap := hA.2.cap
  unfold maxLen at hcap
  have HA := Lib.hid hA
  have hpo2 := lt_of_block hpo
  have HWW := Lib.hid hW0.size
  clear hA
  go_loopw [15] (fun t wr => ∃ (i : Nat) (v : Value), i ≤ n ∧ i ≤ 6 ∧ t = .int .i64 i ∧ Hid (Acts2Own wr W.heap.size wr.heap.size v (trL (A.take i))) ∧ Hid (wr.heap[po]? = some (.cells #[.int .i64 a, .int .i64 b, v] 33 (0, 0))) ∧ Hid (Below w.heap.size w wr) ∧ Hid (W.grownBy wr (some po)) ∧ W.heap.size ≤ wr.heap.size) (fun t _ => n - (intOf t).toNat)
  case atStart => exact ⟨0, _, by omega, by omega, rfl, Lib.hid (Acts2Own.nil _ _), Lib.hid hpo, Lib.hid hW0, Lib.hid (World.grownBy.refl _ _), Nat.le_refl _⟩
  case round =>
    clear hpo hW0
    obtain ⟨i, v, hi, hi6, rfl, HO, HPO, HB, HGR, hsz⟩ := hrel
    by_cases hl : i < n
    · obtain ⟨b1, off, rfl, hb1, hc⟩ := (HA.out.mono HB.out).at (by omega)
      obtain ⟨z, k, q, eo, hS⟩ := hc i hl
      have HS := Lib.hid hS
      clear hc hS
      by_cases h6 : i < 6
      · have d6 : decide ((5 : Int) < (i : Int)) = false := by simp; omega
        have d6' : decide (5 < i) = false := by simp; omega
        go_wp2
        refine wp_onExit (k := 2) (of_acts wr z k q (acl A i) HS.out _ wr (Below.refl _ _) _ _ _ _ _ _ _ _ _ _ _ _ _ _ _ _ _ _ _ _ _ _ _ _ _ _ _ _ _ _ _ _ _ _ _ _ _ _ _ _ _ _ _ _ _ ?_)
        intro y v7 v8 v24 v25 v26 v27 v28 v29 v30 v31 v32 v33 v34 v35 v36 v37 v38 v39 v40 w2 hO2 hb2
        obtain ⟨ya, yc, rfl, _⟩ := hO2.sl
        obtain ⟨va, vc, rfl, _⟩ := HO.out.sl
        obtain ⟨E, D, hT⟩ := (HO.out.wide (Nat.le_refl _))
        have hlen := trL_len (A := A) (j := i) (by have := HL.out; omega) (by omega)
        have hown := hT.1.1
        have hp2 := persist HPO.out hb2
        have hp0 := HPO.out
        rw [hlen] at hown hp2 hp0 hT
        have hTT := Lib.hid hT
        have HP0 := Lib.hid hp0
        have HOW := Lib.hid hown
        have HP2 := Lib.hid hp2
        have cp : w2.cell? ⟨po, 2, none⟩ = some (.slice va i vc) := by rw [cells_at hp2]; rfl
        generalize hyl : (trAcs (acl A i)).length = yn at *
        have HYL := Lib.hid hyl
        have fp := free_at hp2 2
        have zp := lt_of_block hp2
        have hown2 := own_mono hown hb2
        have hz2 := hb2.size
        clear hT hp2 hlen hown hyl hp0
        go_wp2_with (at_builtin; refine wpList_app1 rfl _ _ 31 rfl Try.underlying31 infoActs rfl (by decide) W.heap.size (.slice va i vc) i _ rfl (hown2.alloc _) w2.heap.size #[.slice ya yn yc] rfl (new_at _ _) rfl (by simp [Value.oneCell']) (by omega) (by omega) (by simp; omega) ?_; intro v' wn hown' hgrow; obtain ⟨wa, wc, rfl⟩ := own_form hown'; have hpn := ((app_keep HOW.out hb2 hgrow).2.2 _ _ _ (by decide) HP0.out).trans HP0.out; have cpn : wn.cell? ⟨po, 2, none⟩ = some (.slice va i vc) := by { rw [cells_at hpn]; rfl }; have fpn := free_at hpn 2; have zpn := lt_of_block hpn)
        have hi2 : i < A.length := by rw [HL.out]; exact hl
        have hN := Acts2Tr.snoc hTT.out hsz hb2 hO2 (by rw [trL_len (by omega) (by omega)]; exact hown') hgrow
        rw [← trL_snoc hi2 h6] at hN
        have hpz : wn.heap[po]? = some (.cells #[.int .i64 a, .int .i64 b, .slice va i vc] 33 (0, 0)) := hpn
        have hps := set_at hpz 2 (.slice wa (i + 1) wc)
        have HPS := Lib.hid hps
        have hsw : (wn.setCell ⟨po, 2, none⟩ (.slice wa (i + 1) wc)).heap.size = wn.heap.size := by simp [World.setCell]
        have HN := Lib.hid (show Acts2Own (wn.setCell ⟨po, 2, none⟩ (.slice wa (i + 1) wc)) W.heap.size (wn.setCell ⟨po, 2, none⟩ (.slice wa (i + 1) wc)).heap.size (.slice wa (i + 1) wc) (trL (A.take (i + 1))) by
          rw [hsw]
          refine hN.keep fun b' cs e' _ _ he hbb => ?_
          refine Below.heap_setCell _ _ _ _ ?_
          rintro rfl
          rw [hpz] at hbb
          injection hbb with hbb
          injection hbb with _ h4
          rcases he with rfl | rfl | rfl <;> exact absurd h4 (by decide))
        have HBN := Lib.hid (show Below w.heap.size w (wn.setCell ⟨po, 2, none⟩ (.slice wa (i + 1) wc)) from
          ((bal (btr HB.out hb2) _).grown hgrow (by have := (btr HB.out hb2).size; simp; omega) (fun j hj => by have := (HOW.out.lt j hj).1; have := HWW.out; omega)).setCell hpw _)
        have hgs := (app_keep HOW.out hb2 hgrow).1
        have HGN := Lib.hid (show W.grownBy (wn.setCell ⟨po, 2, none⟩ (.slice wa (i + 1) wc)) (some po) from
          ⟨hgrow.os.trans (hb2.os.trans HGR.out.os), hgrow.tape.trans (hb2.tape.trans HGR.out.tape), hgrow.output.trans (hb2.output.trans HGR.out.output), by rw [hsw]; omega, fun k hk hne => by
            rw [Below.heap_setCell _ _ _ _ (by rintro rfl; exact hne rfl), hgrow.block k (by simp; omega) (fun e => by have := (HOW.out.lt k e.symm).1; omega), Below.heap_alloc w2 _ k (by omega), hb2.block k (by omega)]
            exact HGR.out.block k hk hne⟩)
        have hsz2 : W.heap.size ≤ (wn.setCell ⟨po, 2, none⟩ (.slice wa (i + 1) wc)).heap.size := by rw [hsw]; omega
        clear hN hpz hps hown' hgrow hO2 hb2 hpn hsw
        go_wp2
        go_roundw
        case rel => go_light; exact ⟨i + 1, _, by omega, by omega, by go_num, HN, HPS, HBN, HGN, hsz2⟩
        case measure => simp [intOf]; omega
      · have d6 : decide ((5 : Int) < (i : Int)) = true := by simp; omega
        have d6' : decide (5 < i) = true := by simp; omega
        have HO2 := Lib.hid (show Acts2Own wr W.heap.size wr.heap.size v (trL A) by rw [← trL_end (j := i) (.inr (by omega))]; exact HO.out)
        go_wp2
        exact ⟨rfl, hexit _ _ _ _ _ _ _ _ _ _ _ _ _ _ _ _ _ _ _ _ _ _ _ _ _ _ _ _ _ _ _ _ _ _ _ _ _ _ _ _ HO2.out HPO.out HB.out HGR.out⟩
    · obtain rfl : i = n := by omega
      have HO2 := Lib.hid (show Acts2Own wr W.heap.size wr.heap.size v (trL A) by rw [← trL_end (j := i) (.inl HL.out.symm)]; exact HO.out)
      go_wp2
      exact ⟨rfl, hexit _ _ _ _ _ _ _ _ _ _ _ _ _ _ _ _ _ _ _ _ _ _ _ _ _ _ _ _ _ _ _ _ _ _ _ _ _ _ _ _ HO2.out HPO.out HB.out HGR.out⟩

theorem OwnIn.low {w : World} {lo lo' hi e size n : Nat} {v : Value} {xs : List Value} (h : OwnIn w lo hi e size v n xs) (hh : lo' ≤ lo) : OwnIn w lo' hi e size v n xs := ⟨own_base h.1 hh, h.2⟩
theorem Acts2Own.low {w : World} {lo lo' hi : Nat} {v : Value} {A : List (List Ac)} (h : Acts2Own w lo hi v A) (hh : lo' ≤ lo) : Acts2Own w lo' hi v A := by
  obtain ⟨E, D, h1, h2, h3, h4, h5⟩ := h
  exact ⟨E, D, h1.low hh, by omega, h3, h4, h5⟩
/-- A world that a call made and owns. -/
def GivesWd (w : World) (a b : Int) (A : List (List Ac)) (e : Ending) (w' : World) : Prop :=
  ∃ x n c, e = .returned (wv a b x n c) ∧ Acts2Own w' w.heap.size w'.heap.size (.slice x n c) A ∧ Below w.heap.size w w'

set_option maxRecDepth 100000 in
set_option maxHeartbeats 1000000 in
theorem of_go (w : World) (x : Option Addr) (n c : Nat) (a b : Int) (A : List (List Ac)) (hA : A2Sl w x n c A) :
    Calls Try.prog 16 #[wv a b x n c] w (GivesWd w a b (trL A)) := by
  have hw3 := bal (bal (bal (Below.refl w.heap.size w) (.cells #[.int .i64 a, .int .i64 b, .slice x n c] 25)) (.cells #[.int .i64 0, .int .i64 0, .slice none 0 0] 33)) (.cells #[.int .i64 a, .int .i64 b, .slice none 0 0] 33)
  have HW3 := Lib.hid hw3
  have HA := Lib.hid hA
  clear hA hw3
  go_enter Try.func16, Try.ntmps16
  go_wp2
  refine wp_onExit (k := 0) (of_lists w x n c (w.heap.size + 2) a b A HA.out _ _ HW3.out (by have := new_at (((w.alloc (.cells #[.int .i64 a, .int .i64 b, .slice x n c] 25)).alloc (.cells #[.int .i64 0, .int .i64 0, .slice none 0 0] 33))) (.cells #[.int .i64 a, .int .i64 b, .slice none 0 0] 33); simpa using this) (by omega) _ _ _ _ _ _ _ _ _ _ _ _ _ _ _ _ _ _ _ _ _ _ _ _ _ _ _ _ _ _ _ _ _ _ _ _ _ _ _ _ _ _ _ _ _ ?_)
  intro v v4 v5 v6 v7 v8 v15 v16 v17 v18 v19 v20 v21 v22 v23 v24 v25 v26 v27 v28 v29 v30 v31 v32 v33 v34 v35 v36 v37 v38 v39 v40 v41 v42 v43 v44 v45 v46 v47 w2 hO hp hb hg
  obtain ⟨va, vc, rfl, _⟩ := hO.sl
  have hq : w2.heap[w.heap.size + 1]? = some (.cells #[.int .i64 0, .int .i64 0, .slice none 0 0] 33 (0, 0)) := by
    rw [hg.block _ (by simp) (by simp)]
    have h1 := new_at2 w (.cells #[.int .i64 a, .int .i64 b, .slice x n c] 25) (.cells #[.int .i64 0, .int .i64 0, .slice none 0 0] 33)
    rw [Below.heap_alloc _ _ _ (by simp)]; exact h1
  have p0 : w2.cell? ⟨w.heap.size + 2, 0, none⟩ = some (.int .i64 a) := by rw [cells_at hp]; rfl
  have p1 : w2.cell? ⟨w.heap.size + 2, 1, none⟩ = some (.int .i64 b) := by rw [cells_at hp]; rfl
  have p2 : w2.cell? ⟨w.heap.size + 2, 2, none⟩ = some (.slice va (trL A).length vc) := by rw [cells_at hp]; rfl
  have q0 : w2.cell? ⟨w.heap.size + 1, 0, none⟩ = some (.int .i64 0) := by rw [cells_at hq]; rfl
  have q1 : w2.cell? ⟨w.heap.size + 1, 1, none⟩ = some (.int .i64 0) := by rw [cells_at hq]; rfl
  have q2 : w2.cell? ⟨w.heap.size + 1, 2, none⟩ = some (.slice none 0 0) := by rw [cells_at hq]; rfl
  have f0 := free_at hq 0
  have f1 := free_at hq 1
  have f2 := free_at hq 2
  have zp := lt_of_block hp
  have HO := Lib.hid hO
  have HQ := Lib.hid hq
  clear hO hp hq hg
  generalize (trL A).length = m at *
  go_wp2
  have hq3 := set_at (set_at (set_at HQ.out 0 (.int .i64 a)) 1 (.int .i64 b)) 2 (.slice va m vc)
  have hsz : (((w2.setCell ⟨w.heap.size + 1, 0, none⟩ (.int .i64 a)).setCell ⟨w.heap.size + 1, 1, none⟩ (.int .i64 b)).setCell ⟨w.heap.size + 1, 2, none⟩ (.slice va m vc)).heap.size = w2.heap.size := by simp [World.setCell]
  have hBe : Below w.heap.size w (((w2.setCell ⟨w.heap.size + 1, 0, none⟩ (.int .i64 a)).setCell ⟨w.heap.size + 1, 1, none⟩ (.int .i64 b)).setCell ⟨w.heap.size + 1, 2, none⟩ (.slice va m vc)) :=
    ((hb.setCell (by show w.heap.size ≤ w.heap.size + 1; omega) _).setCell (by show w.heap.size ≤ w.heap.size + 1; omega) _).setCell (by show w.heap.size ≤ w.heap.size + 1; omega) _
  have hOe : Acts2Own (((w2.setCell ⟨w.heap.size + 1, 0, none⟩ (.int .i64 a)).setCell ⟨w.heap.size + 1, 1, none⟩ (.int .i64 b)).setCell ⟨w.heap.size + 1, 2, none⟩ (.slice va m vc)) (w.heap.size + 3) w2.heap.size (.slice va m vc) (trL A) := by
    have := HO.out
    simp only [World.size_alloc] at this
    refine this.keep fun b' cs e' h1 _ _ _ => ?_
    rw [Below.heap_setCell _ _ _ _ (by show b' ≠ w.heap.size + 1; omega), Below.heap_setCell _ _ _ _ (by show b' ≠ w.heap.size + 1; omega), Below.heap_setCell _ _ _ _ (by show b' ≠ w.heap.size + 1; omega)]
  generalize (((w2.setCell ⟨w.heap.size + 1, 0, none⟩ (.int .i64 a)).setCell ⟨w.heap.size + 1, 1, none⟩ (.int .i64 b)).setCell ⟨w.heap.size + 1, 2, none⟩ (.slice va m vc)) = wf at *
  have c0 : wf.cell? ⟨w.heap.size + 1, 0, none⟩ = some (.int .i64 a) := by rw [cells_at hq3]; rfl
  have c1 : wf.cell? ⟨w.heap.size + 1, 1, none⟩ = some (.int .i64 b) := by rw [cells_at hq3]; rfl
  have c2 : wf.cell? ⟨w.heap.size + 1, 2, none⟩ = some (.slice va m vc) := by rw [cells_at hq3]; rfl
  refine bodyPost_ret (v := wv a b va m vc) (by simp [results, Try.results16, go_sem, c0, c1, c2]) rfl ⟨va, m, vc, rfl, ?_, hBe⟩
  rw [hsz]
  exact hOe.low (by omega)
end Go.Proofs.Ytcmakddnjmeklaa
