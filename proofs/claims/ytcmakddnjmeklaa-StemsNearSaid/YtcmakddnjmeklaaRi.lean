/- Chapter 9, the reference: plans. -/
import Derived.Test.YtcmakddnjmeklaaRh
import Derived.Laws.Append
namespace Go.Proofs.Ytcmakddnjmeklaa
open Go.RowKit
set_option linter.unusedSimpArgs false

/-! ### append to a slice without room -/
theorem addr_add0 (b off j : Nat) : (⟨b, off, none⟩ : Addr).add j = ⟨b, off + j, none⟩ := by unfold Addr.add; split <;> simp_all
theorem run_app_full (w : World) (ty : TypeId) (v : Value) (s : Nat) (l : List Int) (hl : l.length = s) (hs : s ≤ 8)
    (hv : (v = .slice none 0 0 ∧ s = 0) ∨ (0 < s ∧ ∃ b off, v = .slice (some ⟨b, off, none⟩) s s ∧ ∀ i, i < s → w.cell? ⟨b, off + i, none⟩ = some (.int .i64 (nth l i))))
    (p : Nat) (x : Int) (hp : w.heap[p]? = some (.cells #[.int .i64 x] 3 (0, 0))) :
    ∃ v' w', (Builtin.append_ #[26, 26] ty #[v, .slice (some ⟨p, 0, none⟩) 1 1]).run Try.prog w = .ok v' w' ∧ w'.ownsRow w.heap.size 3 1 v' (s + 1) ((l ++ [x]).map (Value.int .i64)) ∧ Below w.heap.size w w' := by
  obtain ⟨i0, hi, hz0, hz1, hz2⟩ := info_parts infoInt
  have hnews : ∀ j u, [Value.int .i64 x][j]? = some u → w.cell? ((⟨p, 0, none⟩ : Addr).add j) = some u := by
    intro j u hj
    rw [addr_add0, cells_at hp]
    simpa using hj
  rcases hv with ⟨rfl, rfl⟩ | ⟨h0, b, off, rfl, hc⟩
  · obtain rfl : l = [] := List.length_eq_zero_iff.1 hl
    obtain ⟨v', w', hr, h2, h3, _⟩ := run_append_own (P := Try.prog) w w.heap.size 26 ty 3 i0 (.int .i64 0) 1 8 Try.underlying26 hi hz0 hz1 hz2 rfl (by decide) (.slice none 0 0) 0 [] (World.ownsRow_nil _ _ _ _) ⟨p, 0, none⟩ 1 1 [.int .i64 x] rfl hnews (fun u hu => by simp at hu; subst hu; rfl) (by unfold maxLen; omega) (by omega) (Nat.le_refl _)
    exact ⟨v', w', hr, h2, (Below.refl _ _).grown h3 (Nat.le_refl _) (fun k hk => by simp [Value.ownBlock] at hk)⟩
  · have hr := run_append_grow (P := Try.prog) w 26 ty 3 i0 (.int .i64 0) Try.underlying26 hi hz0 ⟨b, off, none⟩ s s (l.map (Value.int .i64)) (by rw [hz1]; simpa using hl)
      (fun j u hj => by
        rw [List.getElem?_map] at hj
        rcases Nat.lt_or_ge j l.length with hjl | hjl
        · rw [List.getElem?_eq_getElem hjl] at hj
          simp at hj; subst hj
          have := hc j (by omega)
          rw [nth_of_lt hjl] at this
          rw [addr_add0]; exact this
        · rw [List.getElem?_eq_none hjl] at hj; simp at hj) ⟨p, 0, none⟩ 1 1 [.int .i64 x] (by rw [hz1]; rfl) hnews (by omega) (by omega) (growslice_fits (by omega) (by rw [hz2]; omega))
    refine ⟨_, _, hr, ?_, bal (Below.refl _ _).drew _⟩
    have hg := grownCap_ge w (s + 1) s 3
    refine ⟨by simpa using hl, .inr ⟨w.heap.size, _, _, rfl, Nat.le_refl _, new_at w.drew _, hg, grownCap_le_maxLen w (s + 1) s _ (by unfold maxLen; omega), ?_, ?_⟩⟩
    · simp [size_zeroCells, Value.cells, hl]; omega
    · simp only [Array.toList_append, List.toList_toArray]
      rw [List.take_append_of_le_length (by simp; omega), List.take_of_length_le (by simp; omega), List.map_append]
      rfl
theorem step_appF {ops : Array Oper} {o : Oper} {a : Act} {K : Act → World → Prop} {Q : Exit → Act → World → Prop} {E : Prop} {w : World} (hgd : o.guard = none) (s x : Operand)
    (ho : o.op = .call { callee := .builtin .append, args := #[s, x], argTypes := #[26, 26] }) (v : Value) (n : Nat) (l : List Int) (hs : a.eval s = v) (hl : l.length = n) (hn : n ≤ 8)
    (hv : (v = .slice none 0 0 ∧ n = 0) ∨ (0 < n ∧ ∃ b off, v = .slice (some ⟨b, off, none⟩) n n ∧ ∀ i, i < n → w.cell? ⟨b, off + i, none⟩ = some (.int .i64 (nth l i))))
    (p : Nat) (z : Int) (hx : a.eval x = .slice (some ⟨p, 0, none⟩) 1 1) (hp : w.heap[p]? = some (.cells #[.int .i64 z] 3 (0, 0)))
    (h : ∀ v' w', w'.ownsRow w.heap.size 3 1 v' (n + 1) ((l ++ [z]).map (Value.int .i64)) → Below w.heap.size w w' → K (a.put o.dst v') w') :
    if Region.wanted o (yielded ops a.tmps) = true then Oper.wp Try.prog o a w K Q else E := by
  rw [if_pos (by simp [Region.wanted, hgd])]
  obtain ⟨v', w', hr, h2, h3⟩ := run_app_full w o.type v n l hl hn hv p z hp
  unfold Oper.wp execOp
  simp only [ho, resolve, invoke, builtin, Sem.run_bind, Sem.run_pure, Result.andThen_ok, List.map_toArray, List.map_cons, List.map_nil, hs, hx, hr]
  exact h v' w' h2 h3
/-- append(out, rows...) of one own row to another. -/
theorem step_appR {ops : Array Oper} {o : Oper} {a : Act} {K : Act → World → Prop} {Q : Exit → Act → World → Prop} {E : Prop} {w : World} (hgd : o.guard = none) (s x : Operand) (t : TypeId)
    (ho : o.op = .call { callee := .builtin .append, args := #[s, x], argTypes := #[t, t] }) (ht : Try.prog.underlying t = some (.slice 26))
    (base : Nat) (v : Value) (n : Nat) (xs : List Value) (hs : a.eval s = v) (hown : w.ownsRow base 26 1 v n xs)
    (base2 : Nat) (ad : Option Addr) (m c : Nat) (ys : List Value) (hx : a.eval x = .slice ad m c) (hown2 : w.ownsRow base2 26 1 (.slice ad m c) m ys) (hm : 0 < m) (hone : ∀ u ∈ ys, u.oneCell' = true)
    (hb : n + m ≤ 1000000) (hbase : base ≤ w.heap.size)
    (h : ∀ v' w', w'.ownsRow base 26 1 v' (n + m) (xs ++ ys) → w.grownBy w' v.ownBlock → K (a.put o.dst v') w') :
    if Region.wanted o (yielded ops a.tmps) = true then Oper.wp Try.prog o a w K Q else E := by
  rw [if_pos (by simp [Region.wanted, hgd])]
  obtain ⟨i0, hi, hz0, hz1, hz2⟩ := info_parts infoSl
  obtain ⟨g, rfl, _, _, _, _, hc, _, _⟩ := own_cells hown2 hm
  have hl := hown2.1
  exact wp_append_own w s x t ho base 26 i0 _ 1 24 ht hi hz0 hz1 hz2 rfl (by decide) v n xs hs hown ⟨g, 0, none⟩ m c ys hx hl (fun j u hj => by rw [addr_add0, Nat.zero_add]; exact hc j u hj) hone (by unfold maxLen; omega) (by omega) hbase (fun v' w' h1 h2 _ => h v' w' h1 h2)

/-! ### plans, plain -/
def plF (A : List (List Ac)) : Nat → List Int → List (List Int)
  | 0, l => [l]
  | f + 1, l => (List.range (acl A l.length).length).flatMap fun (a : Nat) => plF A f (l ++ [(a : Int)])
def plTo (A : List (List Ac)) (f : Nat) (l : List Int) (k : Nat) : List (List Int) := (List.range k).flatMap fun (a : Nat) => plF A f (l ++ [(a : Int)])
theorem plTo_succ (A : List (List Ac)) (f : Nat) (l : List Int) (k : Nat) : plTo A f l (k + 1) = plTo A f l k ++ plF A f (l ++ [(k : Int)]) := by
  unfold plTo; rw [List.range_succ, List.flatMap_append]; simp
theorem plF_allP (A : List (List Ac)) : ∀ (f : Nat) (l : List Int), l.length + f = A.length → plF A f l = (allP (A.drop l.length)).map (l ++ ·)
  | 0, l, h => by
    rw [show A.drop l.length = [] from List.drop_of_length_le (by omega)]
    simp [plF, allP]
  | f + 1, l, h => by
    have hl : l.length < A.length := by omega
    have e : A.drop l.length = acl A l.length :: A.drop (l.length + 1) := by
      rw [List.drop_eq_getElem_cons hl]; simp [acl, hl]
    rw [e]
    show (List.range (acl A l.length).length).flatMap _ = ((List.range (acl A l.length).length).flatMap _).map _
    rw [List.map_flatMap]
    congr 1
    funext a
    rw [plF_allP A f (l ++ [(a : Int)]) (by simp; omega)]
    simp [List.map_map, Function.comp_def]
theorem plF_top (A : List (List Ac)) : plF A A.length [] = allP A := by
  rw [plF_allP A A.length [] (by simp)]
  simp
theorem plF_len (A : List (List Ac)) (h3 : ∀ s, s < A.length → 1 ≤ (acl A s).length ∧ (acl A s).length ≤ 3) : ∀ (f : Nat) (l : List Int), l.length + f = A.length → 1 ≤ (plF A f l).length ∧ (plF A f l).length ≤ 3 ^ f
  | 0, l, _ => by simp [plF]
  | f + 1, l, h => by
    have hs := h3 l.length (by omega)
    have key : ∀ k, (plTo A f l k).length ≤ k * 3 ^ f ∧ k ≤ (plTo A f l k).length := by
      intro k
      induction k with
      | zero => simp [plTo]
      | succ k ih =>
        have := plF_len A h3 f (l ++ [(k : Int)]) (by simp; omega)
        rw [plTo_succ, List.length_append, Nat.succ_mul]
        omega
    have := key (acl A l.length).length
    show 1 ≤ (plTo A f l (acl A l.length).length).length ∧ (plTo A f l (acl A l.length).length).length ≤ 3 ^ (f + 1)
    have h5 : (acl A l.length).length * 3 ^ f ≤ 3 * 3 ^ f := Nat.mul_le_mul_right _ hs.2
    rw [Nat.pow_succ]
    omega
theorem plTo_le (A : List (List Ac)) (h3 : ∀ s, s < A.length → 1 ≤ (acl A s).length ∧ (acl A s).length ≤ 3) (f : Nat) (l : List Int) (h : l.length + (f + 1) = A.length) : ∀ k, (plTo A f l k).length ≤ k * 3 ^ f := by
  intro k
  induction k with
  | zero => simp [plTo]
  | succ k ih =>
    have := plF_len A h3 f (l ++ [(k : Int)]) (by simp; omega)
    rw [plTo_succ, List.length_append, Nat.succ_mul]
    omega
/-! ### plans, the walk -/
def PlTr (w : World) (lo : Nat) (v : Value) (M : List (List Int)) (E : Nat → Value) : Prop :=
  w.ownsRow lo 26 1 v M.length ((List.range M.length).map E) ∧ ∀ i, i < M.length → w.ownsRow 0 3 1 (E i) (rw_ M i).length ((rw_ M i).map (Value.int .i64))
theorem kept_type {w w' : World} {lo lo' n m size : Nat} {e : TypeId} {v x : Value} {xs ys : List Value} (hE : w.ownsRow lo' 3 1 x m ys) (hv : w.ownsRow lo e size v n xs) (hne : e ≠ 3) (hg : w.grownBy w' v.ownBlock) : w'.ownsRow lo' 3 1 x m ys := by
  refine hE.kept hg ?_
  cases hb : x.ownBlock with
  | none => exact .inl rfl
  | some b => exact .inr fun q => ne_of_type hv hE hne q.symm hb
theorem PlTr.mono {w w' : World} {lo : Nat} {v : Value} {M : List (List Int)} {E : Nat → Value} (h : PlTr w lo v M E) (hb : Below w.heap.size w w') : PlTr w' lo v M E := ⟨own_mono h.1 hb, fun i hi => own_mono (h.2 i hi) hb⟩
theorem rw_append {A B : List (List Int)} {i : Nat} : rw_ (A ++ B) i = if i < A.length then rw_ A i else rw_ B (i - A.length) := by
  unfold rw_
  rw [List.getD_eq_getElem?_getD, List.getD_eq_getElem?_getD, List.getD_eq_getElem?_getD]
  by_cases h : i < A.length
  · rw [if_pos h, List.getElem?_append_left h]
  · rw [if_neg h, List.getElem?_append_right (by omega)]
theorem range_two (E F : Nat → Value) (a b : Nat) : (List.range (a + b)).map (fun i => if i < a then E i else F (i - a)) = (List.range a).map E ++ (List.range b).map F := by
  rw [List.range_add, List.map_append, List.map_map]
  congr 1
  · exact List.map_congr_left fun i hi => by rw [if_pos (List.mem_range.1 hi)]
  · exact List.map_congr_left fun i _ => by simp only [Function.comp_def]; rw [if_neg (by omega), Nat.add_sub_cancel_left]
theorem PlTr.app {w w' : World} {lo lo2 : Nat} {v v2 v' : Value} {M N : List (List Int)} {E F : Nat → Value} (h1 : PlTr w lo v M E) (h2 : PlTr w lo2 v2 N F)
    (hown : w'.ownsRow lo 26 1 v' (M.length + N.length) ((List.range M.length).map E ++ (List.range N.length).map F)) (hg : w.grownBy w' v.ownBlock) :
    PlTr w' lo v' (M ++ N) fun i => if i < M.length then E i else F (i - M.length) := by
  refine ⟨?_, fun i hi => ?_⟩
  · rw [List.length_append, range_two]; exact hown
  · rw [rw_append]
    rw [List.length_append] at hi
    by_cases q : i < M.length
    · simp only [if_pos q]; exact kept_type (h1.2 i q) h1.1 (by decide) hg
    · simp only [if_neg q]; exact kept_type (h2.2 (i - M.length) (by omega)) h1.1 (by decide) hg
theorem PlTr.one {w : World} {lo lo' : Nat} {bv : Value} {l : List Int} (h : w.ownsRow lo' 3 1 bv l.length (l.map (Value.int .i64))) (hlo : lo ≤ w.heap.size) :
    PlTr (w.alloc (.cells #[bv] 26)) lo (.slice (some ⟨w.heap.size, 0, none⟩) 1 1) [l] fun _ => bv :=
  ⟨⟨rfl, .inr ⟨_, 1, #[bv], rfl, hlo, new_at w _, Nat.le_refl _, by unfold maxLen; omega, rfl, rfl⟩⟩, fun i hi => by
    obtain rfl : i = 0 := by simpa using hi
    exact own_base (h.alloc _) (Nat.zero_le _)⟩
theorem PlTr.hone {w : World} {lo : Nat} {v : Value} {M : List (List Int)} {E : Nat → Value} (h : PlTr w lo v M E) : ∀ u ∈ (List.range M.length).map E, u.oneCell' = true := by
  intro u hu
  obtain ⟨i, hi, rfl⟩ := List.mem_map.1 hu
  obtain ⟨a, c, e⟩ := own_form (h.2 i (List.mem_range.1 hi))
  rw [e]; rfl
def Begun (w : World) (v : Value) (l : List Int) : Prop := (v = .slice none 0 0 ∧ l = []) ∨ (0 < l.length ∧ w.ownsRow 0 3 1 v l.length (l.map (Value.int .i64)))
theorem Begun.mono {w w' : World} {v : Value} {l : List Int} (h : Begun w v l) (hb : Below w.heap.size w w') : Begun w' v l := by
  rcases h with h | ⟨h1, h2⟩
  · exact .inl h
  · exact .inr ⟨h1, own_mono h2 hb⟩
theorem Begun.own {w : World} {v : Value} {l : List Int} (h : Begun w v l) : w.ownsRow 0 3 1 v l.length (l.map (Value.int .i64)) := by
  rcases h with ⟨rfl, rfl⟩ | ⟨_, h⟩
  · exact World.ownsRow_nil _ _ _ _
  · exact h
theorem Begun.full {w : World} {a : Option Addr} {n c : Nat} {l : List Int} (h : Begun w (.slice a n c) l) : l.length = n ∧ n ≤ c ∧ c ≤ maxLen ∧ ((Value.slice a n n = .slice none 0 0 ∧ n = 0) ∨ (0 < n ∧ ∃ b off, Value.slice a n n = .slice (some ⟨b, off, none⟩) n n ∧ ∀ i, i < n → w.cell? ⟨b, off + i, none⟩ = some (.int .i64 (nth l i)))) := by
  rcases h with ⟨h, rfl⟩ | ⟨h1, h2⟩
  · injection h with h1 h2 h3
    subst h1 h2 h3
    exact ⟨rfl, Nat.le_refl _, by unfold maxLen; omega, .inl ⟨rfl, rfl⟩⟩
  · obtain ⟨a', c', e⟩ := own_form h2
    injection e with e1 e2 e3
    subst e1 e2 e3
    have hs := own_sl h2
    obtain ⟨b, off, rfl, _, hc⟩ := hs.at h1
    exact ⟨rfl, hs.cap.1, hs.cap.2, .inr ⟨h1, b, off, rfl, hc⟩⟩
def GivesPl (M : List (List Int)) (w : World) (e : Ending) (w' : World) : Prop := ∃ a m c E, e = .returned (.slice a m c) ∧ m = M.length ∧ PlTr w' w.heap.size (.slice a m c) M E ∧ Below w.heap.size w w'
set_option maxRecDepth 100000 in
set_option maxHeartbeats 4000000 in
theorem plans_go (W : Wd) (n : Nat) (hn : W.acts.length = n) (hn4 : n ≤ 4) (h3 : ∀ s, s < W.acts.length → 1 ≤ (acl W.acts s).length ∧ (acl W.acts s).length ≤ 3) (f : Nat) : ∀ (w : World) (x : Option Addr) (c : Nat) (ba : Option Addr) (bn bc : Nat) (l : List Int), A2Sl w x n c W.acts → l.length + f = n → Begun w (.slice ba bn bc) l →
    Calls Try.prog 56 #[wv W.a W.b x n c, .slice ba bn bc] w (GivesPl (plF W.acts f l) w) := by
  induction f with
  | zero =>
    intro w x c ba bn bc l hA hl hb
    have hb0 := bal (Below.refl w.heap.size w) (.cells #[.int .i64 W.a, .int .i64 W.b, .slice x n c] 25)
    have HBG := Lib.hid (hb.mono hb0)
    have HB0 := Lib.hid hb0
    have hcn := hA.2.cap
    unfold maxLen at hcn
    have hbn := hb.full.1
    have hbn2 : bn = n := by omega
    have HLN := Lib.hid hbn
    have HR := Lib.hid (show PlTr ((w.alloc (.cells #[.int .i64 W.a, .int .i64 W.b, .slice x n c] 25)).alloc (.cells #[.slice ba bn bc] 26)) w.heap.size (.slice (some ⟨w.heap.size + 1, 0, none⟩) 1 1) [l] (fun _ => .slice ba bn bc) by
      have h := PlTr.one (lo := w.heap.size) HBG.out.own hb0.size
      rw [show (w.alloc (.cells #[.int .i64 W.a, .int .i64 W.b, .slice x n c] 25)).heap.size = w.heap.size + 1 by simp] at h
      exact h)
    subst hbn2
    clear hA hb hb0 hbn hl
    go_enter Try.func56, Try.ntmps56
    go_wp2
    go_ret
    exact ⟨_, _, _, _, rfl, rfl, HR.out, bal HB0.out _⟩
  | succ f ih =>
    intro w x c ba bn bc l hA hl hb
    have hb0 := bal (Below.refl w.heap.size w) (.cells #[.int .i64 W.a, .int .i64 W.b, .slice x n c] 25)
    have HI := Lib.hid ih
    have HZ := Lib.hid (boxR_new w W.a W.b x n c)
    have HA := Lib.hid (hA.mono hb0)
    have HBG := Lib.hid (hb.mono hb0)
    have HB0 := Lib.hid hb0
    have hcn := hA.2.cap
    unfold maxLen at hcn
    obtain ⟨hbn, hbc, hbm, _⟩ := hb.full
    unfold maxLen at hbm
    subst hbn
    have hln : l.length < n := by omega
    have t1 : ((l.length : Int) == (n : Int)) = false := by simp; omega
    have h3s := h3 l.length (by omega)
    have HFL := Lib.hid (fun k => plF_len W.acts h3 f (l ++ [(k : Int)]))
    have HTL := Lib.hid (plTo_le W.acts h3 f l (by omega))
    have h3f : 3 ^ f ≤ 27 := Nat.le_trans (Nat.pow_le_pow_right (by omega) (show f ≤ 3 by omega)) (by decide)
    have HN := Lib.hid hn
    have HL := Lib.hid hl
    clear hA hb hb0 ih hn hl h3
    obtain ⟨b1, o1, rfl, hb1, hc1⟩ := HA.out.at (by omega)
    obtain ⟨a2, m2, q2, e2, h2⟩ := hc1 l.length hln
    have hl2 := h2.1
    have hm2 := h2.2.cap
    unfold maxLen at hm2
    rw [hl2] at h3s
    clear hc1 h2
    go_enter Try.func56, Try.ntmps56
    go_wp2
    generalize w.alloc (.cells #[.int .i64 W.a, .int .i64 W.b, .slice (some ⟨b1, o1, none⟩) n c] 25) = V0 at *
    go_loopw [6, 23] (fun v t wr => ∃ k : Nat, k ≤ m2 ∧ t = .int .i64 k ∧ Hid (∃ E, PlTr wr V0.heap.size v (plTo W.acts f l k) E) ∧ Hid (Below V0.heap.size V0 wr)) (fun _ t _ => m2 - (intOf t).toNat)
    case atStart => exact ⟨0, by omega, rfl, Lib.hid ⟨fun _ => .slice none 0 0, World.ownsRow_nil _ _ _ _, fun i hi => absurd hi (by simp [plTo])⟩, Lib.hid (Below.refl _ _)⟩
    case round =>
      obtain ⟨k, hk, rfl, HQ, HB⟩ := hrel
      by_cases hlk : k < m2
      · obtain ⟨E, hT⟩ := HQ.out
        have HT := Lib.hid hT
        have hown := hT.1
        obtain ⟨va, vc, rfl⟩ := own_form hown
        obtain ⟨z0, z1, z2, z3⟩ := (HZ.out.mono HB.out).cells
        have z0' : w.heap.size < wr.drew.heap.size := z0
        have z1' : wr.drew.cell? ⟨w.heap.size, 0, none⟩ = some (.int .i64 W.a) := z1
        have z2' : wr.drew.cell? ⟨w.heap.size, 1, none⟩ = some (.int .i64 W.b) := z2
        have z3' : wr.drew.cell? ⟨w.heap.size, 2, none⟩ = some (.slice (some ⟨b1, o1, none⟩) n c) := z3
        have hbb : Below wr.heap.size wr (wr.alloc (.cells #[.int .i64 (k : Int)] 3)).drew := (bal (Below.refl _ _) _).drew
        have HBB := Lib.hid hbb
        have HFB := Lib.hid (HBG.out.mono (btr HB.out hbb)).full
        have hwz := HB.out.size
        have hfl := HFL.out k (by simp; have := HL.out; have := HN.out; omega)
        have htl := HTL.out k
        have htl2 : k * 3 ^ f ≤ 3 * 27 := Nat.mul_le_mul (by omega) h3f
        have HTS := Lib.hid (plTo_succ W.acts f l k)
        have hlz : (0 : Int) ≤ (l.length : Int) := by omega
        have hlc : (l.length : Int) ≤ (bc : Int) := by omega
        have hl8 : l.length ≤ 8 := by omega
        obtain ⟨x0, x1, x2, x3⟩ := (HZ.out.mono (btr HB.out hbb)).cells
        clear hT hbb
        generalize hMl : (plTo W.acts f l k).length = ml at *
        have HML := Lib.hid hMl
        clear hMl
        go_wp2
        go_region_law (first
          | (refine step_appF rfl _ _ rfl (.slice ba l.length l.length) l.length l rfl rfl hl8 HFB.out.2.2.2 wr.heap.size k rfl (new_at wr _) ?_; intro v1 w1' h1 hb1; obtain ⟨a1, c1, rfl⟩ := own_form h1; have HB1 := Lib.hid (btr HBB.out hb1); obtain ⟨y0, y1, y2, y3⟩ := (HZ.out.mono (btr HB.out HB1.out)).cells; have HG1 := Lib.hid (show Begun w1' (.slice a1 (l.length + 1) c1) (l ++ [(k : Int)]) from .inr ⟨by simp, by rw [List.length_append]; exact own_base h1 (Nat.zero_le _)⟩))
          | (go_simp; go_at_call 56; refine (HI.out _ _ _ _ _ _ _ (HA.out.mono (btr HB.out HB1.out)) (by simp; have := HL.out; omega) HG1.out).mono ?_; rintro e w2' ⟨ra, rm, rc, F, rfl, hrm, hP, hb2⟩; subst hrm; have HB2 := Lib.hid (btr HB1.out hb2); have hz2 := HB2.out.size; have HP2 := Lib.hid hP; have hPo := hP.1)
          | (refine step_appR rfl _ _ 90 rfl Try.underlying90 V0.heap.size (.slice va ml vc) ml _ rfl (own_mono hown HB2.out) _ ra _ rc _ rfl hPo (by omega) HP2.out.hone (by omega) (by omega) ?_; intro v3 w3' h3' g3))
        all_goals have HN2 := Lib.hid (show ∃ E, PlTr w3' V0.heap.size v3 (plTo W.acts f l (k + 1)) E from ⟨_, by rw [HTS.out]; exact PlTr.app (HT.out.mono HB2.out) HP2.out (by rw [HML.out]; exact h3') g3⟩)
        all_goals have HBN := Lib.hid ((btr HB.out HB2.out).grown g3 (by omega) (fun j hj => (hown.lt j hj).1))
        all_goals clear h3' g3 hown
        all_goals go_wp2
        all_goals go_roundw
        all_goals first
          | (case rel => go_light; exact ⟨k + 1, by omega, by go_num, HN2, HBN⟩)
          | skip
        all_goals (simp [intOf]; omega)
      · obtain rfl : k = m2 := by omega
        obtain ⟨E, hT⟩ := HQ.out
        obtain ⟨va, vc, e9⟩ := own_form hT.1
        subst e9
        have HR := Lib.hid (show PlTr wr V0.heap.size _ (plF W.acts (f + 1) l) E by
          show PlTr wr V0.heap.size _ (plTo W.acts f l (acl W.acts l.length).length) E
          rw [hl2]; exact hT)
        have HRL := Lib.hid (show (plTo W.acts f l k).length = (plF W.acts (f + 1) l).length by
          show _ = (plTo W.acts f l (acl W.acts l.length).length).length
          rw [hl2])
        have hz0 := HB0.out.size
        clear hT
        go_wp2
        go_ret
        exact ⟨_, _, _, E, rfl, HRL.out, ⟨own_base HR.out.1 hz0, HR.out.2⟩, btr HB0.out HB.out⟩
end Go.Proofs.Ytcmakddnjmeklaa
