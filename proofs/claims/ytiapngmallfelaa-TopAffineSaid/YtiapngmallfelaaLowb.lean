
/- Walks: near, all, valid, Graph, Clone, Equal, list. -/
import Derived.Test.YtiapngmallfelaaLow
import Derived.Laws.AppendOwnNone
import Derived.Lib.SliceRun
import Derived.Deep.RegionLaw
namespace Go.Proofs.Ytiapngmallfelaa
open Go.RowKit

theorem infoInt : (Try.prog.info? 3).map (fun i => (i.zero, i.size, i.bytes)) = some (some (.int .i64 0), 1, 8) := by kernel_rfl

/-- append(out, src...) where out is the call's own. -/
theorem wp_app {o : Oper} {a : Act} {K : Act → World → Prop} {Q : Exit → Act → World → Prop} {w : World} (s x : Operand) (t : TypeId)
    (ho : o.op = .call { callee := .builtin .append, args := #[s, x], argTypes := #[t, t] }) (ht : Try.prog.underlying t = some (.slice 3))
    (base : Nat) (v : Value) (n : Nat) (L : List Int) (hs : a.eval s = v) (hown : w.ownsRow base 3 1 v n (L.map (Value.int .i64)))
    (ad : Option Addr) (m c : Nat) (M : List Int) (hx : a.eval x = .slice ad m c) (hM : Sl w ad m c M) (hb : n + m ≤ 1000000000000) (hbase : base ≤ w.heap.size)
    (h : ∀ v' w', w'.ownsRow base 3 1 v' (n + m) ((L ++ M).map (Value.int .i64)) → w.grownBy w' v.ownBlock → K (a.put o.dst v') w') : o.wp Try.prog a w K Q := by
  obtain ⟨i0, hi, hz0, hz1, hz2⟩ := info_parts infoInt
  rcases hM.parts3 with ⟨rfl, rfl, rfl, rfl⟩ | ⟨x0, rfl, rfl, rfl, rfl⟩ | ⟨b, off, rfl, hlt, hc⟩
  · have hrun := run_append_owned_none (P := Try.prog) (w := w) base t o.type 3 i0 1 ht hi v n _ hown
    unfold Oper.wp
    simp [execOp, ho, resolve, invoke, builtin, hs, hx, hrun, Result.andThen]
    exact h v w (by simpa using hown) ⟨rfl, rfl, rfl, Nat.le_refl _, fun _ _ _ => rfl⟩
  · refine wp_append_own w s x t ho base 3 i0 (.int .i64 0) 1 8 ht hi hz0 hz1 hz2 rfl (by decide) v n _ hs hown x0 0 0 [] hx rfl (fun j u hj => by cases hj) (fun u hu => by cases hu) (by unfold maxLen; omega) (by omega) hbase
      (fun v' w' h1 h2 _ => h v' w' (by simpa using h1) h2)
  · have hl := hM.len
    refine wp_append_own w s x t ho base 3 i0 (.int .i64 0) 1 8 ht hi hz0 hz1 hz2 rfl (by decide) v n _ hs hown ⟨b, off, none⟩ m c (M.map (Value.int .i64)) hx (by simpa using hl) ?_ ?_ (by unfold maxLen; omega) (by omega) hbase
      (fun v' w' h1 h2 _ => h v' w' (by simpa using h1) h2)
    · intro j u hj
      rw [List.getElem?_map] at hj
      rcases Nat.lt_or_ge j M.length with hjl | hjl
      · rw [List.getElem?_eq_getElem hjl] at hj
        simp at hj; subst hj
        have := hc j (by omega)
        rw [nth_of_lt hjl] at this
        have hadd : (⟨b, off, none⟩ : Addr).add j = ⟨b, off + j, none⟩ := by unfold Addr.add; split <;> simp_all
        rw [hadd]; exact this
      · rw [List.getElem?_eq_none hjl] at hj; simp at hj
    · intro u hu
      rw [List.mem_map] at hu
      obtain ⟨z, _, rfl⟩ := hu; rfl
theorem wpList_app {ops : Array Oper} {rest : List Oper} {o : Oper} {a : Act} {Q : Exit → Act → World → Prop} {w : World} (hgd : o.guard = none) (s x : Operand) (t : TypeId)
    (ho : o.op = .call { callee := .builtin .append, args := #[s, x], argTypes := #[t, t] }) (ht : Try.prog.underlying t = some (.slice 3))
    (base : Nat) (v : Value) (n : Nat) (L : List Int) (hs : a.eval s = v) (hown : w.ownsRow base 3 1 v n (L.map (Value.int .i64)))
    (ad : Option Addr) (m c : Nat) (M : List Int) (hx : a.eval x = .slice ad m c) (hM : Sl w ad m c M) (hb : n + m ≤ 1000000000000) (hbase : base ≤ w.heap.size)
    (h : ∀ v' w', w'.ownsRow base 3 1 v' (n + m) ((L ++ M).map (Value.int .i64)) → w.grownBy w' v.ownBlock → wpList Try.prog ops Q rest (a.put o.dst v') w') : wpList Try.prog ops Q (o :: rest) a w :=
  wpList_plain hgd fun _ hK => wp_app s x t ho ht base v n L hs hown ad m c M hx hM hb hbase fun v' w' h2 h3 => hK _ _ (h v' w' h2 h3)
/-- The same as one step of a region that draws its order. -/
theorem step_app {ops : Array Oper} {o : Oper} {a : Act} {K : Act → World → Prop} {Q : Exit → Act → World → Prop} {E : Prop} {w : World} (hgd : o.guard = none) (s x : Operand) (t : TypeId)
    (ho : o.op = .call { callee := .builtin .append, args := #[s, x], argTypes := #[t, t] }) (ht : Try.prog.underlying t = some (.slice 3))
    (base : Nat) (v : Value) (n : Nat) (L : List Int) (hs : a.eval s = v) (hown : w.ownsRow base 3 1 v n (L.map (Value.int .i64)))
    (ad : Option Addr) (m c : Nat) (M : List Int) (hx : a.eval x = .slice ad m c) (hM : Sl w ad m c M) (hb : n + m ≤ 1000000000000) (hbase : base ≤ w.heap.size)
    (h : ∀ v' w', w'.ownsRow base 3 1 v' (n + m) ((L ++ M).map (Value.int .i64)) → w.grownBy w' v.ownBlock → K (a.put o.dst v') w') :
    if Region.wanted o (yielded ops a.tmps) = true then Oper.wp Try.prog o a w K Q else E := by
  rw [if_pos (by simp [Region.wanted, hgd])]
  exact wp_app s x t ho ht base v n L hs hown ad m c M hx hM hb hbase h

theorem own_form {w : World} {base e size n : Nat} {v : Value} {xs : List Value} (h : w.ownsRow base e size v n xs) : ∃ a cap, v = .slice a n cap := by
  rcases h.2 with ⟨rfl, rfl⟩ | ⟨g, cap, cur, rfl, _⟩
  · exact ⟨none, 0, rfl⟩
  · exact ⟨_, cap, rfl⟩
theorem own_gives {w w1 : World} {v : Value} {n : Nat} {L : List Int} (h : w1.ownsRow w.heap.size 3 1 v n (L.map (Value.int .i64))) (hb : Below w.heap.size w w1) : GivesSl w L (.returned v) w1 := by
  obtain ⟨a, cap, rfl⟩ := own_form h
  exact ⟨a, n, cap, rfl, h, hb⟩

/-- The block that holds the one element to be appended. -/
theorem sl_one (w : World) (x : Int) : Sl (w.alloc (.cells #[.int .i64 x] 3)) (some ⟨w.heap.size, 0, none⟩) 1 1 [x] := by
  refine ⟨rfl, Nat.le_refl _, by unfold maxLen; omega, .inr (.inr ⟨_, _, rfl, by simp, fun i hi => ?_⟩)⟩
  obtain rfl : i = 0 := by omega
  simp [nth]

/-! ### slices that hold sets -/
def ints (G : List Nat) : List Int := G.map (fun x : Nat => (x : Int))
def gn (G : List Nat) (i : Nat) : Nat := G.getD i 0
theorem nth_ints (G : List Nat) (i : Nat) : nth (ints G) i = (gn G i : Int) := by
  simp only [nth, ints, gn, List.getD_eq_getElem?_getD, List.getElem?_map]
  cases G[i]? <;> rfl
theorem ints_length (G : List Nat) : (ints G).length = G.length := by simp [ints]
theorem gn_lt {G : List Nat} {N : Nat} (h : ∀ x ∈ G, x < N) (h0 : 0 < N) (i : Nat) : gn G i < N := by
  rw [gn, List.getD_eq_getElem?_getD]
  cases e : G[i]? with
  | none => exact h0
  | some x => exact h x (List.mem_of_getElem? e)

theorem Sl.icells {w : World} {b off n cap : Nat} {G : List Nat} (h : Sl w (some ⟨b, off, none⟩) n cap (ints G)) (hn : 1 ≤ n) :
   b < w.heap.size ∧ ∀ i, i < n → w.cell? ⟨b, off + i, none⟩ = some (.int .i64 (gn G i)) := by
  obtain ⟨h1, h2⟩ := h.cells hn
  exact ⟨h1, fun i hi => by rw [h2 i hi, nth_ints]⟩

theorem near_go (w : World) (a : Option Addr) (n cap : Nat) (G : List Nat) (hs : Sl w a n cap (ints G)) (hG : ∀ x ∈ G, x < 65536) (i j : Nat) (hi : i < n) (hj : j < 64) :
    Calls Try.prog 64 #[.slice a n cap, .int .i64 i, .int .i64 j] w fun e w' => e = .returned (.bool ((gn G i).testBit j)) ∧ w = w' := by
  rcases hs.parts with ⟨_, rfl, _⟩ | ⟨b, off, rfl, hs2⟩
  · omega
  obtain ⟨hb, hc⟩ := hs2.icells (by omega)
  have hci := hc i hi
  have hlt := gn_lt hG (by omega) i
  have hbit := bits_bt (gn G i) j (by omega)
  have hone : ((bt (gn G i) j : Int) == 1) = (gn G i).testBit j := by rw [bt_test]; cases (gn G i).testBit j <;> rfl
  clear hc hs hG
  go_enter Try.func64, Try.ntmps64
  go_wp2
  go_ret
  exact ⟨rfl, rfl⟩

theorem all_go (w : World) (a : Option Addr) (n cap : Nat) (hn : n ≤ 16) :
    Calls Try.prog 38 #[.slice a n cap] w fun e w' => e = .returned (.int .i64 ((2 ^ n - 1 : Nat) : Int)) ∧ w = w' := by
  have hw := wrap_pow hn
  have hp := pow_small hn
  have he : (2 : Int) ^ n - 1 = ((2 ^ n - 1 : Nat) : Int) := by rw [Int.natCast_sub (Nat.one_le_two_pow)]; simp
  go_enter Try.func38, Try.ntmps38
  go_wp2
  go_ret
  exact ⟨rfl, rfl⟩

/-! ### which slices are graphs -/
def RowP (l : List Int) (i : Nat) : Prop :=
  0 ≤ nth l i ∧ nth l i < 2^l.length ∧ bitv (nth l i) i ≠ 1 ∧ ∀ j, j < l.length → bitv (nth l i) j = bitv (nth l j) i
instance (l : List Int) (i : Nat) : Decidable (RowP l i) := by unfold RowP; infer_instance
def VldP (l : List Int) : Prop := 1 ≤ l.length ∧ l.length ≤ 16 ∧ ∀ i, i < l.length → RowP l i
instance (l : List Int) : Decidable (VldP l) := by unfold VldP; infer_instance
theorem notV {l : List Int} {k : Nat} (h : k < l.length) (g : ¬ RowP l k) : ¬ VldP l := fun v => g (v.2.2 k h)

set_option maxHeartbeats 800000 in
theorem valid_go (w : World) (a : Option Addr) (n cap : Nat) (l : List Int) (hs : Sl w a n cap l) :
    Calls Try.prog 34 #[.slice a n cap] w fun e w' => e = .returned (.bool (decide (VldP l))) ∧ ∃ m, w' = w.drewN m := by
  have HL : Hid (l.length = n) := hs.len
  by_cases h1 : n < 1
  · go_enter Try.func34, Try.ntmps34
    go_wp2
    go_ret
    exact ⟨ret_false (fun v => by have := v.1; have := HL.out; omega), 0, rfl⟩
  by_cases h2 : 16 < n
  · go_enter Try.func34, Try.ntmps34
    go_wp2
    go_ret
    exact ⟨ret_false (fun v => by have := v.2.1; have := HL.out; omega), 0, rfl⟩
  rcases hs.parts with ⟨_, rfl, _⟩ | ⟨b, off, rfl, hs2⟩
  · omega
  obtain ⟨hb, hc⟩ := hs2.cells (by omega)
  have hbit : ∀ x j, bits .and .i64 (x / 2 ^ j) 1 = bitv x j := fun _ _ => rfl
  have hw := wrap_pow (show n ≤ 16 by omega)
  clear hs
  go_enter Try.func34, Try.ntmps34
  go_wp2
  go_loopw [17] (fun i wr => ∃ k : Nat, k ≤ n ∧ i = .int .i64 k ∧ Hid (∃ m, wr = w.drewN m) ∧ Hid (∀ i, i < k → RowP l i)) (fun i _ => n - (intOf i).toNat)
  case atStart => exact ⟨0, by omega, rfl, ⟨0, rfl⟩, fun i hi => by omega⟩
  case round =>
    obtain ⟨k, hk, rfl, HW, HR⟩ := hrel
    by_cases hlt : k < n
    · have hck : wr.cell? ⟨b, off + k, none⟩ = some (.int .i64 (nth l k)) := by obtain ⟨m, rfl⟩ := HW.out; exact hc k hlt
      by_cases q1 : nth l k < 0
      · go_wp2
        go_ret
        exact ⟨ret_false (notV (by rw [HL.out]; exact hlt) (fun r => by have := r.1; omega)), HW.out⟩
      by_cases q2 : 2^n ≤ nth l k
      · go_wp2
        go_ret
        exact ⟨ret_false (notV (by rw [HL.out]; exact hlt) (fun r => by have := r.2.1; rw [HL.out] at this; omega)), HW.out⟩
      by_cases q3 : bitv (nth l k) k = 1
      · go_wp2
        go_ret
        exact ⟨ret_false (notV (by rw [HL.out]; exact hlt) (fun r => r.2.2.1 q3)), HW.out⟩
      go_wp2
      obtain ⟨w1, rfl⟩ : ∃ w1 : World, w1 = wr := ⟨_, rfl⟩
      go_loopw [38] (fun i wr => ∃ j : Nat, j ≤ n ∧ i = .int .i64 j ∧ Hid (∃ m, wr = w.drewN m) ∧ Hid (∀ i, i < j → bitv (nth l k) i = bitv (nth l i) k)) (fun i _ => n - (intOf i).toNat)
      case atStart => exact ⟨0, by omega, rfl, HW, fun i hi => by omega⟩
      case round =>
        obtain ⟨j, hj, rfl, HW2, HJ⟩ := hrel
        by_cases hlj : j < n
        · have hck : wr.cell? ⟨b, off + j, none⟩ = some (.int .i64 (nth l j)) := by obtain ⟨m, rfl⟩ := HW2.out; exact hc j hlj
          go_wp2
          go_quiet (fail)
          by_cases q4 : bitv (nth l k) j = bitv (nth l j) k
          · go_wp2
            go_roundw
            case rel =>
              refine ⟨j + 1, by omega, by go_num, ?_, fun i hi => ?_⟩
              · obtain ⟨m, rfl⟩ := HW2.out; exact ⟨m + nq, by rw [World.drewN_drewN]⟩
              · rcases Nat.lt_or_ge i j with h | h
                · exact HJ.out i h
                · obtain rfl : i = j := by omega
                  exact q4
            case measure => simp [intOf]; omega
          · go_wp2
            go_ret
            refine ⟨ret_false (notV (by rw [HL.out]; exact hlt) (fun r => q4 (r.2.2.2 j (by rw [HL.out]; exact hlj)))), ?_⟩
            obtain ⟨m, rfl⟩ := HW2.out; exact ⟨m + nq, by rw [World.drewN_drewN]⟩
        · go_wp2
          go_roundw
          case rel =>
            refine ⟨k + 1, by omega, by go_num, HW2, fun i hi => ?_⟩
            rcases Nat.lt_or_ge i k with h | h
            · exact HR.out i h
            · obtain rfl : i = k := by omega
              exact ⟨by omega, by rw [HL.out]; omega, q3, fun i hi => HJ.out i (by have := HL.out; omega)⟩
          case measure => simp [intOf]; omega
    · go_wp2
      go_ret
      exact ⟨ret_true ⟨by rw [HL.out]; omega, by rw [HL.out]; omega, fun i hi => HR.out i (by have := HL.out; omega)⟩, HW.out⟩

/-! ### package slices -/
set_option maxHeartbeats 400000 in
theorem equal_go (w : World) (a c : Option Addr) (n p m q : Nat) (l k : List Int) (hs : Sl w a n p l) (ht : Sl w c m q k) :
    Calls Try.prog 29 #[.slice a n p, .slice c m q] w fun e w' => e = .returned (.bool (decide (l = k))) ∧ ∃ m, w' = w.drewN m := by
  have hl := hs.len
  have hk := ht.len
  by_cases hnm : n = m
  · subst hnm
    have HL : Hid (l.length = n) := hl
    have HK : Hid (k.length = n) := hk
    have hmax : n ≤ 9223372036854775807 := by have := hs.2.1; have := hs.2.2.1; unfold maxLen at this; omega
    clear hl hk
    by_cases h0 : n = 0
    · subst h0
      go_enter Try.func29, Try.ntmps29
      go_wp2
      go_loop [13] (fun i => i = .int .i64 0) (fun _ => 0)
      case atStart => rfl
      case round =>
        subst hrel
        go_wp2
        go_ret
        exact ⟨ret_true (by rw [List.eq_nil_of_length_eq_zero HL.out, List.eq_nil_of_length_eq_zero HK.out]), 0, rfl⟩
    rcases hs.parts with ⟨_, rfl, _⟩ | ⟨b, off, rfl, hs2⟩
    · omega
    rcases ht.parts with ⟨_, h, _⟩ | ⟨b2, off2, rfl, ht2⟩
    · omega
    obtain ⟨hb, hc⟩ := hs2.cells (by omega)
    obtain ⟨hb2, hc2⟩ := ht2.cells (by omega)
    clear hs ht hs2 ht2
    go_enter Try.func29, Try.ntmps29
    go_wp2
    go_loopw [13] (fun i wr => ∃ j : Nat, j ≤ n ∧ i = .int .i64 j ∧ Hid (∃ m, wr = w.drewN m) ∧ Hid (∀ i, i < j → nth l i = nth k i)) (fun i _ => n - (intOf i).toNat)
    case atStart => exact ⟨0, by omega, rfl, ⟨0, rfl⟩, fun i hi => by omega⟩
    case round =>
      obtain ⟨j, hj, rfl, HW, HR⟩ := hrel
      by_cases hlt : j < n
      · have hck : wr.cell? ⟨b, off + j, none⟩ = some (.int .i64 (nth l j)) := by obtain ⟨m, rfl⟩ := HW.out; exact hc j hlt
        have hck2 : wr.cell? ⟨b2, off2 + j, none⟩ = some (.int .i64 (nth k j)) := by obtain ⟨m, rfl⟩ := HW.out; exact hc2 j hlt
        go_wp2
        go_quiet (fail)
        by_cases q : nth l j = nth k j
        · go_wp2
          go_roundw
          case rel =>
            refine ⟨j + 1, by omega, by go_num, ?_, fun i hi => ?_⟩
            · obtain ⟨m, rfl⟩ := HW.out; exact ⟨m + nq, by rw [World.drewN_drewN]⟩
            · rcases Nat.lt_or_ge i j with h | h
              · exact HR.out i h
              · obtain rfl : i = j := by omega
                exact q
          case measure => simp [intOf]; omega
        · go_wp2
          go_ret
          refine ⟨ret_false (fun e => q (by rw [e])), ?_⟩
          obtain ⟨m, rfl⟩ := HW.out; exact ⟨m + nq, by rw [World.drewN_drewN]⟩
      · go_wp2
        go_ret
        refine ⟨ret_true ?_, HW.out⟩
        have h1 := HL.out
        have h2 := HK.out
        exact List.ext_getElem (by omega) fun i hi hi2 => by
          have := HR.out i (by omega)
          rw [nth_of_lt hi, nth_of_lt hi2] at this; exact this
  · have hne : ((n : Int) != (m : Int)) = true := by rw [bne_iff_ne]; omega
    go_enter Try.func29, Try.ntmps29
    go_wp2
    go_ret
    exact ⟨ret_false (fun e => hnm (by rw [← hl, ← hk, e])), 0, rfl⟩

set_option maxHeartbeats 400000 in
theorem clone_go (w : World) (a : Option Addr) (n p : Nat) (l : List Int) (hs : Sl w a n p l) (hn : n ≤ 100000000000) :
    Calls Try.prog 23 #[.slice a n p] w fun e w' => GivesSl w l e w' := by
  have qT : ∀ (w : World) (a : Option Addr) (n c n' c' : Nat), (binOp .eql 22 (.slice a n c) (.slice none n' c')).run Try.prog w = .ok (.bool a.isNone) w := fun w a n c n' c' => Lib.run_eql_slice_nil w _ _ a n c n' c' Try.underlying22
  cases a with
  | none =>
    obtain ⟨rfl, rfl, rfl⟩ : n = 0 ∧ p = 0 ∧ l = [] := by
      rcases hs.parts3 with ⟨_, h1, h2, h3⟩ | ⟨x, h, _⟩ | ⟨b, off, h, _⟩
      · exact ⟨h1, h2, h3⟩
      · cases h
      · cases h
    go_enter Try.func23, Try.ntmps23
    go_wp2
    go_ret
    exact ⟨none, 0, 0, rfl, World.ownsRow_nil _ _ _ _, Below.refl _ _⟩
  | some x =>
    go_enter Try.func23, Try.ntmps23
    go_wp2_with (at_builtin; refine wpList_app rfl _ _ 22 rfl Try.underlying22 w.heap.size _ 0 [] rfl (World.ownsRow_made w #[] 0 (Nat.le_refl _) (by decide) rfl) _ n p l rfl (hs.mono ((Below.refl _ _).alloc (Nat.le_refl _) _)) (by omega) (by simp) ?_; intro v' w1 hown hgrow)
    go_ret
    exact own_gives (by simpa using hown) (((Below.refl _ _).alloc (Nat.le_refl _) _).grown hgrow (by simp) (fun k hk => Nat.le_of_eq (Option.some.inj hk)))

theorem Sl.take {w : World} {a : Option Addr} {n cap : Nat} {l : List Int} (h : Sl w a n cap l) (m : Nat) (hm : m ≤ n) : Sl w a m cap (l.take m) := by
  obtain ⟨h1, h2, h3, ⟨rfl, rfl, rfl⟩ | ⟨rfl, rfl, x, rfl⟩ | ⟨b, off, rfl, hlt, hc⟩⟩ := h
  · exact ⟨by simp; omega, by omega, h3, .inl ⟨rfl, by omega, rfl⟩⟩
  · exact ⟨by simp; omega, by omega, h3, .inr (.inl ⟨by omega, rfl, x, rfl⟩)⟩
  · refine ⟨by simp; omega, by omega, h3, .inr (.inr ⟨b, off, rfl, hlt, fun i hi => ?_⟩)⟩
    rw [hc i (by omega)]
    simp [nth, List.getD_eq_getElem?_getD, hi]

end Go.Proofs.Ytiapngmallfelaa
