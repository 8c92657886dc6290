/- Chapter 9, walks: clone, gcd, frac, fracs. -/
import Derived.Test.YtcmakddnjmeklaaZn
import Derived.Maps.AppendAt
namespace Go.Proofs.Ytcmakddnjmeklaa
open Go.RowKit

/-! ### append of one element, and where the row lies then -/
theorem wp_app2 {o : Oper} {a : Act} {K : Act → World → Prop} {Q : Exit → Act → World → Prop} {w : World} (s x : Operand) (t : TypeId)
    (ho : o.op = .call { callee := .builtin .append, args := #[s, x], argTypes := #[t, t] }) {e size bytes : Nat} {z : Value} (ht : Try.prog.underlying t = some (.slice e))
    (hinfo : (Try.prog.info? e).map (fun i => (i.zero, i.size, i.bytes)) = some (some z, size, bytes)) (hzs : z.cells.size = size) (hsz : 0 < size)
    (base : Nat) (v : Value) (n : Nat) (xs : List Value) (hs : a.eval s = v) (hown : w.ownsRow base e size v n xs)
    (p : Nat) (cs : Array Value) (hx : a.eval x = .slice (some ⟨p, 0, none⟩) 1 1) (hp : w.heap[p]? = some (.cells cs e (0, 0))) (hcs : cs.size = size) (hone : ∀ u ∈ cs.toList, u.oneCell' = true)
    (hb : (n + 1) * bytes ≤ 1000000000000) (hn : n ≤ 1000000000000) (hbase : base ≤ w.heap.size)
    (h : ∀ v' w', w'.ownsRow base e size v' (n + 1) (xs ++ cs.toList) → w.grownBy w' v.ownBlock → (v'.ownBlock = v.ownBlock ∨ v'.ownBlock = some w.heap.size) → K (a.put o.dst v') w') : o.wp Try.prog a w K Q := by
  obtain ⟨i0, hi, hz0, hz1, hz2⟩ := info_parts hinfo
  have hnews : ∀ j u, cs.toList[j]? = some u → w.cell? ((⟨p, 0, none⟩ : Addr).add j) = some u := by
    intro j u hj
    rw [show (⟨p, 0, none⟩ : Addr).add j = ⟨p, j, none⟩ by unfold Addr.add; split <;> simp_all, cells_at hp]
    simpa using hj
  obtain ⟨v', w', hr, h2, h3, _, h5⟩ := run_append_own_at (P := Try.prog) w base t o.type e i0 z size bytes ht hi hz0 hz1 hz2 hzs hsz v n xs hown ⟨p, 0, none⟩ 1 1 cs.toList (by simp; omega) hnews hone (by unfold maxLen; omega) (by omega) hbase
  unfold Oper.wp execOp
  simp only [ho, resolve, invoke, builtin, Sem.run_bind, Sem.run_pure, Result.andThen_ok, List.map_toArray, List.map_cons, List.map_nil, hs, hx, hr]
  exact h v' w' h2 h3 h5
theorem wpList_app2 {ops : Array Oper} {rest : List Oper} {o : Oper} {a : Act} {Q : Exit → Act → World → Prop} {w : World} (hgd : o.guard = none) (s x : Operand) (t : TypeId)
    (ho : o.op = .call { callee := .builtin .append, args := #[s, x], argTypes := #[t, t] }) {e size bytes : Nat} {z : Value} (ht : Try.prog.underlying t = some (.slice e))
    (hinfo : (Try.prog.info? e).map (fun i => (i.zero, i.size, i.bytes)) = some (some z, size, bytes)) (hzs : z.cells.size = size) (hsz : 0 < size)
    (base : Nat) (v : Value) (n : Nat) (xs : List Value) (hs : a.eval s = v) (hown : w.ownsRow base e size v n xs)
    (p : Nat) (cs : Array Value) (hx : a.eval x = .slice (some ⟨p, 0, none⟩) 1 1) (hp : w.heap[p]? = some (.cells cs e (0, 0))) (hcs : cs.size = size) (hone : ∀ u ∈ cs.toList, u.oneCell' = true)
    (hb : (n + 1) * bytes ≤ 1000000000000) (hn : n ≤ 1000000000000) (hbase : base ≤ w.heap.size)
    (h : ∀ v' w', w'.ownsRow base e size v' (n + 1) (xs ++ cs.toList) → w.grownBy w' v.ownBlock → (v'.ownBlock = v.ownBlock ∨ v'.ownBlock = some w.heap.size) → wpList Try.prog ops Q rest (a.put o.dst v') w') : wpList Try.prog ops Q (o :: rest) a w :=
  wpList_plain hgd fun _ hK => wp_app2 s x t ho ht hinfo hzs hsz base v n xs hs hown p cs hx hp hcs hone hb hn hbase fun v' w' h2 h3 h4 => hK _ _ (h v' w' h2 h3 h4)
theorem step_app2 {ops : Array Oper} {o : Oper} {a : Act} {K : Act → World → Prop} {Q : Exit → Act → World → Prop} {E : Prop} {w : World} (hgd : o.guard = none) (s x : Operand) (t : TypeId)
    (ho : o.op = .call { callee := .builtin .append, args := #[s, x], argTypes := #[t, t] }) {e size bytes : Nat} {z : Value} (ht : Try.prog.underlying t = some (.slice e))
    (hinfo : (Try.prog.info? e).map (fun i => (i.zero, i.size, i.bytes)) = some (some z, size, bytes)) (hzs : z.cells.size = size) (hsz : 0 < size)
    (base : Nat) (v : Value) (n : Nat) (xs : List Value) (hs : a.eval s = v) (hown : w.ownsRow base e size v n xs)
    (p : Nat) (cs : Array Value) (hx : a.eval x = .slice (some ⟨p, 0, none⟩) 1 1) (hp : w.heap[p]? = some (.cells cs e (0, 0))) (hcs : cs.size = size) (hone : ∀ u ∈ cs.toList, u.oneCell' = true)
    (hb : (n + 1) * bytes ≤ 1000000000000) (hn : n ≤ 1000000000000) (hbase : base ≤ w.heap.size)
    (h : ∀ v' w', w'.ownsRow base e size v' (n + 1) (xs ++ cs.toList) → w.grownBy w' v.ownBlock → (v'.ownBlock = v.ownBlock ∨ v'.ownBlock = some w.heap.size) → K (a.put o.dst v') w') :
    if Region.wanted o (yielded ops a.tmps) = true then Oper.wp Try.prog o a w K Q else E := by
  rw [if_pos (by simp [Region.wanted, hgd])]
  exact wp_app2 s x t ho ht hinfo hzs hsz base v n xs hs hown p cs hx hp hcs hone hb hn hbase h

/-! ### clone -/
theorem take_row {M : List (List Int)} {k : Nat} (h : k < M.length) : M.take (k + 1) = M.take k ++ [rw_ M k] := by
  rw [List.take_succ_eq_append_getElem h]; simp [rw_, h]
set_option maxHeartbeats 400000 in
theorem mclone_go (w : World) (x : Option Addr) (n c : Nat) (M : List (List Int)) (hM : RwSl w x n c M) (hn : n ≤ 16) (hL : ∀ k, k < n → (rw_ M k).length ≤ 16) :
    Calls Try.prog 74 #[.slice x n c] w (GivesRw w M) := by
  have HM := Lib.hid hM
  have HN := Lib.hid hM.1
  have HL := Lib.hid hL
  have hcap := hM.2.cap
  unfold maxLen at hcap
  clear hM hL
  go_enter Try.func74, Try.ntmps74
  go_wp2
  go_loopw [3, 8] (fun v t wr => ∃ k : Nat, k ≤ n ∧ t = .int .i64 k ∧ Hid (RwOwn wr w.heap.size wr.heap.size v (M.take k)) ∧ Below w.heap.size w wr) (fun _ t _ => n - (intOf t).toNat)
  case atStart => exact ⟨0, by omega, rfl, Lib.hid (RwOwn.nil _ _), Below.refl _ _⟩
  case round =>
    obtain ⟨k, hk, rfl, HO, hB⟩ := hrel
    by_cases hl : k < n
    · obtain ⟨b, off, rfl, hb, hc⟩ := (HM.out.mono hB).at (by omega)
      obtain ⟨z, m, q, eo, hS⟩ := hc k hl
      have hm : m ≤ 16 := by rw [← hS.len]; exact HL.out k hl
      obtain ⟨va, vc, rfl, _⟩ := HO.out.sl
      obtain ⟨E, D, hT⟩ := HO.out
      have hlen : (M.take k).length = k := by have := HN.out; simp; omega
      rw [hlen] at hT
      have hown := hT.1.1
      rw [hlen] at hown ⊢
      have hTT := Lib.hid hT
      have HS := Lib.hid hS
      have hwz := hB.size
      clear hc hS hT
      go_wp2_with fail
      refine (clone_go _ z m q _ HS.out (by omega)).mono ?_
      rintro e w2 ⟨a2, n2, c2, rfl, hE, hb2⟩
      have hz2 := hb2.size
      go_wp2_with (at_builtin; refine wpList_app1 rfl _ _ 103 rfl Try.underlying103 infoSl rfl (by decide) w.heap.size (.slice va k vc) k _ rfl ((own_mono hown hb2).alloc _) w2.heap.size #[.slice a2 n2 c2] rfl (new_at _ _) rfl (by simp [Value.oneCell']) (by omega) (by omega) (by simp; omega) ?_; intro v' wn hown' hgrow)
      have hn2 : n2 = (rw_ M k).length := by have := hE.1; simpa using this.symm
      subst hn2
      have hN := RwTr.snoc (o := .cells #[.slice a2 (rw_ M k).length c2] 26) hTT.out hwz hb2 hE (by rw [hlen]; exact hown') hgrow
      rw [← take_row (by rw [HN.out]; exact hl)] at hN
      have HNN := Lib.hid hN
      have HBN := Lib.hid ((bal (btr hB hb2) _).grown hgrow (by simp; omega) (fun j hj => (hown.lt j hj).1))
      clear hN hown' hgrow hE hown hb2 hB hlen
      go_wp2
      go_roundw
      case rel => go_light; exact ⟨k + 1, by omega, by go_num, HNN, HBN.out⟩
      case measure => simp [intOf]; omega
    · obtain rfl : k = n := by omega
      have hO := HO.out
      rw [List.take_of_length_le (by rw [HN.out]; omega)] at hO
      obtain ⟨va, vc, rfl, _⟩ := hO.sl
      have HO2 := Lib.hid hO
      clear hO
      go_wp2
      go_ret
      exact ⟨_, _, _, rfl, HO2.out, hB⟩

/-! ### gcd, frac -/
theorem gcd_step (p q : Int) : Int.gcd q (p.tmod q) = Int.gcd p q := by
  unfold Int.gcd
  rw [Int.natAbs_tmod, Nat.gcd_comm q.natAbs, ← Nat.gcd_rec, Nat.gcd_comm]
theorem tmod_lt (p q : Int) (h : q ≠ 0) : (p.tmod q).natAbs < q.natAbs := by
  rw [Int.natAbs_tmod]; exact Nat.mod_lt _ (by omega)
set_option maxHeartbeats 400000 in
theorem gcd_go (w : World) (a b : Int) (ha : -4000000000000000000 ≤ a ∧ a ≤ 4000000000000000000) (hb : -4000000000000000000 ≤ b ∧ b ≤ 4000000000000000000) :
    Calls Try.prog 85 #[.int .i64 a, .int .i64 b] w fun e w' => e = .returned (.int .i64 (Int.gcd a b)) ∧ ∃ m, w' = w.drewN m := by
  go_enter Try.func85, Try.ntmps85
  go_wp2
  go_loopw [0, 1] (fun x y wr => ∃ p q : Int, x = .int .i64 p ∧ y = .int .i64 q ∧ Hid (Int.gcd p q = Int.gcd a b) ∧ (-4000000000000000000 ≤ p ∧ p ≤ 4000000000000000000) ∧ (-4000000000000000000 ≤ q ∧ q ≤ 4000000000000000000) ∧ Hid (∃ m, wr = w.drewN m)) (fun _ y _ => (intOf y).natAbs)
  case atStart => exact ⟨a, b, rfl, rfl, Lib.hid rfl, ha, hb, Lib.hid ⟨0, rfl⟩⟩
  case round =>
    clear ha hb
    obtain ⟨p, q, rfl, rfl, HG, hp, hq, HW⟩ := hrel
    by_cases h0 : q = 0
    · subst h0
      clear hq
      have hgp : (Int.gcd a b : Int) = p.natAbs := by rw [← HG.out, Int.gcd_zero_right]
      by_cases hpn : p < 0
      · have HR := Lib.hid (show -p = (Int.gcd a b : Int) by omega)
        clear hgp
        go_wp2
        go_ret
        exact ⟨ret_int HR.out, HW.out⟩
      · have HR := Lib.hid (show p = (Int.gcd a b : Int) by omega)
        clear hgp
        go_wp2
        go_ret
        exact ⟨ret_int HR.out, HW.out⟩
    · have t1 : (q != 0) = true := by simpa using h0
      have hb := tmod_lt p q h0
      have hb2 : (p.tmod q).natAbs ≤ p.natAbs := by rw [Int.natAbs_tmod]; exact Nat.mod_le _ _
      have HG2 := Lib.hid (show Int.gcd q (p.tmod q) = Int.gcd a b by rw [gcd_step]; exact HG.out)
      obtain ⟨r, hr⟩ : ∃ r, p.tmod q = r := ⟨_, rfl⟩
      rw [hr] at hb hb2 HG2
      go_wp2
      go_region
      go_wp2
      go_roundw
      case rel =>
        go_light
        refine ⟨q, r, rfl, by first | rfl | rw [hr], HG2, hq, by omega, Lib.hid ?_⟩
        obtain ⟨m, rfl⟩ := HW.out
        exact ⟨m + 1, rfl⟩
      case measure => go_light; simp [intOf]; omega

def toFr (q : Rat) : Fr := ⟨q.num, (q.den : Int)⟩
theorem frq_num {a b : Int} (hb : 0 < b) : a.tdiv (Int.gcd a b) = ((a : Rat) / (b : Rat)).num := by
  rw [← Rat.divInt_eq_div, Rat.num_divInt, Int.sign_eq_one_of_pos hb, Int.one_mul, Int.gcd_comm b a]
  rw [Int.tdiv_eq_ediv_of_dvd (Int.gcd_dvd_left ..)]
theorem frq_den {a b : Int} (hb : 0 < b) : b.tdiv (Int.gcd a b) = (((a : Rat) / (b : Rat)).den : Int) := by
  rw [← Rat.divInt_eq_div, Rat.den_divInt, if_neg (by omega), Int.gcd_comm b a]
  rw [Int.tdiv_eq_ediv_of_dvd (Int.gcd_dvd_right ..), Int.natCast_ediv]
  congr 1
  omega
theorem frq_small {a b : Int} (hb : 0 < b) : (((a : Rat) / (b : Rat)).num.natAbs ≤ a.natAbs) ∧ (((a : Rat) / (b : Rat)).den : Int) ≤ b := by
  rw [← frq_num hb, ← frq_den hb]
  refine ⟨by rw [Int.natAbs_tdiv]; exact Nat.div_le_self _ _, ?_⟩
  have h1 : (b.tdiv (Int.gcd a b)).natAbs ≤ b.natAbs := by rw [Int.natAbs_tdiv]; exact Nat.div_le_self _ _
  omega

set_option maxHeartbeats 400000 in
theorem frac_go (w : World) (a b : Int) (ha : -4000000000000000000 ≤ a ∧ a ≤ 4000000000000000000) (hb0 : 0 < b) (hb : b ≤ 4000000000000000000) :
    Calls Try.prog 67 #[.int .i64 a, .int .i64 b] w fun e w' => e = .returned (fv (toFr ((a : Rat) / (b : Rat)))) ∧ Below w.heap.size w w' := by
  have hn := frq_num (a := a) hb0
  have hd := frq_den (a := a) hb0
  have hs := frq_small (a := a) hb0
  have HV := Lib.hid (show fv (toFr ((a : Rat) / (b : Rat))) = .agg #[.int .i64 ((a : Rat) / (b : Rat)).num, .int .i64 (((a : Rat) / (b : Rat)).den : Int)] from rfl)
  have hg0 : (Int.gcd a b : Int) ≠ 0 := by
    have : Int.gcd a b ≠ 0 := fun h => by rw [Int.gcd_eq_zero_iff] at h; omega
    omega
  have hdp : 0 ≤ (((a : Rat) / (b : Rat)).den : Int) := by omega
  generalize ((a : Rat) / (b : Rat)).num = X at *
  generalize (((a : Rat) / (b : Rat)).den : Int) = Y at *
  have w1 : IntKind.i64.wrap X = X := wrap_i64j _ (by omega) (by omega)
  have w2 : IntKind.i64.wrap Y = Y := wrap_i64j _ (by omega) (by omega)
  go_enter Try.func67, Try.ntmps67
  go_wp2_with fail
  refine (gcd_go _ a b ha ⟨by omega, hb⟩).mono ?_
  rintro e w' ⟨rfl, m, rfl⟩
  generalize (Int.gcd a b : Int) = g at *
  go_wp2
  go_region
  go_wp2
  rw [HV.out]
  exact bodyPost_ret (v := .agg #[.int .i64 X, .int .i64 Y]) (by simp [results, Try.results67, go_sem]) rfl ⟨rfl, below_store (below_store (drewN_below (bal (Below.refl _ _) _)) _) _⟩

/-! ### slices of fractions -/
def cellsF (F : List Fr) : List Value := cells2 (fun i => .int .i64 (fr F i).n) (fun i => .int .i64 (fr F i).d) F.length
def GivesFr (w : World) (F : List Fr) (e : Ending) (w' : World) : Prop :=
  ∃ a n c, e = .returned (.slice a n c) ∧ n = F.length ∧ w'.ownsRow w.heap.size 53 2 (.slice a n c) n (cellsF F) ∧ Below w.heap.size w w'
def GivesFrE (w : World) (F : List Fr) (err : Int) (e : Ending) (w' : World) : Prop :=
  ∃ a n c, e = .returned (.tuple #[.slice a n c, .int .i64 err]) ∧ n = F.length ∧ w'.ownsRow w.heap.size 53 2 (.slice a n c) n (cellsF F) ∧ Below w.heap.size w w'
theorem fr_app {A : List Fr} {x : Fr} {i : Nat} : fr (A ++ [x]) i = if i < A.length then fr A i else if i = A.length then x else ⟨0, 0⟩ := by
  unfold fr
  rw [List.getD_eq_getElem?_getD, List.getD_eq_getElem?_getD]
  by_cases h : i < A.length
  · rw [if_pos h, List.getElem?_append_left h]
  · rw [if_neg h, List.getElem?_append_right (by omega)]
    by_cases e : i = A.length
    · rw [if_pos e, e]; simp
    · rw [if_neg e, List.getElem?_eq_none (by simp; omega)]; rfl
theorem cellsF_snoc (F : List Fr) (x : Fr) : cellsF (F ++ [x]) = cellsF F ++ [.int .i64 x.n, .int .i64 x.d] := by
  unfold cellsF
  rw [show (F ++ [x]).length = F.length + 1 by simp, cells2_succ, fr_app, if_neg (Nat.lt_irrefl _), if_pos rfl]
  rw [cells2_congr (f := fun i => Value.int .i64 (fr (F ++ [x]) i).n) (f' := fun i => Value.int .i64 (fr F i).n) (g' := fun i => Value.int .i64 (fr F i).d) (fun i hi => by rw [fr_app, if_pos hi]) (fun i hi => by rw [fr_app, if_pos hi])]
theorem own_fr {w : World} {base n c : Nat} {a : Option Addr} {F : List Fr} (h : w.ownsRow base 53 2 (.slice a n c) n (cellsF F)) (hF : n = F.length) : FrSl w a n c F := by
  refine ⟨hF.symm, ?_⟩
  by_cases hn : 0 < n
  · obtain ⟨g, rfl, _, hg, hnc, hc, hcells, _, _⟩ := own_cells h hn
    refine ⟨hnc, hc, .inr (.inr ⟨g, 0, rfl, hg, fun i hi => ?_⟩)⟩
    rw [Nat.zero_add]
    have q := cells2_at (fun i => Value.int .i64 (fr F i).n) (fun i => Value.int .i64 (fr F i).d) (n := F.length) (i := i) (by omega)
    exact ⟨hcells _ _ q.1, hcells _ _ q.2⟩
  · have h0 : n = 0 := by omega
    rcases h.2 with ⟨e1, _⟩ | ⟨g, cap, cur, e1, _, hg, hnc, hc, _⟩
    · injection e1 with e1 _ e3
      exact ⟨by omega, by unfold maxLen; omega, .inl ⟨e1, h0, e3⟩⟩
    · injection e1 with e1 _ e3
      subst e1 e3
      exact ⟨hnc, hc, .inr (.inr ⟨g, 0, rfl, lt_of_block hg, fun i hi => by omega⟩)⟩

def fracsL (l : List Int) (d : Int) : List Fr := l.map fun (x : Int) => toFr ((x : Rat) / (d : Rat))
theorem fracsL_snoc {l : List Int} {d : Int} {k : Nat} (h : k < l.length) : fracsL (l.take (k + 1)) d = fracsL (l.take k) d ++ [toFr ((nth l k : Rat) / (d : Rat))] := by
  unfold fracsL; rw [take_nth h, List.map_append]; rfl
set_option maxHeartbeats 400000 in
theorem fracs_go (w : World) (x : Option Addr) (n c : Nat) (l : List Int) (d : Int) (hs : Sl w x n c l) (hn : n ≤ 16) (hl : ∀ y ∈ l, -4000000000000000000 ≤ y ∧ y ≤ 4000000000000000000) (hd0 : 0 < d) (hd : d ≤ 4000000000000000000) :
    Calls Try.prog 48 #[pv x n c d] w (GivesFr w (fracsL l d)) := by
  have hb0 := bal (Below.refl w.heap.size w) (.cells #[.slice x n c, .int .i64 d] 80)
  have HZ := Lib.hid (new_at w (.cells #[.slice x n c, .int .i64 d] 80))
  have HS := Lib.hid (hs.mono hb0)
  have HB0 := Lib.hid hb0
  have HN := Lib.hid hs.len
  have HL := Lib.hid hl
  clear hs hb0 hl
  go_enter Try.func48, Try.ntmps48
  go_wp2
  go_loopw [3, 9] (fun v t wr => ∃ k : Nat, k ≤ n ∧ t = .int .i64 k ∧ wr.ownsRow (w.heap.size + 1) 53 2 v k (cellsF (fracsL (l.take k) d)) ∧ Below (w.alloc (.cells #[.slice x n c, .int .i64 d] 80)).heap.size (w.alloc (.cells #[.slice x n c, .int .i64 d] 80)) wr) (fun _ t _ => n - (intOf t).toNat)
  case atStart => exact ⟨0, by omega, rfl, World.ownsRow_nil _ _ _ _, Below.refl _ _⟩
  case round =>
    obtain ⟨k, hk, rfl, hown, hB⟩ := hrel
    by_cases hlk : k < n
    · obtain ⟨b, off, rfl, hb, hc⟩ := (HS.out.mono hB).at (by omega)
      have hck := hc k hlk
      have hy := HL.out _ (nth_mem (l := l) (k := k) (by rw [HN.out]; exact hlk))
      have HF := Lib.hid (fracsL_snoc (l := l) (d := d) (k := k) (by rw [HN.out]; exact hlk))
      have hz := persist HZ.out hB
      have cd : wr.cell? ⟨w.heap.size, 1, none⟩ = some (.int .i64 d) := by rw [cells_at hz]; rfl
      have zz := lt_of_block hz
      have hwz := hB.size
      simp at hwz
      obtain ⟨va, vc, rfl⟩ := own_form hown
      clear hc hz
      generalize nth l k = y at *
      go_wp2_with fail
      refine (frac_go _ y d hy hd0 hd).mono ?_
      rintro e w2 ⟨rfl, hb2⟩
      have hz2 := hb2.size
      generalize toFr ((y : Rat) / (d : Rat)) = f at *
      have hown2 := own_mono hown hb2
      have HO1 := Lib.hid hown
      clear hown
      go_wp2_with (at_builtin; refine wpList_app1 rfl _ _ 27 rfl Try.underlying27 infoFr rfl (by decide) (w.heap.size + 1) (.slice va k vc) k _ rfl (hown2.alloc _) w2.heap.size #[.int .i64 f.n, .int .i64 f.d] rfl (new_at _ _) rfl (by simp [Value.oneCell']) (by omega) (by omega) (by simp; omega) ?_; intro v' wn hown' hgrow; obtain ⟨wa, wc, rfl⟩ := own_form hown')
      have HO := Lib.hid (show wn.ownsRow (w.heap.size + 1) 53 2 (.slice wa (k + 1) wc) (k + 1) (cellsF (fracsL (l.take (k + 1)) d)) by
        rw [HF.out, cellsF_snoc]; exact hown')
      have HBN := Lib.hid ((bal (btr hB hb2) _).grown hgrow (by have := hB.size; simp at this; simp; omega) (fun j hj => by have := (HO1.out.lt j hj).1; simp; omega))
      clear hown' hgrow hown2 hB hb2 HO1
      go_roundw
      case rel => go_light; exact ⟨k + 1, by omega, by go_num, HO.out, HBN.out⟩
      case measure => simp [intOf]; omega
    · obtain rfl : k = n := by omega
      rw [List.take_of_length_le (by rw [HN.out]; omega)] at hown
      obtain ⟨va, vc, rfl⟩ := own_form hown
      have HO := Lib.hid (own_base hown (show w.heap.size ≤ w.heap.size + 1 by omega))
      clear hown
      go_wp2
      go_ret
      exact ⟨_, _, _, rfl, by unfold fracsL; rw [List.length_map, HN.out], HO.out, btr HB0.out hB⟩
end Go.Proofs.Ytcmakddnjmeklaa
