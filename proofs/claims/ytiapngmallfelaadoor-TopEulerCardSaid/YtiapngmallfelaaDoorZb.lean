
/- Chapter 9: words for memory. -/
import Derived.Test.YtiapngmallfelaaDoorBase
import Derived.Laws.AppendOwnNone
import Derived.Lib.SliceRun
import Derived.Deep.RegionLaw
import Derived.Deep.Light
namespace Go.Proofs.YtiapngmallfelaaDoor
open Go.RowKit

theorem lt_of_block {w : World} {p : Nat} {o : Obj} (h : w.heap[p]? = some o) : p < w.heap.size := (Array.getElem?_eq_some_iff.1 h).1
theorem infoInt : (Tryd.prog.info? 3).map (fun i => (i.zero, i.size, i.bytes)) = some (some (.int .i64 0), 1, 8) := by kernel_rfl
/-- append(out, src...) where out is the call's own. -/
theorem wp_app {o : Oper} {a : Act} {K : Act → World → Prop} {Q : Exit → Act → World → Prop} {w : World} (s x : Operand) (t : TypeId)
    (ho : o.op = .call { callee := .builtin .append, args := #[s, x], argTypes := #[t, t] }) (ht : Tryd.prog.underlying t = some (.slice 3))
    (base : Nat) (v : Value) (n : Nat) (L : List Int) (hs : a.eval s = v) (hown : w.ownsRow base 3 1 v n (L.map (Value.int .i64)))
    (ad : Option Addr) (m c : Nat) (M : List Int) (hx : a.eval x = .slice ad m c) (hM : Sl w ad m c M) (hb : n + m ≤ 1000000000000) (hbase : base ≤ w.heap.size)
    (h : ∀ v' w', w'.ownsRow base 3 1 v' (n + m) ((L ++ M).map (Value.int .i64)) → w.grownBy w' v.ownBlock → K (a.put o.dst v') w') : o.wp Tryd.prog a w K Q := by
  obtain ⟨i0, hi, hz0, hz1, hz2⟩ := info_parts infoInt
  rcases hM.parts3 with ⟨rfl, rfl, rfl, rfl⟩ | ⟨x0, rfl, rfl, rfl, rfl⟩ | ⟨b, off, rfl, hlt, hc⟩
  · have hrun := run_append_owned_none (P := Tryd.prog) (w := w) base t o.type 3 i0 1 ht hi v n _ hown
    unfold Oper.wp
    simp [execOp, ho, resolve, invoke, builtin, hs, hx, hrun, Result.andThen]
    exact h v w (by simpa using hown) ⟨rfl, rfl, rfl, Nat.le_refl _, fun _ _ _ => rfl⟩
  · refine wp_append_own w s x t ho base 3 i0 (.int .i64 0) 1 8 ht hi hz0 hz1 hz2 rfl (by decide) v n _ hs hown x0 0 0 [] hx rfl (fun j u hj => by cases hj) (fun u hu => by cases hu) (by unfold maxLen; omega) (by omega) hbase
      (fun v' w' h1 h2 _ => h v' w' (by simpa using h1) h2)
  · have hl := hM.len
    refine wp_append_own w s x t ho base 3 i0 (.int .i64 0) 1 8 ht hi hz0 hz1 hz2 rfl (by decide) v n _ hs hown ⟨b, off, none⟩ m c (M.map (Value.int .i64)) hx (by simpa using hl) ?_ ?_ (by unfold maxLen; omega) (by omega) hbase
      (fun v' w' h1 h2 _ => h v' w' (by simpa using h1) h2)
    · intro j u hj
      rw [List.getElem?_map] at hj
      rcases Nat.lt_or_ge j M.length with hjl | hjl
      · rw [List.getElem?_eq_getElem hjl] at hj
        simp at hj; subst hj
        have := hc j (by omega)
        rw [nth_of_lt hjl] at this
        have hadd : (⟨b, off, none⟩ : Addr).add j = ⟨b, off + j, none⟩ := by unfold Addr.add; split <;> simp_all
        rw [hadd]; exact this
      · rw [List.getElem?_eq_none hjl] at hj; simp at hj
    · intro u hu
      rw [List.mem_map] at hu
      obtain ⟨z, _, rfl⟩ := hu; rfl
theorem wpList_app {ops : Array Oper} {rest : List Oper} {o : Oper} {a : Act} {Q : Exit → Act → World → Prop} {w : World} (hgd : o.guard = none) (s x : Operand) (t : TypeId)
    (ho : o.op = .call { callee := .builtin .append, args := #[s, x], argTypes := #[t, t] }) (ht : Tryd.prog.underlying t = some (.slice 3))
    (base : Nat) (v : Value) (n : Nat) (L : List Int) (hs : a.eval s = v) (hown : w.ownsRow base 3 1 v n (L.map (Value.int .i64)))
    (ad : Option Addr) (m c : Nat) (M : List Int) (hx : a.eval x = .slice ad m c) (hM : Sl w ad m c M) (hb : n + m ≤ 1000000000000) (hbase : base ≤ w.heap.size)
    (h : ∀ v' w', w'.ownsRow base 3 1 v' (n + m) ((L ++ M).map (Value.int .i64)) → w.grownBy w' v.ownBlock → wpList Tryd.prog ops Q rest (a.put o.dst v') w') : wpList Tryd.prog ops Q (o :: rest) a w :=
  wpList_plain hgd fun _ hK => wp_app s x t ho ht base v n L hs hown ad m c M hx hM hb hbase fun v' w' h2 h3 => hK _ _ (h v' w' h2 h3)
/-- The same as one step of a region that draws its order. -/
theorem step_app {ops : Array Oper} {o : Oper} {a : Act} {K : Act → World → Prop} {Q : Exit → Act → World → Prop} {E : Prop} {w : World} (hgd : o.guard = none) (s x : Operand) (t : TypeId)
    (ho : o.op = .call { callee := .builtin .append, args := #[s, x], argTypes := #[t, t] }) (ht : Tryd.prog.underlying t = some (.slice 3))
    (base : Nat) (v : Value) (n : Nat) (L : List Int) (hs : a.eval s = v) (hown : w.ownsRow base 3 1 v n (L.map (Value.int .i64)))
    (ad : Option Addr) (m c : Nat) (M : List Int) (hx : a.eval x = .slice ad m c) (hM : Sl w ad m c M) (hb : n + m ≤ 1000000000000) (hbase : base ≤ w.heap.size)
    (h : ∀ v' w', w'.ownsRow base 3 1 v' (n + m) ((L ++ M).map (Value.int .i64)) → w.grownBy w' v.ownBlock → K (a.put o.dst v') w') :
    if Region.wanted o (yielded ops a.tmps) = true then Oper.wp Tryd.prog o a w K Q else E := by
  rw [if_pos (by simp [Region.wanted, hgd])]
  exact wp_app s x t ho ht base v n L hs hown ad m c M hx hM hb hbase h
theorem own_form {w : World} {base e size n : Nat} {v : Value} {xs : List Value} (h : w.ownsRow base e size v n xs) : ∃ a cap, v = .slice a n cap := by
  rcases h.2 with ⟨rfl, rfl⟩ | ⟨g, cap, cur, rfl, _⟩
  · exact ⟨none, 0, rfl⟩
  · exact ⟨_, cap, rfl⟩
theorem own_gives {w w1 : World} {v : Value} {n : Nat} {L : List Int} (h : w1.ownsRow w.heap.size 3 1 v n (L.map (Value.int .i64))) (hb : Below w.heap.size w w1) : GivesSl w L (.returned v) w1 := by
  obtain ⟨a, cap, rfl⟩ := own_form h
  exact ⟨a, n, cap, rfl, h, hb⟩
/-- The block that holds the one element to be appended. -/
theorem sl_one (w : World) (x : Int) : Sl (w.alloc (.cells #[.int .i64 x] 3)) (some ⟨w.heap.size, 0, none⟩) 1 1 [x] := by
  refine ⟨rfl, Nat.le_refl _, by unfold maxLen; omega, .inr (.inr ⟨_, _, rfl, by simp, fun i hi => ?_⟩)⟩
  obtain rfl : i = 0 := by omega
  simp [nth]
set_option maxHeartbeats 400000 in
theorem clone_go (w : World) (a : Option Addr) (n p : Nat) (l : List Int) (hs : Sl w a n p l) (hn : n ≤ 100000000000) :
    Calls Tryd.prog 7 #[.slice a n p] w fun e w' => GivesSl w l e w' := by
  have qT : ∀ (w : World) (a : Option Addr) (n c n' c' : Nat), (binOp .eql 23 (.slice a n c) (.slice none n' c')).run Tryd.prog w = .ok (.bool a.isNone) w := fun w a n c n' c' => Lib.run_eql_slice_nil w _ _ a n c n' c' Tryd.underlying23
  cases a with
  | none =>
    obtain ⟨rfl, rfl, rfl⟩ : n = 0 ∧ p = 0 ∧ l = [] := by
      rcases hs.parts3 with ⟨_, h1, h2, h3⟩ | ⟨x, h, _⟩ | ⟨b, off, h, _⟩
      · exact ⟨h1, h2, h3⟩
      · cases h
      · cases h
    go_enter Tryd.func7, Tryd.ntmps7
    go_wp2
    go_ret
    exact ⟨none, 0, 0, rfl, World.ownsRow_nil _ _ _ _, Below.refl _ _⟩
  | some x =>
    go_enter Tryd.func7, Tryd.ntmps7
    go_wp2_with (at_builtin; refine wpList_app rfl _ _ 23 rfl Tryd.underlying23 w.heap.size _ 0 [] rfl (World.ownsRow_made w #[] 0 (Nat.le_refl _) (by decide) rfl) _ n p l rfl (hs.mono ((Below.refl _ _).alloc (Nat.le_refl _) _)) (by omega) (by simp) ?_; intro v' w1 hown hgrow)
    go_ret
    exact own_gives (by simpa using hown) (((Below.refl _ _).alloc (Nat.le_refl _) _).grown hgrow (by simp) (fun k hk => Nat.le_of_eq (Option.some.inj hk)))
theorem Sl.take {w : World} {a : Option Addr} {n cap : Nat} {l : List Int} (h : Sl w a n cap l) (m : Nat) (hm : m ≤ n) : Sl w a m cap (l.take m) := by
  obtain ⟨h1, h2, h3, ⟨rfl, rfl, rfl⟩ | ⟨rfl, rfl, x, rfl⟩ | ⟨b, off, rfl, hlt, hc⟩⟩ := h
  · exact ⟨by simp; omega, by omega, h3, .inl ⟨rfl, by omega, rfl⟩⟩
  · exact ⟨by simp; omega, by omega, h3, .inr (.inl ⟨by omega, rfl, x, rfl⟩)⟩
  · refine ⟨by simp; omega, by omega, h3, .inr (.inr ⟨b, off, rfl, hlt, fun i hi => ?_⟩)⟩
    rw [hc i (by omega)]
    simp [nth, List.getD_eq_getElem?_getD, hi]
theorem cells_at {w : World} {p : Nat} {c : Array Value} {E : TypeId} (h : w.heap[p]? = some (.cells c E (0, 0))) (i : Nat) : w.cell? ⟨p, i, none⟩ = c[i]? := by simp [World.cell?, h]
theorem free_at {w : World} {p : Nat} {c : Array Value} {E : TypeId} (h : w.heap[p]? = some (.cells c E (0, 0))) (i : Nat) : w.frozen? ⟨p, i, none⟩ = false := by simp [World.frozen?, h]
theorem set_at {w : World} {p : Nat} {c : Array Value} {E : TypeId} (h : w.heap[p]? = some (.cells c E (0, 0))) (i : Nat) (v : Value) : (w.setCell ⟨p, i, none⟩ v).heap[p]? = some (.cells (c.setIfInBounds i v) E (0, 0)) := by
  simp [World.setCell, Array.getElem?_modify, h]
theorem heap_alloc_eq (w : World) (o : Obj) : (w.alloc o).heap = w.heap.push o := rfl
theorem bal {w w1 : World} (h : Below w.heap.size w w1) (o : Obj) : Below w.heap.size w (w1.alloc o) := h.alloc h.size o
theorem btr {w w1 w2 : World} (h : Below w.heap.size w w1) (k : Below w1.heap.size w1 w2) : Below w.heap.size w w2 := h.trans (k.mono h.size)
theorem bcell {W w1 : World} (hb : Below W.heap.size W w1) : (∀ b o, b < W.heap.size → w1.cell? ⟨b, o, none⟩ = W.cell? ⟨b, o, none⟩) ∧ (∀ b o, b < W.heap.size → w1.frozen? ⟨b, o, none⟩ = W.frozen? ⟨b, o, none⟩) :=
  ⟨fun b o h => hb.cell (p := ⟨b, o, none⟩) h, fun b o h => hb.frozen (p := ⟨b, o, none⟩) h⟩
theorem new_at (w : World) (o : Obj) : (w.alloc o).heap[w.heap.size]? = some o := by simp [heap_alloc_eq]
theorem own_mono {w w' : World} {base e size n : Nat} {v : Value} {xs : List Value} (h : w.ownsRow base e size v n xs) (hb : Below w.heap.size w w') : w'.ownsRow base e size v n xs :=
  h.kept (row := none) ⟨hb.os, hb.tape, hb.output, hb.size, fun k hk _ => hb.block k hk⟩ (by cases v.ownBlock <;> simp)
theorem one_atB {w : World} {p : Nat} {a : Value} {E : TypeId} (h : w.heap[p]? = some (.cells #[a] E (0, 0))) : w.cell? ⟨p, 0, none⟩ = some a := by rw [cells_at h]; rfl
theorem below_store {w w1 : World} {i : Nat} (h : Below w.heap.size w w1) (v : Value) : Below w.heap.size w (w1.setCell ⟨w.heap.size, i, none⟩ v) := h.setCell (Nat.le_refl _) v
theorem own_base {w : World} {base base' e size n : Nat} {v : Value} {xs : List Value} (h : w.ownsRow base e size v n xs) (hb : base' ≤ base) : w.ownsRow base' e size v n xs := by
  obtain ⟨h1, h2⟩ := h
  refine ⟨h1, ?_⟩
  rcases h2 with h2 | ⟨g, c, cur, e1, e2, r⟩
  · exact .inl h2
  · exact .inr ⟨g, c, cur, e1, Nat.le_trans hb e2, r⟩
theorem own_grown {w wr w1 : World} {e size k : Nat} {v : Value} {xs : List Value} (hown : wr.ownsRow w.heap.size e size v k xs) (hb : Below w.heap.size w wr) (o : Obj) (hg : (wr.alloc o).grownBy w1 v.ownBlock) : Below w.heap.size w w1 :=
  (bal hb o).grown hg (bal hb o).size (fun j hj => (hown.lt j hj).1)
theorem own_grown2 {w wr w1 : World} {e size k : Nat} {v : Value} {xs : List Value} (hown : wr.ownsRow (w.heap.size + 1) e size v k xs) (hb : Below w.heap.size w wr) (o : Obj) (hg : (wr.alloc o).grownBy w1 v.ownBlock) : Below w.heap.size w w1 :=
  (bal hb o).grown hg (bal hb o).size (fun j hj => by have := (hown.lt j hj).1; omega)
theorem own_slice {w : World} {base e size n : Nat} {v : Value} {xs : List Value} (h : w.ownsRow base e size v n xs) : ∃ a c, v = .slice a n c := by
  rcases h.2 with ⟨rfl, h0⟩ | ⟨g, cap, cur, rfl, _⟩
  · subst h0; exact ⟨_, _, rfl⟩
  · exact ⟨_, _, rfl⟩
theorem keepA {wr wn : World} {o : Obj} {v : Value} {Br size k : Nat} {e : TypeId} {xs : List Value} (hown : wr.ownsRow Br e size v k xs) (hg : (wr.alloc o).grownBy wn v.ownBlock) (hsz : Br ≤ wr.heap.size) :
    (∀ b, b < Br → wn.heap[b]? = wr.heap[b]?) ∧ wr.heap.size ≤ wn.heap.size := by
  have h1 := hg.size
  have hs : (wr.alloc o).heap.size = wr.heap.size + 1 := by simp
  refine ⟨fun b hb => ?_, by omega⟩
  rw [hg.block b (by omega) (fun e => by have := (hown.lt b e.symm).1; omega)]
  exact Below.heap_alloc wr o b (by omega)
theorem quiet_is {P : Program} {f : FuncId} {args : Array Value} {w : World} {n : Nat} {v : Value}
    (h : Calls P f args (w.drewN n) fun e w' => e = .returned v ∧ w.drewN n = w') : Calls P f args (w.drewN n) fun e w'' => e = .returned v ∧ ∃ m, w'' = w.drewN m :=
  h.mono fun _ _ ⟨he, hm⟩ => ⟨he, n, hm.symm⟩
theorem kept0 {w w' : World} {o : Obj} (hb : Below (w.alloc o).heap.size (w.alloc o) w') : w'.heap[w.heap.size]? = some o := by
  rw [hb.block w.heap.size (by simp)]
  simp [heap_alloc_eq]
theorem wrap_i64j (a : Int) (h1 : -9223372036854775808 ≤ a) (h2 : a < 9223372036854775808) : IntKind.i64.wrap a = a := by
  rw [IntWalk.i64_left]; exact IntWalk.wrap64_in _ (by constructor <;> omega)
theorem mul_le3 {a b A B : Int} (ha : -A ≤ a) (ha2 : a ≤ A) (hb : -B ≤ b) (hb2 : b ≤ B) (_hA : 0 ≤ A) : -(A * B) ≤ a * b ∧ a * b ≤ A * B := by
  have h1 := Int.mul_nonneg (show 0 ≤ A + a by omega) (show 0 ≤ B + b by omega)
  have h2 := Int.mul_nonneg (show 0 ≤ A - a by omega) (show 0 ≤ B - b by omega)
  have h3 := Int.mul_nonneg (show 0 ≤ A + a by omega) (show 0 ≤ B - b by omega)
  have h4 := Int.mul_nonneg (show 0 ≤ A - a by omega) (show 0 ≤ B + b by omega)
  simp only [Int.add_mul, Int.sub_mul, Int.mul_add, Int.mul_sub] at h1 h2 h3 h4
  omega
def OnExit (k : Nat) (R : Act → World → Prop) : Exit → Act → World → Prop
  | .exit n, a, w => n = k ∧ R a w
  | _, _, _ => False
theorem wp_onExit {P : Program} {c : Code} {k : Nat} {Q : Exit → Act → World → Prop} {a : Act} {w : World} (h : Code.wp P c (OnExit k fun a w => Q (.exit k) a w) a w) : Code.wp P c Q a w :=
  wp_mono h fun e a w hq => by
    cases e with
    | exit n => obtain ⟨rfl, h⟩ := hq; exact h
    | _ => exact hq.elim
def loopBodies : Code → List Code
  | .loop c => c :: loopBodies c
  | .seq a b => loopBodies a ++ loopBodies b
  | .block _ c => loopBodies c
  | .scope c => loopBodies c
  | .cond _ a b => loopBodies a ++ loopBodies b
  | _ => []
theorem persist {w w' : World} {p : Nat} {o : Obj} (h : w.heap[p]? = some o) (hb : Below w.heap.size w w') : w'.heap[p]? = some o := by
  rw [hb.block p (lt_of_block h)]; exact h
theorem drewB {w w' : World} (h : ∃ m, w' = w.drewN m) : Below w.heap.size w w' := by obtain ⟨m, rfl⟩ := h; exact drewN_below (Below.refl _ _)

/-! ### slices of acts, of slices of acts, of rows, of fractions -/
structure Ac where
  g : Int
  o : List Int
structure Wd where
  a : Int
  b : Int
  acts : List (List Ac)
structure Fr where
  n : Int
  d : Int
deriving DecidableEq
def ac (A : List Ac) (i : Nat) : Ac := A.getD i ⟨0, []⟩
def acl (A : List (List Ac)) (i : Nat) : List Ac := A.getD i []
def rw_ (M : List (List Int)) (i : Nat) : List Int := M.getD i []
def fr (F : List Fr) (i : Nat) : Fr := F.getD i ⟨0, 0⟩

/-- A slice of n elements of sz cells; El i b o: element i lies from cell o of block b on. -/
def SlG (w : World) (sz : Nat) (a : Option Addr) (n cap : Nat) (El : Nat → Nat → Nat → Prop) : Prop :=
  n ≤ cap ∧ cap ≤ maxLen ∧ ((a = none ∧ n = 0 ∧ cap = 0) ∨ (n = 0 ∧ cap = 0 ∧ ∃ x, a = some x) ∨
   ∃ b off, a = some ⟨b, off, none⟩ ∧ b < w.heap.size ∧ ∀ i, i < n → El i b (off + i * sz))
theorem SlG.at {w : World} {sz : Nat} {a : Option Addr} {n cap : Nat} {El : Nat → Nat → Nat → Prop} (h : SlG w sz a n cap El) (hn : 0 < n) :
    ∃ b off, a = some ⟨b, off, none⟩ ∧ b < w.heap.size ∧ ∀ i, i < n → El i b (off + i * sz) := by
  obtain ⟨_, _, ⟨_, h, _⟩ | ⟨h, _⟩ | h⟩ := h
  · omega
  · omega
  · exact h
theorem SlG.mono {w w' : World} {sz : Nat} {a : Option Addr} {n cap : Nat} {El El' : Nat → Nat → Nat → Prop} (h : SlG w sz a n cap El) (hsz : w.heap.size ≤ w'.heap.size) (hEl : ∀ i b o, b < w.heap.size → El i b o → El' i b o) : SlG w' sz a n cap El' := by
  obtain ⟨h2, h3, h | h | ⟨b, off, rfl, hlt, hc⟩⟩ := h
  · exact ⟨h2, h3, .inl h⟩
  · exact ⟨h2, h3, .inr (.inl h)⟩
  · exact ⟨h2, h3, .inr (.inr ⟨b, off, rfl, Nat.lt_of_lt_of_le hlt hsz, fun i hi => hEl i b _ hlt (hc i hi)⟩)⟩
theorem SlG.take {w : World} {sz : Nat} {a : Option Addr} {n cap : Nat} {El El' : Nat → Nat → Nat → Prop} (h : SlG w sz a n cap El) {m : Nat} (hm : m ≤ n) (hEl : ∀ i b o, i < m → El i b o → El' i b o) : SlG w sz a m cap El' := by
  obtain ⟨h2, h3, ⟨h4, h5, h6⟩ | ⟨h4, h5, h6⟩ | ⟨b, off, rfl, hlt, hc⟩⟩ := h
  · exact ⟨by omega, h3, .inl ⟨h4, by omega, h6⟩⟩
  · exact ⟨by omega, h3, .inr (.inl ⟨by omega, h5, h6⟩)⟩
  · exact ⟨by omega, h3, .inr (.inr ⟨b, off, rfl, hlt, fun i hi => hEl i b _ hi (hc i (by omega))⟩)⟩

def AcEl (w : World) (A : List Ac) (i b o : Nat) : Prop :=
  w.cell? ⟨b, o, none⟩ = some (.int .i64 (ac A i).g) ∧ ∃ a n c, w.cell? ⟨b, o + 1, none⟩ = some (.slice a n c) ∧ Sl w a n c (ac A i).o
def AcSl (w : World) (a : Option Addr) (n cap : Nat) (A : List Ac) : Prop := A.length = n ∧ SlG w 2 a n cap (AcEl w A)
def A2El (w : World) (A : List (List Ac)) (i b o : Nat) : Prop := ∃ a n c, w.cell? ⟨b, o, none⟩ = some (.slice a n c) ∧ AcSl w a n c (acl A i)
def A2Sl (w : World) (a : Option Addr) (n cap : Nat) (A : List (List Ac)) : Prop := A.length = n ∧ SlG w 1 a n cap (A2El w A)
def RwEl (w : World) (M : List (List Int)) (i b o : Nat) : Prop := ∃ a n c, w.cell? ⟨b, o, none⟩ = some (.slice a n c) ∧ Sl w a n c (rw_ M i)
def RwSl (w : World) (a : Option Addr) (n cap : Nat) (M : List (List Int)) : Prop := M.length = n ∧ SlG w 1 a n cap (RwEl w M)
def FrEl (w : World) (F : List Fr) (i b o : Nat) : Prop := w.cell? ⟨b, o, none⟩ = some (.int .i64 (fr F i).n) ∧ w.cell? ⟨b, o + 1, none⟩ = some (.int .i64 (fr F i).d)
def FrSl (w : World) (a : Option Addr) (n cap : Nat) (F : List Fr) : Prop := F.length = n ∧ SlG w 2 a n cap (FrEl w F)

theorem AcEl.mono {w w' : World} {A : List Ac} {i b o : Nat} (hb : Below w.heap.size w w') (hlt : b < w.heap.size) (h : AcEl w A i b o) : AcEl w' A i b o := by
  obtain ⟨h1, a, n, c, h2, h3⟩ := h
  exact ⟨(hb.cell (p := ⟨b, o, none⟩) hlt).trans h1, a, n, c, (hb.cell (p := ⟨b, o + 1, none⟩) hlt).trans h2, h3.mono hb⟩
theorem AcSl.mono {w w' : World} {a : Option Addr} {n cap : Nat} {A : List Ac} (h : AcSl w a n cap A) (hb : Below w.heap.size w w') : AcSl w' a n cap A :=
  ⟨h.1, h.2.mono hb.size fun _ _ _ hlt he => he.mono hb hlt⟩
theorem A2El.mono {w w' : World} {A : List (List Ac)} {i b o : Nat} (hb : Below w.heap.size w w') (hlt : b < w.heap.size) (h : A2El w A i b o) : A2El w' A i b o := by
  obtain ⟨a, n, c, h2, h3⟩ := h
  exact ⟨a, n, c, (hb.cell (p := ⟨b, o, none⟩) hlt).trans h2, h3.mono hb⟩
theorem A2Sl.mono {w w' : World} {a : Option Addr} {n cap : Nat} {A : List (List Ac)} (h : A2Sl w a n cap A) (hb : Below w.heap.size w w') : A2Sl w' a n cap A :=
  ⟨h.1, h.2.mono hb.size fun _ _ _ hlt he => he.mono hb hlt⟩
theorem RwEl.mono {w w' : World} {A : List (List Int)} {i b o : Nat} (hb : Below w.heap.size w w') (hlt : b < w.heap.size) (h : RwEl w A i b o) : RwEl w' A i b o := by
  obtain ⟨a, n, c, h2, h3⟩ := h
  exact ⟨a, n, c, (hb.cell (p := ⟨b, o, none⟩) hlt).trans h2, h3.mono hb⟩
theorem RwSl.mono {w w' : World} {a : Option Addr} {n cap : Nat} {A : List (List Int)} (h : RwSl w a n cap A) (hb : Below w.heap.size w w') : RwSl w' a n cap A :=
  ⟨h.1, h.2.mono hb.size fun _ _ _ hlt he => he.mono hb hlt⟩
theorem FrSl.mono {w w' : World} {a : Option Addr} {n cap : Nat} {F : List Fr} (h : FrSl w a n cap F) (hb : Below w.heap.size w w') : FrSl w' a n cap F :=
  ⟨h.1, h.2.mono hb.size fun _ b o hlt he => ⟨(hb.cell (p := ⟨b, o, none⟩) hlt).trans he.1, (hb.cell (p := ⟨b, o + 1, none⟩) hlt).trans he.2⟩⟩

/-- Where a slice of acts leads, if it is not empty. -/
theorem AcSl.at {w : World} {a : Option Addr} {n cap : Nat} {A : List Ac} (h : AcSl w a n cap A) (hn : 0 < n) :
    ∃ b off, a = some ⟨b, off, none⟩ ∧ b < w.heap.size ∧ ∀ i, i < n → AcEl w A i b (off + i * 2) := h.2.at hn
theorem A2Sl.at {w : World} {a : Option Addr} {n cap : Nat} {A : List (List Ac)} (h : A2Sl w a n cap A) (hn : 0 < n) :
    ∃ b off, a = some ⟨b, off, none⟩ ∧ b < w.heap.size ∧ ∀ i, i < n → A2El w A i b (off + i) := by
  obtain ⟨b, off, h1, h2, h3⟩ := h.2.at hn
  exact ⟨b, off, h1, h2, fun i hi => by have := h3 i hi; rwa [Nat.mul_one] at this⟩
theorem RwSl.at {w : World} {a : Option Addr} {n cap : Nat} {A : List (List Int)} (h : RwSl w a n cap A) (hn : 0 < n) :
    ∃ b off, a = some ⟨b, off, none⟩ ∧ b < w.heap.size ∧ ∀ i, i < n → RwEl w A i b (off + i) := by
  obtain ⟨b, off, h1, h2, h3⟩ := h.2.at hn
  exact ⟨b, off, h1, h2, fun i hi => by have := h3 i hi; rwa [Nat.mul_one] at this⟩
theorem FrSl.at {w : World} {a : Option Addr} {n cap : Nat} {F : List Fr} (h : FrSl w a n cap F) (hn : 0 < n) :
    ∃ b off, a = some ⟨b, off, none⟩ ∧ b < w.heap.size ∧ ∀ i, i < n → FrEl w F i b (off + i * 2) := h.2.at hn
theorem Sl.at {w : World} {a : Option Addr} {n cap : Nat} {l : List Int} (h : Sl w a n cap l) (hn : 0 < n) :
    ∃ b off, a = some ⟨b, off, none⟩ ∧ b < w.heap.size ∧ ∀ i, i < n → w.cell? ⟨b, off + i, none⟩ = some (.int .i64 (nth l i)) := by
  rcases h.parts3 with ⟨_, h, _⟩ | ⟨_, _, h, _⟩ | h
  · omega
  · omega
  · exact h
theorem Sl.cap {w : World} {a : Option Addr} {n cap : Nat} {l : List Int} (h : Sl w a n cap l) : n ≤ cap ∧ cap ≤ maxLen := ⟨h.2.1, h.2.2.1⟩
theorem SlG.cap {w : World} {sz : Nat} {a : Option Addr} {n cap : Nat} {El : Nat → Nat → Nat → Prop} (h : SlG w sz a n cap El) : n ≤ cap ∧ cap ≤ maxLen := ⟨h.1, h.2.1⟩

/-- The world's value. -/
abbrev wv (a b : Int) (x : Option Addr) (n c : Nat) : Value := .agg #[.int .i64 a, .int .i64 b, .slice x n c]
abbrev av (g : Int) (x : Option Addr) (n c : Nat) : Value := .agg #[.int .i64 g, .slice x n c]
abbrev pv (x : Option Addr) (n c : Nat) (d : Int) : Value := .agg #[.slice x n c, .int .i64 d]
abbrev fv (x : Fr) : Value := .agg #[.int .i64 x.n, .int .i64 x.d]
/-- The sum. -/
def isum : List Int → Int
  | [] => 0
  | x :: l => x + isum l
end Go.Proofs.YtiapngmallfelaaDoor
