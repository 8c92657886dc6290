/- arcs, plain: the points of a plane; a map keyed by triples; append of one element. -/
import Derived.Test.YtiapngmallfelaaFnc
import Derived.Maps.OwnOps
namespace Go.Proofs.Ytiapngmallfelaa
open Go.RowKit
open Go.Maps
set_option linter.unusedSimpArgs false

theorem wp_app1 {o : Oper} {a : Act} {K : Act → World → Prop} {Q : Exit → Act → World → Prop} {w : World} (s x : Operand) (t : TypeId)
    (ho : o.op = .call { callee := .builtin .append, args := #[s, x], argTypes := #[t, t] }) {e size bytes : Nat} {z : Value} (ht : Try.prog.underlying t = some (.slice e))
    (hinfo : (Try.prog.info? e).map (fun i => (i.zero, i.size, i.bytes)) = some (some z, size, bytes)) (hzs : z.cells.size = size) (hsz : 0 < size)
    (base : Nat) (v : Value) (n : Nat) (xs : List Value) (hs : a.eval s = v) (hown : w.ownsRow base e size v n xs)
    (p : Nat) (cs : Array Value) (hx : a.eval x = .slice (some ⟨p, 0, none⟩) 1 1) (hp : w.heap[p]? = some (.cells cs e (0, 0))) (hcs : cs.size = size) (hone : ∀ u ∈ cs.toList, u.oneCell' = true)
    (hb : (n + 1) * bytes ≤ 1000000000000) (hn : n ≤ 1000000000000) (hbase : base ≤ w.heap.size)
    (h : ∀ v' w', w'.ownsRow base e size v' (n + 1) (xs ++ cs.toList) → w.grownBy w' v.ownBlock → K (a.put o.dst v') w') : o.wp Try.prog a w K Q := by
  obtain ⟨i0, hi, hz0, hz1, hz2⟩ := info_parts hinfo
  refine wp_append_own w s x t ho base e i0 z size bytes ht hi hz0 hz1 hz2 hzs hsz v n xs hs hown ⟨p, 0, none⟩ 1 1 cs.toList hx (by simp; omega) ?_ hone (by unfold maxLen; omega) (by omega) hbase (fun v' w' h1 h2 _ => h v' w' h1 h2)
  intro j u hj
  rw [show (⟨p, 0, none⟩ : Addr).add j = ⟨p, j, none⟩ by unfold Addr.add; split <;> simp_all, cells_at hp]
  simpa using hj
theorem wpList_app1 {ops : Array Oper} {rest : List Oper} {o : Oper} {a : Act} {Q : Exit → Act → World → Prop} {w : World} (hgd : o.guard = none) (s x : Operand) (t : TypeId)
    (ho : o.op = .call { callee := .builtin .append, args := #[s, x], argTypes := #[t, t] }) {e size bytes : Nat} {z : Value} (ht : Try.prog.underlying t = some (.slice e))
    (hinfo : (Try.prog.info? e).map (fun i => (i.zero, i.size, i.bytes)) = some (some z, size, bytes)) (hzs : z.cells.size = size) (hsz : 0 < size)
    (base : Nat) (v : Value) (n : Nat) (xs : List Value) (hs : a.eval s = v) (hown : w.ownsRow base e size v n xs)
    (p : Nat) (cs : Array Value) (hx : a.eval x = .slice (some ⟨p, 0, none⟩) 1 1) (hp : w.heap[p]? = some (.cells cs e (0, 0))) (hcs : cs.size = size) (hone : ∀ u ∈ cs.toList, u.oneCell' = true)
    (hb : (n + 1) * bytes ≤ 1000000000000) (hn : n ≤ 1000000000000) (hbase : base ≤ w.heap.size)
    (h : ∀ v' w', w'.ownsRow base e size v' (n + 1) (xs ++ cs.toList) → w.grownBy w' v.ownBlock → wpList Try.prog ops Q rest (a.put o.dst v') w') : wpList Try.prog ops Q (o :: rest) a w :=
  wpList_plain hgd fun _ hK => wp_app1 s x t ho ht hinfo hzs hsz base v n xs hs hown p cs hx hp hcs hone hb hn hbase fun v' w' h2 h3 => hK _ _ (h v' w' h2 h3)
theorem infoTr : (Try.prog.info? 90).map (fun i => (i.zero, i.size, i.bytes)) = some (some (.agg #[.int .i64 0, .int .i64 0, .int .i64 0]), 3, 24) := by kernel_rfl

/-! ### triples -/
def trN (p n : Nat) : Nat × Nat × Nat := (n / p / p, n / p % p, n % p)
def firstN (x : Nat × Nat × Nat) : Nat := if x.1 ≠ 0 then x.1 else if x.2.1 ≠ 0 then x.2.1 else x.2.2
def lowN (p : Nat) (x : Nat × Nat × Nat) : Nat × Nat × Nat := (x.1 * firstN x % p, x.2.1 * firstN x % p, x.2.2 * firstN x % p)
def isLow (x : Nat × Nat × Nat) : Bool := firstN x == 1
theorem tr_in {p n : Nat} (hp : p = 2 ∨ p = 3) (hn : n < p * p * p) : In3 p (trN p n) := by
  unfold In3 trN
  rcases hp with rfl | rfl
  · refine ⟨?_, ?_, ?_⟩ <;> dsimp only <;> omega
  · refine ⟨?_, ?_, ?_⟩ <;> dsimp only <;> omega
theorem tr_ne {p n : Nat} (hp : p = 2 ∨ p = 3) (hn : 1 ≤ n) : firstN (trN p n) ≠ 0 := by
  unfold firstN trN
  dsimp only
  rcases hp with rfl | rfl
  · split
    · assumption
    · split
      · assumption
      · omega
  · split
    · assumption
    · split
      · assumption
      · omega
theorem first_lt {p : Nat} {x : Nat × Nat × Nat} (h : In3 p x) : firstN x < p := by
  obtain ⟨h1, h2, h3⟩ := h
  unfold firstN
  split
  · exact h1
  · split
    · exact h2
    · exact h3
theorem alowT_go (w : World) (pk p : Nat) (x : Nat × Nat × Nat) (hkl : pk < w.heap.size) (hk : w.cell? ⟨pk, 0, none⟩ = some (.int .i64 p)) (hp : p = 2 ∨ p = 3) (hx : In3 p x) (h0 : firstN x ≠ 0) :
    Calls Try.prog 70 #[.pointer (some ⟨pk, 0, none⟩), T3N x] w fun e w' => e = .returned (T3N (lowN p x)) ∧ Below w.heap.size w w' := by
  obtain ⟨a, b, c⟩ := x
  have hf := first_lt hx
  obtain ⟨h1, h2, h3⟩ := hx
  dsimp only at h1 h2 h3
  unfold lowN
  generalize hF : firstN (a, b, c) = f at *
  unfold firstN at hF
  dsimp only at hF
  by_cases ha : a = 0
  · rw [if_neg (by simpa using ha)] at hF
    by_cases hb : b = 0
    · rw [if_neg (by simpa using hb)] at hF
      exact alow_go w pk p a b c 2 f hkl hk hp h1 h2 h3 (by omega) (fun j hj => by
        have : j = 0 ∨ j = 1 := by omega
        rcases this with rfl | rfl
        · show (a : Int) = 0; omega
        · show (b : Int) = 0; omega) (by show (c : Int) = f; omega) ⟨by omega, hf⟩
    · rw [if_pos hb] at hF
      exact alow_go w pk p a b c 1 f hkl hk hp h1 h2 h3 (by omega) (fun j hj => by
        obtain rfl : j = 0 := by omega
        show (a : Int) = 0; omega) (by show (b : Int) = f; omega) ⟨by omega, hf⟩
  · rw [if_pos ha] at hF
    exact alow_go w pk p a b c 0 f hkl hk hp h1 h2 h3 (by omega) (fun j hj => by omega) (by show (a : Int) = f; omega) ⟨by omega, hf⟩
theorem low_is {p : Nat} {x : Nat × Nat × Nat} (hp : p = 2 ∨ p = 3) (hx : In3 p x) (h0 : firstN x ≠ 0) : decide (lowN p x = x) = isLow x := by
  obtain ⟨a, b, c⟩ := x
  obtain ⟨h1, h2, h3⟩ := hx
  dsimp only at h1 h2 h3
  rcases hp with rfl | rfl
  · have h : ∀ a b c : Fin 2, firstN (a.val, b.val, c.val) ≠ 0 → decide (lowN 2 (a.val, b.val, c.val) = (a.val, b.val, c.val)) = isLow (a.val, b.val, c.val) := by decide
    exact h ⟨a, h1⟩ ⟨b, h2⟩ ⟨c, h3⟩ h0
  · have h : ∀ a b c : Fin 3, firstN (a.val, b.val, c.val) ≠ 0 → decide (lowN 3 (a.val, b.val, c.val) = (a.val, b.val, c.val)) = isLow (a.val, b.val, c.val) := by decide
    exact h ⟨a, h1⟩ ⟨b, h2⟩ ⟨c, h3⟩ h0
/-! ### the points below n; their numbers -/
def ptsTo (p : Nat) : Nat → List (Nat × Nat × Nat)
  | 0 => []
  | n + 1 => if 1 ≤ n ∧ isLow (trN p n) = true then ptsTo p n ++ [trN p n] else ptsTo p n
def ptsP (p : Nat) : List (Nat × Nat × Nat) := ptsTo p (p * p * p)
def ptP (p i : Nat) : Nat × Nat × Nat := (ptsP p).getD i (0, 0, 0)
theorem pts_len {p : Nat} : ∀ n, (ptsTo p n).length ≤ n
  | 0 => Nat.le_refl _
  | n + 1 => by
    have ih := pts_len (p := p) n
    show (if _ then _ else _ : List _).length ≤ _
    split
    · rw [List.length_append]; simp; omega
    · omega
def cellsT (L : List (Nat × Nat × Nat)) : List Value := L.flatMap fun x => [.int .i64 (x.1 : Int), .int .i64 (x.2.1 : Int), .int .i64 (x.2.2 : Int)]
theorem cellsT_snoc (L : List (Nat × Nat × Nat)) (x : Nat × Nat × Nat) : cellsT (L ++ [x]) = cellsT L ++ (#[.int .i64 (x.1 : Int), .int .i64 (x.2.1 : Int), .int .i64 (x.2.2 : Int)] : Array Value).toList := by
  unfold cellsT; rw [List.flatMap_append]; rfl
theorem laidOutT : laidOutB Try.prog = true := by kernel_rfl
theorem lit_of {o : Option Lit} (h : o.isSome = true) : o = some (o.getD (.bool false)) := by
  cases o with
  | none => cases h
  | some x => rfl
theorem keyT : Keyed Try.prog 90 := Keyed.of_law (deep_law_laid laidOutT (m := 2) (by omega) (of_decide_eq_true (by kernel_rfl)) (by kernel_rfl) (by kernel_rfl))
noncomputable def klT (x : Nat × Nat × Nat) : Lit := (keyOf Try.prog 90 (T3N x)).getD (.bool false)
theorem klT_is {x : Nat × Nat × Nat} (h : In3 3 x) : keyOf Try.prog 90 (T3N x) = some (klT x) := by
  obtain ⟨a, b, c⟩ := x
  obtain ⟨h1, h2, h3⟩ := h
  dsimp only at h1 h2 h3
  have ha : a = 0 ∨ a = 1 ∨ a = 2 := by omega
  have hb : b = 0 ∨ b = 1 ∨ b = 2 := by omega
  have hc : c = 0 ∨ c = 1 ∨ c = 2 := by omega
  unfold klT
  rcases ha with rfl | rfl | rfl <;> rcases hb with rfl | rfl | rfl <;> rcases hc with rfl | rfl | rfl <;> exact lit_of (by kernel_rfl)
end Go.Proofs.Ytiapngmallfelaa
