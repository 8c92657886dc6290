/- Walks: arcs: read. -/
import Derived.Test.YtiapngmallfelaaFne
import Derived.Test.YtiapngmallfelaaHe
namespace Go.Proofs.Ytiapngmallfelaa
open Go.RowKit
open Go.Maps
set_option linter.unusedSimpArgs false

/-- A plane, while it is read. -/
def RdSt (w wr : World) (p n : Nat) : Prop := ∃ v, wr.heap[w.heap.size + 1 + 1]? = some (.cells #[.int .i64 (p : Int), v, .map (some (w.heap.size + 1))] 88 (0, 0)) ∧ wr.heap[w.heap.size + 1 + 1 + 1]? = some (.cells #[.pointer (some ⟨w.heap.size + 1 + 1, 0, none⟩)] 66 (0, 0)) ∧
  wr.ownsRow (w.heap.size + 1 + 1 + 1 + 1) 90 3 v (ptsTo p n).length (cellsT (ptsTo p n)) ∧ wr.ownsMap Try.prog 90 (plainElem Try.prog 3) (w.heap.size + 1) n (dM p n) ∧ Below w.heap.size w wr
theorem step_app1 {ops : Array Oper} {o : Oper} {a : Act} {K : Act → World → Prop} {Q : Exit → Act → World → Prop} {E : Prop} {w : World} (hgd : o.guard = none) (s x : Operand) (t : TypeId)
    (ho : o.op = .call { callee := .builtin .append, args := #[s, x], argTypes := #[t, t] }) {e size bytes : Nat} {z : Value} (ht : Try.prog.underlying t = some (.slice e))
    (hinfo : (Try.prog.info? e).map (fun i => (i.zero, i.size, i.bytes)) = some (some z, size, bytes)) (hzs : z.cells.size = size) (hsz : 0 < size)
    (base : Nat) (v : Value) (n : Nat) (xs : List Value) (hs : a.eval s = v) (hown : w.ownsRow base e size v n xs)
    (p : Nat) (cs : Array Value) (hx : a.eval x = .slice (some ⟨p, 0, none⟩) 1 1) (hp : w.heap[p]? = some (.cells cs e (0, 0))) (hcs : cs.size = size) (hone : ∀ u ∈ cs.toList, u.oneCell' = true)
    (hb : (n + 1) * bytes ≤ 1000000000000) (hn : n ≤ 1000000000000) (hbase : base ≤ w.heap.size)
    (h : ∀ v' w', w'.ownsRow base e size v' (n + 1) (xs ++ cs.toList) → w.grownBy w' v.ownBlock → K (a.put o.dst v') w') :
    if Region.wanted o (yielded ops a.tmps) = true then Oper.wp Try.prog o a w K Q else E := by
  rw [if_pos (by simp [Region.wanted, hgd])]
  exact wp_app1 s x t ho ht hinfo hzs hsz base v n xs hs hown p cs hx hp hcs hone hb hn hbase h
theorem own_cells {w : World} {base e n c size : Nat} {a : Option Addr} {xs : List Value} (h : w.ownsRow base e size (.slice a n c) n xs) (hn : 0 < n) :
    ∃ g, a = some ⟨g, 0, none⟩ ∧ base ≤ g ∧ g < w.heap.size ∧ n ≤ c ∧ c ≤ maxLen ∧ (∀ j u, xs[j]? = some u → w.cell? ⟨g, j, none⟩ = some u) ∧ (∀ j, w.frozen? ⟨g, j, none⟩ = false) ∧ ∃ cur, w.heap[g]? = some (.cells cur e (0, 0)) := by
  have hcells := fun g => h.cells (g := g)
  rcases h.2 with ⟨e1, h0⟩ | ⟨g, cap, cur, e1, hb, hg, hnc, hc, hs, ht⟩
  · omega
  · injection e1 with e2 e3 e4
    subst e2 e4
    refine ⟨g, rfl, hb, lt_of_block hg, hnc, hc, fun j u hu => ?_, free_at hg, cur, hg⟩
    have := hcells g rfl j u hu
    rwa [show (⟨g, 0, none⟩ : Addr).add j = ⟨g, j, none⟩ by unfold Addr.add; split <;> simp_all] at this

theorem cellsT_at : ∀ (L : List (Nat × Nat × Nat)) (i : Nat), i < L.length → (cellsT L)[i * 3]? = some (.int .i64 ((L.getD i (0, 0, 0)).1 : Int)) ∧ (cellsT L)[i * 3 + 1]? = some (.int .i64 ((L.getD i (0, 0, 0)).2.1 : Int)) ∧ (cellsT L)[i * 3 + 2]? = some (.int .i64 ((L.getD i (0, 0, 0)).2.2 : Int))
  | [], i, h => by simp at h
  | x :: L, 0, _ => ⟨rfl, rfl, rfl⟩
  | x :: L, i + 1, h => by
    have ih := cellsT_at L i (by simpa using h)
    have e : cellsT (x :: L) = .int .i64 (x.1 : Int) :: .int .i64 (x.2.1 : Int) :: .int .i64 (x.2.2 : Int) :: cellsT L := rfl
    rw [e, show (i + 1) * 3 = i * 3 + 1 + 1 + 1 by omega, show i * 3 + 1 + 1 + 1 + 1 = i * 3 + 1 + 1 + 1 + 1 from rfl]
    simpa using ih
theorem own_keepB {w w' : World} {base e size n : Nat} {v : Value} {xs : List Value} (h : w.ownsRow base e size v n xs) (hk : ∀ b, v.ownBlock = some b → w'.heap[b]? = w.heap[b]?) : w'.ownsRow base e size v n xs := by
  obtain ⟨h1, h2⟩ := h
  refine ⟨h1, ?_⟩
  rcases h2 with hn | ⟨g, cap, cur, rfl, hb, hg, rest⟩
  · exact .inl hn
  · exact .inr ⟨g, cap, cur, rfl, hb, (hk g rfl).trans hg, rest⟩
theorem grown_put {w : World} {p i : Nat} (v : Value) : w.grownBy (w.setCell ⟨p, i, none⟩ v) (some p) :=
  ⟨rfl, rfl, rfl, by simp [World.setCell], fun k hk hne => Below.heap_setCell _ _ _ _ (by rintro rfl; exact hne rfl)⟩
theorem eq_id {α : Type} {a b : α} (h : a = b) : a = b := h
theorem eqlow {p : Nat} {x : Nat × Nat × Nat} (hp : p = 2 ∨ p = 3) (hx : In3 p x) (h0 : firstN x ≠ 0) (w : World) : (Op.equalIn 10000 90 (T3N (lowN p x)) (T3N x)).run Try.prog w = .ok (isLow x) w := by
  obtain ⟨a, b, c⟩ := x
  obtain ⟨h1, h2, h3⟩ := hx
  dsimp only at h1 h2 h3
  rcases hp with rfl | rfl
  · have ha : a = 0 ∨ a = 1 := by omega
    have hb : b = 0 ∨ b = 1 := by omega
    have hc : c = 0 ∨ c = 1 := by omega
    rcases ha with rfl | rfl <;> rcases hb with rfl | rfl <;> rcases hc with rfl | rfl <;> first | exact absurd rfl h0 | exact eq_id (by kernel_rfl)
  · have ha : a = 0 ∨ a = 1 ∨ a = 2 := by omega
    have hb : b = 0 ∨ b = 1 ∨ b = 2 := by omega
    have hc : c = 0 ∨ c = 1 ∨ c = 2 := by omega
    rcases ha with rfl | rfl | rfl <;> rcases hb with rfl | rfl | rfl <;> rcases hc with rfl | rfl | rfl <;> first | exact absurd rfl h0 | exact eq_id (by kernel_rfl)
set_option maxRecDepth 100000 in
set_option maxHeartbeats 4000000 in
theorem aread_go (w : World) (p : Nat) (a : Option Addr) (n cap : Nat) (l : List Int) (hs : Sl w a n cap l) (hp : p = 2 ∨ p = 3) :
    Calls Try.prog 47 #[.int .i64 (p : Int), .slice a n cap] w fun e w' => ∃ pk, e = .returned (.tuple #[.pointer (some ⟨pk, 0, none⟩), .bool (l.all (inB (ptsP p).length))]) ∧ PlaneAt w' pk p ∧ Below w.heap.size w w' := by
  have hmm := @run_makeMap Try.prog
  have hsl : Sl (w.alloc (.cells #[.int .i64 2, .int .i64 3, .int .i64 5, .int .i64 7] 3)) (some ⟨w.heap.size, 0, none⟩) 4 4 [2, 3, 5, 7] := by
    refine ⟨rfl, Nat.le_refl _, by unfold maxLen; omega, .inr (.inr ⟨_, 0, rfl, by simp, fun j hj => ?_⟩)⟩
    have h := new_at w (.cells #[.int .i64 2, .int .i64 3, .int .i64 5, .int .i64 7] 3)
    have : j = 0 ∨ j = 1 ∨ j = 2 ∨ j = 3 := by omega
    rcases this with rfl | rfl | rfl | rfl
    · exact cell_of h 0 rfl
    · exact cell_of h 1 rfl
    · exact cell_of h 2 rfl
    · exact cell_of h 3 rfl
  have HCT := Lib.hid (show Calls Try.prog 69 #[.slice (some ⟨w.heap.size, 0, none⟩) 4 4, .int .i64 (p : Int)] (w.alloc (.cells #[.int .i64 2, .int .i64 3, .int .i64 5, .int .i64 7] 3)) fun e w' => e = .returned (.bool true) ∧ (w.alloc (.cells #[.int .i64 2, .int .i64 3, .int .i64 5, .int .i64 7] 3)) = w' from by
    rcases hp with rfl | rfl
    · exact contains_hit _ _ 4 4 0 _ _ hsl (by omega) (by omega) (fun j hj => by omega) rfl
    · exact contains_hit _ _ 4 4 1 _ _ hsl (by omega) (by omega) (fun j hj => by obtain rfl : j = 0 := (by omega); decide) rfl)
  clear hsl
  have HS := Lib.hid hs
  have hcap : n ≤ cap ∧ cap ≤ maxLen := ⟨hs.2.1, hs.2.2.1⟩
  unfold maxLen at hcap
  clear hs
  go_enter Try.func47, Try.ntmps47
  go_wp2_with fail
  refine HCT.out.mono ?_
  rintro e w' ⟨rfl, rfl⟩
  go_wp2
  obtain ⟨V, hV⟩ : ∃ V, (((w.alloc (.cells #[.int .i64 2, .int .i64 3, .int .i64 5, .int .i64 7] 3)).alloc (.map #[] 0)).alloc (.cells #[.int .i64 (p : Int), .slice none 0 0, .map (some (w.heap.size + 1))] 88)).alloc (.cells #[.pointer (some ⟨w.heap.size + 1 + 1, 0, none⟩)] 66) = V := ⟨_, rfl⟩
  have HR0 := Lib.hid (show RdSt w V p 1 by
    rw [← hV]
    refine ⟨.slice none 0 0, ?_, ?_, ?_, ?_, bal (bal (bal (bal (Below.refl _ _) _) _) _) _⟩
    · have h := new_at ((w.alloc (.cells #[.int .i64 2, .int .i64 3, .int .i64 5, .int .i64 7] 3)).alloc (.map #[] 0)) (.cells #[.int .i64 (p : Int), .slice none 0 0, .map (some (w.heap.size + 1))] 88)
      exact (Below.heap_alloc _ _ _ (by simp)).trans (by simpa using h)
    · have h := new_at (((w.alloc (.cells #[.int .i64 2, .int .i64 3, .int .i64 5, .int .i64 7] 3)).alloc (.map #[] 0)).alloc (.cells #[.int .i64 (p : Int), .slice none 0 0, .map (some (w.heap.size + 1))] 88)) (.cells #[.pointer (some ⟨w.heap.size + 1 + 1, 0, none⟩)] 66)
      simpa using h
    · exact World.ownsRow_nil _ _ _ _
    · have h := World.ownsMap_made (w.alloc (.cells #[.int .i64 2, .int .i64 3, .int .i64 5, .int .i64 7] 3)) Try.prog 90 (plainElem (H := Unit) Try.prog 3)
      have h2 := (h.alloc (.cells #[.int .i64 (p : Int), .slice none 0 0, .map (some (w.heap.size + 1))] 88)).alloc (.cells #[.pointer (some ⟨w.heap.size + 1 + 1, 0, none⟩)] 66)
      simp only [World.size_alloc] at h2
      exact h2.mono (by omega))
  rw [hV]
  have hne : ¬ (p : Int) = 0 := by omega
  obtain ⟨P2, hP2⟩ : ∃ z, p * p = z := ⟨_, rfl⟩
  obtain ⟨P3, hP3⟩ : ∃ z, P2 * p = z := ⟨_, rfl⟩
  have hP : P2 ≤ 9 ∧ P3 ≤ 27 ∧ 2 ≤ P3 := by rcases hp with rfl | rfl <;> omega
  have k1 : IntKind.i64.wrap ((p : Int) * (p : Int)) = (P2 : Int) := by
    have e : (p : Int) * (p : Int) = (P2 : Int) := by rw [← hP2]; simp
    rw [e, IntWalk.i64_left]; exact IntWalk.wrap64_in _ (by omega)
  have k2 : IntKind.i64.wrap ((P2 : Int) * (p : Int)) = (P3 : Int) := by
    have e : (P2 : Int) * (p : Int) = (P3 : Int) := by rw [← hP3]; simp
    rw [e, IntWalk.i64_left]; exact IntWalk.wrap64_in _ (by omega)
  have HPE := Lib.hid (show p * p * p = P3 by rw [hP2, hP3])
  clear hV hP2 hP3 hmm
  go_loopw [7] (fun t wr => ∃ n : Nat, 1 ≤ n ∧ n ≤ P3 ∧ t = .int .i64 n ∧ Hid (RdSt w wr p n)) (fun t _ => P3 - (intOf t).toNat)
  case atStart => exact ⟨1, by omega, by omega, rfl, HR0⟩
  case round =>
    clear HR0
    obtain ⟨i, hi1, hi, rfl, HR⟩ := hrel
    by_cases hli : i < P3
    · have HIN := Lib.hid (tr_in hp (n := i) (by rw [HPE.out]; exact hli))
      have HNE := Lib.hid (tr_ne (n := i) hp hi1)
      obtain ⟨d1, hd1⟩ : ∃ z, i / p = z := ⟨_, rfl⟩
      obtain ⟨x0, hx0⟩ : ∃ z, d1 / p = z := ⟨_, rfl⟩
      obtain ⟨x1, hx1⟩ : ∃ z, d1 % p = z := ⟨_, rfl⟩
      obtain ⟨x2, hx2⟩ : ∃ z, i % p = z := ⟨_, rfl⟩
      have HTR := Lib.hid (show trN p i = (x0, x1, x2) by unfold trN; rw [hd1, hx0, hx1, hx2])
      rw [HTR.out] at HIN HNE
      have hdb : d1 ≤ 27 ∧ x0 ≤ 27 ∧ x1 ≤ 27 ∧ x2 ≤ 27 := by
        have := Nat.div_le_self i p
        have := Nat.div_le_self d1 p
        have := Nat.mod_le d1 p
        have := Nat.mod_le i p
        omega
      have q1' : (i : Int) / (p : Int) = (d1 : Int) := by rw [← hd1]; simp
      have q2' : (d1 : Int).tdiv (p : Int) = (x0 : Int) := by rw [Int.tdiv_eq_ediv_of_nonneg (by omega), ← hx0]; simp
      have Q3 := Lib.hid (show (d1 : Int).tmod (p : Int) = (x1 : Int) by rw [Int.tmod_eq_emod_of_nonneg (by omega), ← hx1]; simp)
      have Q4 := Lib.hid (show (i : Int) % (p : Int) = (x2 : Int) by rw [← hx2]; simp)
      have Q1 := Lib.hid (show wrap64 ((i : Int) / (p : Int)) = (d1 : Int) by rw [q1']; exact IntWalk.wrap64_in _ (by omega))
      have Q2 := Lib.hid (show wrap64 ((d1 : Int).tdiv (p : Int)) = (x0 : Int) by rw [q2']; exact IntWalk.wrap64_in _ (by omega))
      clear q1' q2'
      clear hd1 hx0 hx1 hx2
      go_wp2
      go_region
      go_wp2
      rw [Q1.out, Q2.out, Q3.out, Q4.out]
      obtain ⟨v, hpl, hbk, hrow, hmap, hB⟩ := HR.out
      have HPL := Lib.hid hpl
      have HBK := Lib.hid hbk
      have HROW := Lib.hid hrow
      have HMAP := Lib.hid hmap
      have HB := Lib.hid hB
      have HNW := Lib.hid (show (wr.alloc (.cells #[.int .i64 (x0 : Int), .int .i64 (x1 : Int), .int .i64 (x2 : Int)] 90)).drew.heap[wr.heap.size]? = some (.cells #[.int .i64 (x0 : Int), .int .i64 (x1 : Int), .int .i64 (x2 : Int)] 90 (0, 0)) from new_at wr _)
      have HBT := Lib.hid (show Below wr.heap.size wr (wr.alloc (.cells #[.int .i64 (x0 : Int), .int .i64 (x1 : Int), .int .i64 (x2 : Int)] 90)).drew from (bal (Below.refl _ _) _).drew)
      clear hpl hbk hrow hmap hB Q1 Q2 Q3 Q4 HR
      generalize (wr.alloc (.cells #[.int .i64 (x0 : Int), .int .i64 (x1 : Int), .int .i64 (x2 : Int)] 90)).drew = T at *
      have HSX := Lib.hid (fun (w' : World) (hb : Below T.heap.size T w') => (show w'.cell? ⟨w.heap.size + 1 + 1 + 1, 0, none⟩ = some (.pointer (some ⟨w.heap.size + 1 + 1, 0, none⟩)) ∧ w'.cell? ⟨wr.heap.size, 0, none⟩ = some (.int .i64 (x0 : Int)) ∧ w'.cell? ⟨wr.heap.size, 1, none⟩ = some (.int .i64 (x1 : Int)) ∧ w'.cell? ⟨wr.heap.size, 2, none⟩ = some (.int .i64 (x2 : Int)) from
        have h1 := persist HBK.out (btr HBT.out hb)
        have h2 := persist HNW.out hb
        ⟨cell_of h1 0 rfl, cell_of h2 0 rfl, cell_of h2 1 rfl, cell_of h2 2 rfl⟩))
      have HPK := Lib.hid (fun (w' : World) (hb : Below T.heap.size T w') => (show w.heap.size + 1 + 1 < w'.heap.size ∧ w'.cell? ⟨w.heap.size + 1 + 1, 0, none⟩ = some (.int .i64 p) from
        have h1 := persist HPL.out (btr HBT.out hb)
        ⟨lt_of_block h1, cell_of h1 0 rfl⟩))
      have HLW := Lib.hid (fun (w' : World) (hb : Below T.heap.size T w') => alowT_go w' (w.heap.size + 1 + 1) p (x0, x1, x2) (HPK.out w' hb).1 (HPK.out w' hb).2 hp HIN.out HNE.out)
      have HEQ := Lib.hid (fun w' => eqlow hp HIN.out HNE.out w')
      have HLE := Lib.hid (show True from trivial)
      obtain ⟨⟨l0, l1, l2⟩, hlo⟩ : ∃ z, lowN p (x0, x1, x2) = z := ⟨_, rfl⟩
      rw [hlo] at HLW HEQ
      clear hlo
      have hD : Below T.heap.size T T.drew := (Below.refl _ _).drew
      obtain ⟨r0, r1, r2, r3⟩ := HSX.out _ hD
      have hz0 := (lt_of_block HNW.out)
      unfold T3N at HLW HEQ
      dsimp only at HLW HEQ
      obtain ⟨lb, hlb⟩ : ∃ z, isLow (x0, x1, x2) = z := ⟨_, rfl⟩
      have HLB := Lib.hid hlb
      rw [hlb] at HEQ
      clear hlb HLE
      refine wp_region_F (S := (fun w' => w'.cell? ⟨w.heap.size + 1 + 1 + 1, 0, none⟩ = some (.pointer (some ⟨w.heap.size + 1 + 1, 0, none⟩)) ∧ w'.cell? ⟨wr.heap.size, 0, none⟩ = some (.int .i64 (x0 : Int)) ∧ w'.cell? ⟨wr.heap.size, 1, none⟩ = some (.int .i64 (x1 : Int)) ∧ w'.cell? ⟨wr.heap.size, 2, none⟩ = some (.int .i64 (x2 : Int)))) 99 (by kernel_rfl) (HSX.out _ hD) (fun hHeld => ?_)
      refine wpAnyF_take (i := 0) (oi := _) (v := ?_) rfl (by kernel_rfl) (by kernel_rfl) (by kernel_rfl) (by kernel_rfl) (fun _ _ _ h => h) (Or.inl ⟨by rfl, ?_⟩) (by assumption) ?_
      rotate_left
      · intro w hSw
        (try dsimp only at hSw)
        go_simp
        all_goals with_reducible rfl
      (try simp only [Act.put, List.setIfInBounds_toArray, List.set_cons_zero, List.set_cons_succ])
      refine wpAnyF_take (i := 1) (oi := _) (v := ?_) rfl (by kernel_rfl) (by kernel_rfl) (by kernel_rfl) (by kernel_rfl) (fun _ _ _ h => h) (Or.inl ⟨by rfl, ?_⟩) (by assumption) ?_
      rotate_left
      · intro w hSw
        (try dsimp only at hSw)
        go_simp
        all_goals with_reducible rfl
      (try simp only [Act.put, List.setIfInBounds_toArray, List.set_cons_zero, List.set_cons_succ])
      refine wpAnyF_take (i := 3) (oi := _) (v := ?_) rfl (by kernel_rfl) (by kernel_rfl) (by kernel_rfl) (by kernel_rfl) (fun _ _ _ h => h) (Or.inl ⟨by rfl, ?_⟩) (by assumption) ?_
      rotate_left
      · intro w hSw
        (try dsimp only at hSw)
        go_simp
        all_goals with_reducible rfl
      (try simp only [Act.put, List.setIfInBounds_toArray, List.set_cons_zero, List.set_cons_succ])
      refine wpAnyF_one (i := 2) (o := _) (by kernel_rfl) rfl (fun K hK => ?_)
      go_simp
      refine (HLW.out _ hD).mono ?_
      rintro e w' ⟨rfl, hb⟩
      replace hD := btr hD hb
      clear hb
      refine hK.out _ _ (HSX.out _ hD) (fun hHeld => ?_)
      clear hK K
      (try simp only [Act.put, List.setIfInBounds_toArray, List.set_cons_zero, List.set_cons_succ])
      refine wpAnyF_one (i := 4) (o := _) (by kernel_rfl) rfl (fun K hK => ?_)
      go_simp
      rw [HEQ.out]
      go_simp
      refine hK.out _ _ (HSX.out _ hD) (fun hHeld => ?_)
      clear hK K
      (try simp only [Act.put, List.setIfInBounds_toArray, List.set_cons_zero, List.set_cons_succ])
      refine wpAnyF_end (by kernel_rfl) ?_
      have HBW := Lib.hid (btr HBT.out hD)
      have HWD := Lib.hid hD
      have hzx := lt_of_block (persist HNW.out hD)
      clear hD r0 r1 r2 r3
      cases lb with
      | false =>
        have HPT := Lib.hid (show ptsTo p (i + 1) = ptsTo p i by
          show (if _ then _ else _ : List _) = _
          rw [if_neg (fun h => by rw [HTR.out, HLB.out] at h; cases h.2)])
        have HDM := Lib.hid (show dM p (i + 1) = dM p i by
          show (if _ then _ else _ : DataW Unit) = _
          rw [if_neg (fun h => by rw [HTR.out, HLB.out] at h; cases h.2)])
        have HN := Lib.hid (show RdSt w w' p (i + 1) from ⟨v, persist HPL.out HBW.out, persist HBK.out HBW.out, by rw [HPT.out]; exact own_mono HROW.out HBW.out, by rw [HDM.out]; exact (own_map_mono HMAP.out HBW.out).mono (by omega), btr HB.out HBW.out⟩)
        clear hHeld
        go_wp2
        exact ⟨⟨i + 1, by omega, by omega, by go_num, HN⟩, by simp [intOf]; omega⟩
      | true =>
        obtain ⟨K, hK⟩ : ∃ K, (ptsTo p i).length = K := ⟨_, rfl⟩
        have HK := Lib.hid hK
        have hKi : K ≤ i := by rw [← hK]; exact pts_len i
        rw [hK] at HROW
        obtain ⟨va, vc, rfl⟩ := own_form HROW.out
        have hwf : (Lit.int .i64 (K : Int)).wf = true := WalkArith.wf_i64 (by omega)
        obtain ⟨wn, hrun, hown', hgrow⟩ := (own_map_mono HMAP.out HBW.out).drew.update keyT Try.underlying85 (by unfold maxLen; omega) (show keyOf Try.prog 90 (.agg #[.int .i64 (x0 : Int), .int .i64 (x1 : Int), .int .i64 (x2 : Int)]) = some (klT (x0, x1, x2)) from klT_is (x := (x0, x1, x2)) (by obtain ⟨h1, h2, h3⟩ := HIN.out; exact ⟨by omega, by omega, by omega⟩)) (plainElem_int Try.underlying3 hwf)
        have HDM := Lib.hid (show (dM p i).put (klT (x0, x1, x2)) (.lit (.int .i64 (K : Int))) = dM p (i + 1) by
          show _ = (if _ then _ else _ : DataW Unit)
          rw [if_pos ⟨hi1, by rw [HTR.out, HLB.out]⟩, HTR.out, HK.out])
        rw [HDM.out] at hown'
        have HMW := Lib.hid hown'
        have p1 := cell_of (persist HPL.out HBW.out) 1 rfl
        have p2 := cell_of (persist HPL.out HBW.out) 2 rfl
        have p3 := lt_of_block (persist HPL.out HBW.out)
        have p4 := lt_of_block (persist HBK.out HBW.out)
        obtain ⟨g0, g1, g2, g3⟩ := hHeld
        have HGB := Lib.hid (show ∀ b, b ≠ w.heap.size + 1 → b < w'.heap.size → wn.heap[b]? = w'.heap[b]? from fun b h1 h2 => hgrow.block b (by show b < w'.heap.size; exact h2) (by intro e; injection e with e; exact h1 e))
        have HGR := Lib.hid hgrow
        clear hown' hgrow hK hwf
        go_wp2
        go_region
        clear hrun
        have HPLN := Lib.hid ((HGB.out (w.heap.size + 1 + 1) (by omega) p3).trans (persist HPL.out HBW.out))
        have HBKN := Lib.hid ((HGB.out (w.heap.size + 1 + 1 + 1) (by omega) p4).trans (persist HBK.out HBW.out))
        have HXN := Lib.hid ((HGB.out wr.heap.size (by have := lt_of_block HPL.out; omega) hzx).trans (persist HNW.out HWD.out))
        have HRN := Lib.hid (show wn.ownsRow (w.heap.size + 1 + 1 + 1 + 1) 90 3 (.slice va K vc) K (cellsT (ptsTo p i)) by
          refine (own_mono HROW.out HBW.out).drew.kept HGR.out ?_
          cases hq : (Value.slice va K vc).ownBlock with
          | none => exact .inl rfl
          | some b =>
            refine .inr fun e => ?_
            have h1 := (HROW.out.lt b hq).1
            injection e with e
            omega)
        have HBN := Lib.hid ((btr HB.out HBW.out).drew.grown HGR.out (by show w.heap.size ≤ w'.heap.size; have := HB.out.size; have := HBW.out.size; omega) (fun j hj => by injection hj with e; omega))
        have hzn : w'.heap.size ≤ wn.heap.size := HGR.out.size
        clear p1 p2 g0 g1 g2 g3
        have HRA := Lib.hid (show ((wn.drew).alloc (.cells #[.int .i64 (x0 : Int), .int .i64 (x1 : Int), .int .i64 (x2 : Int)] 90)).ownsRow (w.heap.size + 1 + 1 + 1 + 1) 90 3 (.slice va K vc) K (cellsT (ptsTo p i)) from HRN.out.drew.alloc _)
        have HSA := Lib.hid (fun (w' : World) (hk : ∀ b, b < wn.heap.size → (Value.slice va K vc).ownBlock ≠ some b → w'.heap[b]? = wn.heap[b]?) => (show w'.cell? ⟨w.heap.size + 1 + 1 + 1, 0, none⟩ = some (.pointer (some ⟨w.heap.size + 1 + 1, 0, none⟩)) ∧ w'.cell? ⟨w.heap.size + 1 + 1, 1, none⟩ = some (.slice va K vc) ∧ w'.cell? ⟨wr.heap.size, 0, none⟩ = some (.int .i64 (x0 : Int)) ∧ w'.cell? ⟨wr.heap.size, 1, none⟩ = some (.int .i64 (x1 : Int)) ∧ w'.cell? ⟨wr.heap.size, 2, none⟩ = some (.int .i64 (x2 : Int)) from
          have hne : ∀ b, b < w.heap.size + 1 + 1 + 1 + 1 → (Value.slice va K vc).ownBlock ≠ some b := fun b hb hq => by have := (HROW.out.lt b hq).1; omega
          have hnx : (Value.slice va K vc).ownBlock ≠ some wr.heap.size := fun hq => by have := (HROW.out.lt _ hq).2; omega
          have h1 := (hk _ (by omega) (hne _ (by omega))).trans HBKN.out
          have h2 := (hk _ (by omega) (hne _ (by omega))).trans HPLN.out
          have h3 := (hk _ (by omega) hnx).trans HXN.out
          ⟨cell_of h1 0 rfl, cell_of h2 1 rfl, cell_of h3 0 rfl, cell_of h3 1 rfl, cell_of h3 2 rfl⟩))
        have HSB := Lib.hid (HSA.out wn.drew (fun b _ _ => rfl))
        have HSC := Lib.hid (HSA.out ((wn.drew).alloc (.cells #[.int .i64 (x0 : Int), .int .i64 (x1 : Int), .int .i64 (x2 : Int)] 90)) (fun b hb _ => Below.heap_alloc wn.drew _ b hb))
        go_wp2
        refine wp_region_F (S := (fun w' => w'.cell? ⟨w.heap.size + 1 + 1 + 1, 0, none⟩ = some (.pointer (some ⟨w.heap.size + 1 + 1, 0, none⟩)) ∧ w'.cell? ⟨w.heap.size + 1 + 1, 1, none⟩ = some (.slice va K vc) ∧ w'.cell? ⟨wr.heap.size, 0, none⟩ = some (.int .i64 (x0 : Int)) ∧ w'.cell? ⟨wr.heap.size, 1, none⟩ = some (.int .i64 (x1 : Int)) ∧ w'.cell? ⟨wr.heap.size, 2, none⟩ = some (.int .i64 (x2 : Int)))) 10 (by kernel_rfl) (HSB.out) (fun hHeld => ?_)
        refine wpAnyF_take (i := 0) (oi := _) (v := ?_) rfl (by kernel_rfl) (by kernel_rfl) (by kernel_rfl) (by kernel_rfl) (fun _ _ _ h => h) (Or.inl ⟨by rfl, ?_⟩) (by assumption) ?_
        rotate_left
        · intro w hSw
          (try dsimp only at hSw)
          go_simp
          all_goals with_reducible rfl
        (try simp only [Act.put, List.setIfInBounds_toArray, List.set_cons_zero, List.set_cons_succ])
        refine wpAnyF_take (i := 1) (oi := _) (v := ?_) rfl (by kernel_rfl) (by kernel_rfl) (by kernel_rfl) (by kernel_rfl) (fun _ _ _ h => h) (Or.inl ⟨by rfl, ?_⟩) (by assumption) ?_
        rotate_left
        · intro w hSw
          (try dsimp only at hSw)
          go_simp
          all_goals with_reducible rfl
        (try simp only [Act.put, List.setIfInBounds_toArray, List.set_cons_zero, List.set_cons_succ])
        refine wpAnyF_take (i := 2) (oi := _) (v := ?_) rfl (by kernel_rfl) (by kernel_rfl) (by kernel_rfl) (by kernel_rfl) (fun _ _ _ h => h) (Or.inl ⟨by rfl, ?_⟩) (by assumption) ?_
        rotate_left
        · intro w hSw
          (try dsimp only at hSw)
          go_simp
          all_goals with_reducible rfl
        (try simp only [Act.put, List.setIfInBounds_toArray, List.set_cons_zero, List.set_cons_succ])
        refine wpAnyF_take (i := 3) (oi := _) (v := ?_) rfl (by kernel_rfl) (by kernel_rfl) (by kernel_rfl) (by kernel_rfl) (fun _ _ _ h => h) (Or.inl ⟨by rfl, ?_⟩) (by assumption) ?_
        rotate_left
        · intro w hSw
          (try dsimp only at hSw)
          go_simp
          all_goals with_reducible rfl
        (try simp only [Act.put, List.setIfInBounds_toArray, List.set_cons_zero, List.set_cons_succ])
        refine wpAnyF_take (i := 4) (oi := _) (v := ?_) rfl (by kernel_rfl) (by kernel_rfl) (by kernel_rfl) (by kernel_rfl) (fun _ _ _ h => h) (Or.inl ⟨by rfl, ?_⟩) (by assumption) ?_
        rotate_left
        · intro w hSw
          (try dsimp only at hSw)
          go_simp
          all_goals with_reducible rfl
        (try simp only [Act.put, List.setIfInBounds_toArray, List.set_cons_zero, List.set_cons_succ])
        refine wpAnyF_take (i := 5) (oi := _) (v := ?_) rfl (by kernel_rfl) (by kernel_rfl) (by kernel_rfl) (by kernel_rfl) (fun _ _ _ h => h) (Or.inl ⟨by rfl, ?_⟩) (by assumption) ?_
        rotate_left
        · intro w hSw
          (try dsimp only at hSw)
          go_simp
          all_goals with_reducible rfl
        (try simp only [Act.put, List.setIfInBounds_toArray, List.set_cons_zero, List.set_cons_succ])
        refine wpAnyF_one (i := 6) (o := _) (by kernel_rfl) rfl (fun K hK => ?_)
        go_simp
        refine hK.out _ _ (HSC.out) (fun hHeld => ?_)
        clear hK K
        (try simp only [Act.put, List.setIfInBounds_toArray, List.set_cons_zero, List.set_cons_succ])
        refine wpAnyF_one (i := 7) (o := _) (by kernel_rfl) rfl (fun KK hK => ?_)
        refine step_app1 rfl _ _ 86 rfl Try.underlying86 infoTr rfl (by decide) (w.heap.size + 1 + 1 + 1 + 1) (.slice va K vc) K _ rfl HRA.out wn.heap.size #[.int .i64 (x0 : Int), .int .i64 (x1 : Int), .int .i64 (x2 : Int)] rfl (new_at wn.drew _) rfl (by simp [Value.oneCell']) (by omega) (by omega) (by simp; have := HBN.out.size; omega) ?_
        intro v6 w6 hown6 hgrow6
        obtain ⟨wa, wc, rfl⟩ := own_form hown6
        have HK6 := Lib.hid (show ∀ b, b < wn.heap.size → (Value.slice va K vc).ownBlock ≠ some b → w6.heap[b]? = wn.heap[b]? from fun b hb hne => (hgrow6.block b (by simp; omega) (fun e => hne e.symm)).trans (Below.heap_alloc wn.drew _ b hb))
        refine hK.out _ _ (HSA.out w6 HK6.out) (fun hHeld => ?_)
        clear hK KK
        (try simp only [Act.put, List.setIfInBounds_toArray, List.set_cons_zero, List.set_cons_succ])
        refine wpAnyF_one (i := 8) (o := _) (by kernel_rfl) rfl (fun K hK => ?_)
        go_simp
        refine hK.out _ _ (HSA.out w6 HK6.out) (fun hHeld => ?_)
        clear hK K
        (try simp only [Act.put, List.setIfInBounds_toArray, List.set_cons_zero, List.set_cons_succ])
        refine wpAnyF_one (i := 9) (o := _) (by kernel_rfl) rfl (fun K hK => ?_)
        go_simp
        refine hK.out _ _ (HSA.out w6 HK6.out) (fun hHeld => ?_)
        clear hK K
        (try simp only [Act.put, List.setIfInBounds_toArray, List.set_cons_zero, List.set_cons_succ])
        have hne4 : ∀ b, b < w.heap.size + 1 + 1 + 1 + 1 → (Value.slice va K vc).ownBlock ≠ some b := fun b hb hq => by have := (HROW.out.lt b hq).1; omega
        have HP6 := Lib.hid ((HK6.out (w.heap.size + 1 + 1) (by omega) (hne4 _ (by omega))).trans HPLN.out)
        have HBK6 := Lib.hid ((HK6.out (w.heap.size + 1 + 1 + 1) (by omega) (hne4 _ (by omega))).trans HBKN.out)
        clear hne4
        refine wpAnyF_last (o := _) (by kernel_rfl) rfl (by kernel_rfl) (fun K hK => ?_)
        have u1z := cell_of HP6.out 1 rfl
        have u2z := free_at HP6.out 1
        have u3z := lt_of_block HP6.out
        go_simp
        refine hK.out _ _ ?_
        clear hK K
        (try simp only [Act.put, List.setIfInBounds_toArray, List.set_cons_zero, List.set_cons_succ])
        have HPT := Lib.hid (show ptsTo p (i + 1) = ptsTo p i ++ [(x0, x1, x2)] by
          show (if _ then _ else _ : List _) = _
          rw [if_pos ⟨hi1, by rw [HTR.out, HLB.out]⟩, HTR.out])
        have HN := Lib.hid (show RdSt w (w6.setCell ⟨w.heap.size + 1 + 1, 1, none⟩ (.slice wa (K + 1) wc)) p (i + 1) from by
          have hb6 : Below w.heap.size w w6 := ((bal HBN.out.drew (.cells #[.int .i64 (x0 : Int), .int .i64 (x1 : Int), .int .i64 (x2 : Int)] 90))).grown hgrow6 (by have := HBN.out.size; simp; omega) (fun b hb => by have := (HROW.out.lt b hb).1; omega)
          have hmm : Value.ownBlock (.slice va K vc) ≠ some (w.heap.size + 1) := fun hq => by have := (HROW.out.lt _ hq).1; omega
          refine ⟨.slice wa (K + 1) wc, set_at HP6.out 1 _, (Below.heap_setCell _ _ _ _ (by show w.heap.size + 1 + 1 + 1 ≠ w.heap.size + 1 + 1; omega)).trans HBK6.out, ?_, ?_, hb6.setCell (by show w.heap.size ≤ w.heap.size + 1 + 1; omega) _⟩
          · rw [HPT.out, List.length_append, HK.out, cellsT_snoc]
            refine own_keepB hown6 (fun b hb => Below.heap_setCell _ _ _ _ ?_)
            have := (hown6.lt b hb).1
            show b ≠ w.heap.size + 1 + 1
            omega
          · have h1 := ((HMW.out.drew.alloc (.cells #[.int .i64 (x0 : Int), .int .i64 (x1 : Int), .int .i64 (x2 : Int)] 90)).kept hgrow6 (fun e => hmm e.symm))
            exact h1.kept (grown_put (p := w.heap.size + 1 + 1) (i := 1) (.slice wa (K + 1) wc)) (fun e => by injection e with e; omega))
        clear hown6 hgrow6 hHeld
        go_wp2
        first | exact ⟨⟨i + 1, by omega, by omega, by go_num, HN⟩, by simp [intOf]; omega⟩ | (go_roundw; case rel => (go_light; exact ⟨i + 1, by omega, by omega, by go_num, HN⟩); case measure => (simp [intOf]; omega))
    · obtain rfl : i = P3 := by omega
      obtain ⟨v, hpl, hbk, hrow, hmap, hB⟩ := HR.out
      have HPK := Lib.hid (show ptsTo p i = ptsP p by unfold ptsP; rw [HPE.out])
      have HDE := Lib.hid (show dM p i = dM p (p * p * p) by rw [HPE.out])
      rw [HPK.out] at hrow
      rw [HDE.out] at hmap
      have HLEN := Lib.hid (show (ptsP p).length = 7 ∨ (ptsP p).length = 13 by rcases hp with rfl | rfl; exact .inl pts2_len; exact .inr pts3_len)
      obtain ⟨va, vc, rfl⟩ := own_form hrow
      obtain ⟨g, rfl, hg1, hg2, hg3, hg4, hg5, _, _⟩ := own_cells hrow (by have := HLEN.out; omega)
      have HPA := Lib.hid (show PlaneAt wr (w.heap.size + 1 + 1) p from ⟨g, 0, vc, w.heap.size + 1, i, hpl, ⟨hg3, hg4⟩, hg2, fun j hj => by
        obtain ⟨c0, c1, c2⟩ := cellsT_at (ptsP p) j hj
        rw [Nat.zero_add]
        exact ⟨hg5 _ _ c0, hg5 _ _ c1, hg5 _ _ c2⟩, hmap⟩)
      have HB := Lib.hid hB
      have HCF := Lib.hid (rdcf_go wr.drew a n cap l (HS.out.mono (show Below w.heap.size w wr.drew from hB.drew)) (w.heap.size + 1 + 1 + 1) (w.heap.size + 1 + 1) p _ _ (ptsP p).length vc (some ⟨g, 0, none⟩) rfl hbk hpl)
      have e1 := cell_of hbk 0 rfl
      have e1d : wr.drew.cell? ⟨w.heap.size + 1 + 1 + 1, 0, none⟩ = _ := e1
      have e2 := lt_of_block hbk
      have hmf : ∀ (fn : Fn) (first cap : Array Value) (w : World), (Instr.makeFunc fn first cap).run Try.prog w = .ok (.func fn first cap) w := fun _ _ _ _ => rfl
      clear hpl hbk hrow hmap hB hg5 HR
      go_wp2
      go_region_held3 (fun w' => w'.cell? ⟨w.heap.size + 1 + 1 + 1, 0, none⟩ = some (.pointer (some ⟨w.heap.size + 1 + 1, 0, none⟩))) (first | exact e1d | go_keep)
        (first
          | ((with_reducible refine HCF.out.mono ?_); rintro e w' ⟨rfl, rfl⟩))
      go_wp2
      go_ret2
      exact ⟨_, by simp, HPA.out.mono (Below.refl _ _).drew, HB.out.drew⟩
end Go.Proofs.Ytiapngmallfelaa
