
/- Walks: Other, of the reference and of the program. -/
import Derived.Test.YtiapngmallfelaaRead
namespace Go.Proofs.Ytiapngmallfelaa
open Go.RowKit

theorem Sl.drew {w : World} {a : Option Addr} {n cap : Nat} {l : List Int} (h : Sl w a n cap l) : Sl w.drew a n cap l := h

/-! ### Other -/
def full (n : Nat) : Nat := 2 ^ n - 1
def othr (G : List Nat) : List Nat := (List.range G.length).map fun i => andn (andn (full G.length) (gn G i)) (2 ^ i)

theorem full_lt {n : Nat} (h : n ≤ 16) : full n < 65536 := by
  have : 2 ^ n ≤ 2 ^ 16 := Nat.pow_le_pow_right (by omega) h
  have := Nat.one_le_two_pow (n := n)
  unfold full; omega
theorem ints_take {L : List Nat} {k : Nat} (hk : k < L.length) : (ints L).take (k + 1) = (ints L).take k ++ [(gn L k : Int)] := by
  rw [List.take_succ_eq_append_getElem (by rw [ints_length]; exact hk)]; simp [ints, gn, hk]
theorem ints_all {L : List Nat} {k : Nat} (hk : L.length ≤ k) : (ints L).take k = ints L := List.take_of_length_le (by rw [ints_length]; exact hk)
theorem othr_length (G : List Nat) : (othr G).length = G.length := by simp [othr]
theorem othr_gn {G : List Nat} {k : Nat} (hk : k < G.length) : gn (othr G) k = andn (andn (full G.length) (gn G k)) (2 ^ k) := by simp [gn, othr, hk]
theorem own_grown {w wr w1 : World} {e size k : Nat} {v : Value} {xs : List Value} (hown : wr.ownsRow w.heap.size e size v k xs) (hb : Below w.heap.size w wr) (o : Obj) (hg : (wr.alloc o).grownBy w1 v.ownBlock) : Below w.heap.size w w1 :=
  (bal hb o).grown hg (bal hb o).size (fun j hj => (hown.lt j hj).1)
theorem ints_append (A B : List Nat) : ints (A ++ B) = ints A ++ ints B := by simp [ints]
theorem ints_one (x : Nat) : ints [x] = [(x : Int)] := rfl
theorem pow16 {k : Nat} (h : k < 16) : 2 ^ k < 65536 := by
  have : 2 ^ k < 2 ^ 16 := Nat.pow_lt_pow_right (by omega) h
  omega

theorem own_givesE {w w1 : World} {v : Value} {n : Nat} {L : List Int} {err : Int} (h : w1.ownsRow w.heap.size 3 1 v n (L.map (Value.int .i64))) (hb : Below w.heap.size w w1) : GivesSlE w L err (.returned (.tuple #[v, .int .i64 err])) w1 := by
  obtain ⟨a, cap, rfl⟩ := own_form h
  exact ⟨a, n, cap, rfl, h, hb⟩

theorem persist {w w' : World} {p : Nat} {o : Obj} (h : w.heap[p]? = some o) (hb : Below w.heap.size w w') : w'.heap[p]? = some o := by
  rw [hb.block p (lt_of_block h)]; exact h
theorem new_at (w : World) (o : Obj) : (w.alloc o).heap[w.heap.size]? = some o := by simp [heap_alloc_eq]

theorem drewB {w w' : World} (h : ∃ m, w' = w.drewN m) : Below w.heap.size w w' := by obtain ⟨m, rfl⟩ := h; exact drewN_below (Below.refl _ _)
theorem equal_same (w : World) (a c : Option Addr) (n p m q : Nat) (l : List Int) (hs : Sl w a n p l) (ht : Sl w c m q l) :
    Calls Try.prog 29 #[.slice a n p, .slice c m q] w fun e w' => e = .returned (.bool true) ∧ Below w.heap.size w w' :=
  (equal_go w a c n p m q l l hs ht).mono fun e w' ⟨he, hw⟩ => ⟨by simpa using he, drewB hw⟩

end Go.Proofs.Ytiapngmallfelaa
