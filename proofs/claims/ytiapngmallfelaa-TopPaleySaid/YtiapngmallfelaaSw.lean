
/- Walks: switching. -/
import Derived.Test.YtiapngmallfelaaMade
namespace Go.Proofs.Ytiapngmallfelaa
open Go.RowKit

/-- Neighbours behind switching by s. -/
def nearSw (G : List Nat) (s i j : Nat) : Bool := (gn G i).testBit j != (s.testBit i != s.testBit j)
def swL (G : List Nat) (s : Nat) : List Nat := madeL G.length (nearSw G s)

theorem bt_ne (s i j : Nat) : ((bt s i : Int) != (bt s j : Int)) = (s.testBit i != s.testBit j) := by
  rw [bt_test, bt_test]; cases s.testBit i <;> cases s.testBit j <;> rfl

set_option maxHeartbeats 400000 in
theorem sw1_go (w : World) (p q : Nat) (a : Option Addr) (n cap : Nat) (G : List Nat) (s i j : Nat) (h2 : w.cell? ⟨p, 0, none⟩ = some (.slice a n cap)) (h3 : w.cell? ⟨q, 0, none⟩ = some (.int .i64 s))
    (hs : Sl w a n cap (ints G)) (hG : ∀ x ∈ G, x < 65536) (hs16 : s < 65536) (hi : i < n) (hj : j < n) (hn : n ≤ 16) :
    Calls Try.prog 65 #[.int .i64 i, .int .i64 j, .pointer (some ⟨p, 0, none⟩), .pointer (some ⟨q, 0, none⟩)] w fun e w' => e = .returned (.bool (nearSw G s i j)) ∧ Below w.heap.size w w' := by
  have b1 := bits_bt s i (by omega)
  have b2 := bits_bt s j (by omega)
  have b3 := bt_ne s i j
  have hfin : nearSw G s i j = ((gn G i).testBit j != (s.testBit i != s.testBit j)) := rfl
  have HF := Lib.hid hfin
  have hnr := fun m => near_go (w.drewN m) a n cap G hs hG i j hi (by omega)
  have HN := Lib.hid hnr
  clear hfin hs hnr
  go_enter Try.func65, Try.ntmps65
  go_wp2
  go_quiet ((go_at_call 64; exact quiet_is (HN.out _)))
  go_wp2
  go_ret
  rw [HF.out]
  exact ⟨rfl, drewN_below (Below.refl _ _)⟩

theorem own_base {w : World} {base base' e size n : Nat} {v : Value} {xs : List Value} (h : w.ownsRow base e size v n xs) (hb : base' ≤ base) : w.ownsRow base' e size v n xs := by
  obtain ⟨h1, h2⟩ := h
  refine ⟨h1, ?_⟩
  rcases h2 with h2 | ⟨g, c, cur, e1, e2, r⟩
  · exact .inl h2
  · exact .inr ⟨g, c, cur, e1, Nat.le_trans hb e2, r⟩
theorem cf_sw1 (args : Array Value) (w : World) : (callFunc 65 args).run Try.prog w = .ok (.enter 65 args) w := by kernel_rfl
theorem one_at {w : World} {p : Nat} {a : Value} {E : TypeId} (h : w.heap[p]? = some (.cells #[a] E (0, 0))) : w.cell? ⟨p, 0, none⟩ = some a := by rw [cells_at h]; rfl
theorem persist2 {w w' : World} {o o2 : Obj} (hb : Below ((w.alloc o).alloc o2).heap.size ((w.alloc o).alloc o2) w') : w'.heap[w.heap.size]? = some o ∧ w'.heap[w.heap.size + 1]? = some o2 := by
  have h1 : ((w.alloc o).alloc o2).heap[w.heap.size]? = some o := by simp only [heap_alloc_eq, Array.getElem?_push, Array.size_push]; rw [if_neg (by omega), if_pos trivial]
  have h2 : ((w.alloc o).alloc o2).heap[w.heap.size + 1]? = some o2 := by simp only [heap_alloc_eq, Array.getElem?_push, Array.size_push]; rw [if_pos trivial]
  exact ⟨persist h1 hb, persist h2 hb⟩

set_option maxHeartbeats 400000 in
theorem switched_go (w : World) (a : Option Addr) (n cap : Nat) (G : List Nat) (s : Nat) (hs : Sl w a n cap (ints G)) (hG : ∀ x ∈ G, x < 65536) (hs16 : s < 65536) (hn : n ≤ 16) :
    Calls Try.prog 39 #[.slice a n cap, .int .i64 s] w (GivesSl w (ints (swL G s))) := by
  have hl : G.length = n := by have := hs.len; rwa [ints_length] at this
  have hmf : ∀ (fn : Fn) (first cap : Array Value) (w : World), (Instr.makeFunc fn first cap).run Try.prog w = .ok (.func fn first cap) w := fun _ _ _ _ => rfl
  have HL := Lib.hid hl
  clear hl
  go_enter Try.func39, Try.ntmps39
  go_wp2_with fail
  have hcall : ∀ (w' : World) (i j : Nat), Below ((w.alloc (.cells #[.slice a n cap] 57)).alloc (.cells #[.int .i64 s] 3)).heap.size ((w.alloc (.cells #[.slice a n cap] 57)).alloc (.cells #[.int .i64 s] 3)) w' → i < n → j < n →
      Calls Try.prog 65 (#[.int .i64 i, .int .i64 j] ++ #[.pointer (some ⟨w.heap.size, 0, none⟩), .pointer (some ⟨w.heap.size + 1, 0, none⟩)]) w' fun e w'' => e = .returned (.bool (nearSw G s i j)) ∧ Below w'.heap.size w' w'' := fun w' i j hb hi hj => by
    obtain ⟨h1, h2⟩ := persist2 hb
    exact sw1_go w' _ _ a n cap G s i j (one_at h1) (one_at h2) ((hs.mono (bal (bal (Below.refl _ _) _) _)).mono hb) hG hs16 hi hj hn
  refine (made_go _ n hn 65 _ (nearSw G s) cf_sw1 hcall).mono ?_
  rintro e w1 ⟨a', n', p', rfl, hown, hb⟩
  go_wp2
  go_ret
  refine ⟨a', n', p', rfl, ?_, btr (bal (bal (Below.refl _ _) _) _) hb⟩
  rw [← HL.out] at hown
  exact own_base hown (by simp; omega)
end Go.Proofs.Ytiapngmallfelaa
