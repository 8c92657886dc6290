/- Walks: caps.read, hand. -/
import Derived.Test.YtiapngmallfelaaGa
namespace Go.Proofs.Ytiapngmallfelaa
open Go.RowKit
set_option linter.unusedSimpArgs false
def RdC (w wr : World) (d x : Nat) : Prop := wr.heap[w.heap.size]? = some (.cells #[.int .i64 0, .int .i64 0] 73 (0, 0)) ∧ wr.heap[w.heap.size + 1]? = some (.cells #[.int .i64 (d : Int), .int .i64 (x : Int)] 73 (0, 0)) ∧ Below w.heap.size w wr
set_option maxHeartbeats 2000000 in
theorem cread_go (w : World) (a : Option Addr) (n cap : Nat) (l : List Int) (hs : Sl w a n cap l) (d : Nat) (hd : d = 1 ∨ d = 2) :
    Calls Try.prog 75 #[.int .i64 (d : Int), .slice a n cap] w fun e w' => e = .returned (.tuple #[deckV d (pow3 d), .bool (l.all (inB (pow3 d)))]) ∧ Below w.heap.size w w' := by
  have HS := Lib.hid hs
  have hcap : n ≤ cap ∧ cap ≤ maxLen := ⟨hs.2.1, hs.2.2.1⟩
  unfold maxLen at hcap
  have HPE := Lib.hid (show pow3 0 = 1 ∧ pow3 1 = 3 ∧ pow3 2 = 9 from ⟨rfl, rfl, rfl⟩)
  clear hs
  go_enter Try.func75, Try.ntmps75
  go_wp2
  obtain ⟨V, hV⟩ : ∃ V, (w.alloc (.cells #[.int .i64 0, .int .i64 0] 73)).alloc (.cells #[.int .i64 (d : Int), .int .i64 1] 73) = V := ⟨_, rfl⟩
  have HR0 := Lib.hid (show RdC w V d (pow3 0) by
    rw [← hV]
    refine ⟨(Below.heap_alloc _ _ _ (by simp)).trans (new_at w _), ?_, bal (bal (Below.refl _ _) _) _⟩
    have h := new_at (w.alloc (.cells #[.int .i64 0, .int .i64 0] 73)) (.cells #[.int .i64 (d : Int), .int .i64 1] 73)
    rw [World.size_alloc] at h
    exact h)
  rw [hV]
  clear hV
  go_loopw [17] (fun t wr => ∃ i : Nat, i ≤ d ∧ t = .int .i64 i ∧ Hid (RdC w wr d (pow3 i))) (fun t _ => d - (intOf t).toNat)
  case atStart => exact ⟨0, by omega, rfl, HR0⟩
  case round =>
    clear HR0
    obtain ⟨i, hi, rfl, HR⟩ := hrel
    obtain ⟨h0, h1, hB⟩ := HR.out
    by_cases hid : i < d
    · obtain ⟨x, hx⟩ : ∃ x, pow3 i = x := ⟨_, rfl⟩
      have HX := Lib.hid (show pow3 (i + 1) = x * 3 by rw [← hx]; rfl)
      have hxl : x ≤ 3 := by
        have : i = 0 ∨ i = 1 := by omega
        rcases this with rfl | rfl
        · rw [← hx]; decide
        · rw [← hx]; decide
      rw [hx] at h1
      have e1 := cell_of h1 1 rfl
      have f1 := free_at h1 1
      have z1 := lt_of_block h1
      have k1 : IntKind.i64.wrap ((x : Int) * 3) = ((x * 3 : Nat) : Int) := by
        have e : (x : Int) * 3 = ((x * 3 : Nat) : Int) := by simp
        rw [e, IntWalk.i64_left]; exact IntWalk.wrap64_in _ (by omega)
      have HR2 := Lib.hid (show RdC w (wr.setCell ⟨w.heap.size + 1, 1, none⟩ (.int .i64 ((x * 3 : Nat) : Int))) d (pow3 (i + 1)) by
        rw [HX.out]
        exact ⟨(Below.heap_setCell _ _ _ _ (by show w.heap.size ≠ w.heap.size + 1; omega)).trans h0, set_at h1 1 _, hB.setCell (p := ⟨w.heap.size + 1, 1, none⟩) (by show w.heap.size ≤ w.heap.size + 1; omega) _⟩)
      clear h0 h1 hB hx HR
      go_wp2
      go_roundw
      case rel => go_light; exact ⟨i + 1, by omega, by go_num, HR2⟩
      case measure => simp [intOf]; omega
    · obtain rfl : i = d := by omega
      obtain ⟨c, hc⟩ : ∃ c, pow3 i = c := ⟨_, rfl⟩
      rw [hc] at h1
      have HC := Lib.hid hc
      have HB := Lib.hid hB
      have HCF := Lib.hid (crdcf_go wr.drew a n cap l (HS.out.mono (show Below w.heap.size w wr.drew from hB.drew)) (w.heap.size + 1) i c h1)
      have e0 := cell_of h1 0 rfl
      have e1 := cell_of h1 1 rfl
      have z1 := lt_of_block h1
      have H0 := Lib.hid h0
      have z0 := lt_of_block h0
      have g0 := cell_of h0 0 rfl
      have g1 := cell_of h0 1 rfl
      have f0 := free_at h0 0
      have f1 := free_at h0 1
      have hmf : ∀ (fn : Fn) (first cap : Array Value) (w : World), (Instr.makeFunc fn first cap).run Try.prog w = .ok (.func fn first cap) w := fun _ _ _ _ => rfl
      clear hc h0 h1 hB HR
      go_wp2
      go_region_held3 (fun w' => w'.cell? ⟨w.heap.size + 1, 0, none⟩ = some (.int .i64 (i : Int)) ∧ w'.cell? ⟨w.heap.size + 1, 1, none⟩ = some (.int .i64 (c : Int))) (first | exact ⟨e0, e1⟩ | go_keep)
        (first
          | ((with_reducible refine HCF.out.mono ?_); rintro e w' ⟨rfl, rfl⟩))
      go_wp2
      have HBE := Lib.hid (((show Below w.heap.size w wr.drew from HB.out.drew).setCell (p := ⟨w.heap.size, 0, none⟩) (Nat.le_refl _) (.int .i64 (i : Int))).setCell (p := ⟨w.heap.size, 1, none⟩) (Nat.le_refl _) (.int .i64 (c : Int)))
      unfold deckV
      rw [HC.out]
      exact bodyPost_ret (v := .tuple #[.agg #[.int .i64 (i : Int), .int .i64 (c : Int)], .bool (l.all (inB c))]) (by simp [results, Try.results75, go_sem, *]) rfl ⟨rfl, HBE.out⟩
end Go.Proofs.Ytiapngmallfelaa
