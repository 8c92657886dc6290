/- Walks: caps: free. -/
import Derived.Test.YtiapngmallfelaaGd
import Derived.Test.YtiapngmallfelaaFnh
namespace Go.Proofs.Ytiapngmallfelaa
open Go.RowKit
set_option linter.unusedSimpArgs false
def bArr (f : Nat → Bool) : Array Value := ((List.range 9).map fun x => Value.bool (f x)).toArray
theorem bArr_at (f : Nat → Bool) {x : Nat} (h : x < 9) : (bArr f)[x]? = some (.bool (f x)) := by
  unfold bArr
  simp [h]
theorem bArr_set (f : Nat → Bool) {x : Nat} (h : x < 9) : (bArr f).setIfInBounds x (.bool true) = bArr fun y => y == x || f y := by
  have : x = 0 ∨ x = 1 ∨ x = 2 ∨ x = 3 ∨ x = 4 ∨ x = 5 ∨ x = 6 ∨ x = 7 ∨ x = 8 := by omega
  rcases this with rfl | rfl | rfl | rfl | rfl | rfl | rfl | rfl | rfl <;> rfl
theorem infoBool : (Try.prog.info? 4).map (fun i => (i.zero, i.size, i.bytes)) = some (some (.bool false), 1, 1) := by kernel_rfl
theorem made9 : madeCells (Value.bool false).cells 9 = bArr fun _ => false := by kernel_rfl
theorem mkB9 (w : World) : (Instr.makeSlice 97 (.int .i64 9) (.int .i64 9)).run Try.prog w = .ok (.slice (some ⟨w.heap.size, 0, none⟩) 9 9) (w.alloc (.cells (bArr fun _ => false) 4)) := by
  obtain ⟨i0, hi, hz0, hz1, hz2⟩ := info_parts infoBool
  rw [run_makeSlice (P := Try.prog) (w := w) 97 4 i0 (.bool false) Try.underlying97 hi hz0 .i64 .i64 9 9 (by omega) (by omega) (by rw [hz1]; decide) (by rw [hz2]; decide) (by decide)]
  rw [hz1, ← made9]
  rfl
/-! ### what is not free -/
def mkJ (L : List Nat) (i : Nat) : Nat → Nat → Bool
  | 0, _ => false
  | m + 1, x => x == thdN 2 (gn L i) (gn L m) || mkJ L i m x
def mkI (L : List Nat) : Nat → Nat → Bool
  | 0, _ => false
  | i + 1, x => mkJ L i i x || (x == gn L i || mkI L i x)
def freeT (f : Nat → Bool) (k : Nat) : List Nat := (List.range k).filter fun x => !f x
theorem freeT_len (f : Nat → Bool) (k : Nat) : (freeT f k).length ≤ k := by
  have := List.length_filter_le (fun x => !f x) (List.range k)
  rwa [List.length_range] at this
theorem freeT_yes {f : Nat → Bool} {k : Nat} (h : f k = true) : freeT f (k + 1) = freeT f k := by
  unfold freeT
  rw [List.range_succ, List.filter_append]
  simp [h]
theorem freeT_no {f : Nat → Bool} {k : Nat} (h : f k = false) : freeT f (k + 1) = freeT f k ++ [k] := by
  unfold freeT
  rw [List.range_succ, List.filter_append]
  simp [h]
def FrS (w wr : World) (f : Nat → Bool) : Prop := wr.heap[w.heap.size]? = some (.cells #[.int .i64 2, .int .i64 9] 73 (0, 0)) ∧ wr.heap[w.heap.size + 1]? = some (.cells (bArr f) 4 (0, 0)) ∧ Below w.heap.size w wr
theorem FrS.set {w wr : World} {f : Nat → Bool} (h : FrS w wr f) {x : Nat} (hx : x < 9) : FrS w (wr.setCell ⟨w.heap.size + 1, x, none⟩ (.bool true)) (fun y => y == x || f y) := by
  refine ⟨(Below.heap_setCell _ _ _ _ (by show w.heap.size ≠ w.heap.size + 1; omega)).trans h.1, ?_, h.2.2.setCell (p := ⟨w.heap.size + 1, x, none⟩) (by show w.heap.size ≤ w.heap.size + 1; omega) _⟩
  rw [← bArr_set f hx]
  exact set_at h.2.1 x _
theorem FrS.mono {w wr wr2 : World} {f : Nat → Bool} (h : FrS w wr f) (hb : Below wr.heap.size wr wr2) : FrS w wr2 f :=
  ⟨persist h.1 hb, persist h.2.1 hb, btr h.2.2 hb⟩
set_option maxHeartbeats 4000000 in
theorem cfree_go (w : World) (a : Option Addr) (n cap : Nat) (L : List Nat) (hs : Sl w a n cap (ints L)) (hL : ∀ x ∈ L, x < 9) (hn : n ≤ 9) :
    Calls Try.prog 58 #[deckV 2 9, .slice a n cap] w fun e w' => GivesSl w (ints (freeT (mkI L n) 9)) e w' := by
  have hcap : n ≤ cap ∧ cap ≤ maxLen := ⟨hs.2.1, hs.2.2.1⟩
  unfold maxLen at hcap
  have HGL := Lib.hid (gn_lt hL (by omega))
  have HS := Lib.hid hs
  have hmk := mkB9
  have HA := Lib.hid (show FrS w ((w.alloc (.cells #[.int .i64 2, .int .i64 9] 73)).alloc (.cells (bArr fun _ => false) 4)) (mkI L 0) by
    refine ⟨(Below.heap_alloc _ _ _ (by simp)).trans (new_at w _), ?_, bal (bal (Below.refl _ _) _) _⟩
    have h := new_at (w.alloc (.cells #[.int .i64 2, .int .i64 9] 73)) (.cells (bArr fun _ => false) 4)
    rw [World.size_alloc] at h
    exact h)
  have hnw := new_at w (.cells #[.int .i64 2, .int .i64 9] 73)
  have k1 := cell_of hnw 1 rfl
  rw [show deckV 2 9 = .agg #[.int .i64 2, .int .i64 9] from rfl]
  clear hs hL hnw
  go_enter Try.func58, Try.ntmps58
  go_wp2
  clear k1 hmk
  generalize (w.alloc (.cells #[.int .i64 2, .int .i64 9] 73)).alloc (.cells (bArr fun _ => false) 4) = V at *
  go_loopw [18] (fun t wr => ∃ i : Nat, i ≤ n ∧ t = .int .i64 i ∧ Hid (FrS w wr (mkI L i))) (fun t _ => n - (intOf t).toNat)
  case atStart => exact ⟨0, by omega, rfl, HA⟩
  case round =>
    clear HA
    obtain ⟨i, hi, rfl, HR⟩ := hrel
    by_cases hin : i < n
    · obtain ⟨b, off, rfl, hb, hc, _⟩ := sl_at (HS.out.mono HR.out.2.2) (by omega)
      have e1 := hc i hin
      rw [nth_ints] at e1
      have hx9 := HGL.out i
      have HMK := Lib.hid (fun y => (show mkI L (i + 1) y = (mkJ L i i y || (y == gn L i || mkI L i y)) from rfl))
      obtain ⟨x, hx⟩ : ∃ x, gn L i = x := ⟨_, rfl⟩
      rw [hx] at e1 hx9 HMK
      have HX := Lib.hid hx
      clear hx hc
      have g1 := cell_of HR.out.2.1 x (bArr_at _ hx9)
      have f1 := free_at HR.out.2.1 x
      have z1 := lt_of_block HR.out.2.1
      have HR2 := Lib.hid (HR.out.set hx9)
      generalize mkI L i = mi at *
      clear HR
      go_wp2
      generalize wr.setCell ⟨w.heap.size + 1, x, none⟩ (.bool true) = U at *
      go_loopw [30] (fun t wr2 => ∃ m : Nat, m ≤ i ∧ t = .int .i64 m ∧ Hid (FrS w wr2 (fun y => mkJ L i m y || (y == x || mi y)))) (fun t _ => i - (intOf t).toNat)
      case atStart => exact ⟨0, by omega, rfl, HR2⟩
      case round =>
        clear HR2 e1 hb g1 f1 z1
        obtain ⟨m, hm, rfl, HR⟩ := hrel
        by_cases hmn : m < i
        · obtain ⟨b', off', hbe, hb, hc, _⟩ := sl_at (HS.out.mono HR.out.2.2) (by omega)
          injection hbe with hbe
          injection hbe with q1 q2
          subst q1 q2
          have e1 := hc m (by omega)
          rw [nth_ints] at e1
          have hy9 := HGL.out m
          have HCJ := Lib.hid (fun z => (show mkJ L i (m + 1) z = (z == thdN 2 x (gn L m) || mkJ L i m z) by rw [← HX.out]; rfl))
          obtain ⟨y, hy⟩ : ∃ y, gn L m = y := ⟨_, rfl⟩
          rw [hy] at e1 hy9 HCJ
          generalize mkJ L i m = mj at *
          have HT := Lib.hid (fun w' => cthird_go w' 2 9 x y (.inr rfl) hx9 hy9)
          have ht9 := thd_lt (x := x) (y := y)
          rw [show deckV 2 9 = .agg #[.int .i64 2, .int .i64 9] from rfl] at HT
          generalize thdN 2 x y = t at *
          have k0 := cell_of HR.out.1 0 rfl
          have k1 := cell_of HR.out.1 1 rfl
          clear hc hy
          go_wp2_with fail
          refine (HT.out _).mono ?_
          rintro e w' ⟨rfl, hb'⟩
          have HR2 := Lib.hid (HR.out.mono hb')
          clear HT HR e1 k0 k1 hb' hb
          have g1 := cell_of HR2.out.2.1 t (bArr_at _ ht9)
          have f1 := free_at HR2.out.2.1 t
          have z1 := lt_of_block HR2.out.2.1
          have HR3 := Lib.hid (show FrS w (w'.setCell ⟨w.heap.size + 1, t, none⟩ (.bool true)) (fun z => mkJ L i (m + 1) z || (z == x || mi z)) by
            have h := HR2.out.set ht9
            have he : (fun z => mkJ L i (m + 1) z || (z == x || mi z)) = fun z => z == t || (mj z || (z == x || mi z)) := by
              funext z; rw [HCJ.out, Bool.or_assoc]
            rw [he]
            exact h)
          go_wp2
          go_roundw
          case rel => go_light; exact ⟨m + 1, by omega, by go_num, HR3⟩
          case measure => simp [intOf]; omega
        · obtain rfl : m = i := by omega
          have HR2 := Lib.hid (show FrS w wr (mkI L (m + 1)) by
            have he : mkI L (m + 1) = fun y => mkJ L m m y || (y == x || mi y) := funext HMK.out
            rw [he]; exact HR.out)
          go_wp2
          go_roundw
          case rel => go_light; exact ⟨m + 1, by omega, by go_num, HR2⟩
          case measure => simp [intOf]; omega
    · obtain rfl : i = n := by omega
      obtain ⟨f, hf⟩ : ∃ f, mkI L i = f := ⟨_, rfl⟩
      rw [hf] at HR
      have HFE := Lib.hid hf
      have HB := Lib.hid HR.out.2.2
      have HG := Lib.hid HR.out.2.1
      go_wp2
      obtain ⟨X, hXE⟩ : ∃ X, wr = X := ⟨_, rfl⟩
      rw [hXE] at HB HG ⊢
      clear HR hXE hf
      go_loopw [10, 44] (fun v t wr => ∃ k : Nat, k ≤ 9 ∧ t = .int .i64 k ∧ Hid (wr.ownsRow X.heap.size 3 1 v (freeT f k).length ((ints (freeT f k)).map (Value.int .i64))) ∧ Hid (Below X.heap.size X wr)) (fun _ t _ => 9 - (intOf t).toNat)
      case atStart => exact ⟨0, by omega, rfl, Lib.hid (World.ownsRow_nil _ _ _ _), Lib.hid (Below.refl _ _)⟩
      case round =>
        obtain ⟨k, hk, rfl, HO, HB2⟩ := hrel
        obtain ⟨va, vc, rfl⟩ := own_form HO.out
        by_cases hk9 : k < 9
        · have hg := persist HG.out HB2.out
          have g1 := cell_of hg k (bArr_at _ hk9)
          have z1 := lt_of_block hg
          clear hg
          have hfl := freeT_len f k
          have hz := HB2.out.size
          cases hfk : f k with
          | true =>
            rw [hfk] at g1
            have HF := Lib.hid (freeT_yes hfk)
            clear hfk
            have HO2 := Lib.hid (show wr.ownsRow X.heap.size 3 1 (.slice va (freeT f k).length vc) (freeT f (k + 1)).length ((ints (freeT f (k + 1))).map (Value.int .i64)) by rw [HF.out]; exact HO.out)
            generalize (freeT f k).length = q at *
            go_wp2
            go_roundw
            case rel => go_light; exact ⟨k + 1, by omega, by go_num, HO2, HB2⟩
            case measure => simp [intOf]; omega
          | false =>
            rw [hfk] at g1
            have HF := Lib.hid (freeT_no hfk)
            clear hfk
            have hown := HO.out
            obtain ⟨q, hq⟩ : ∃ q, (freeT f k).length = q := ⟨_, rfl⟩
            rw [hq] at hown hfl
            have HQ := Lib.hid hq
            clear hq
            rw [HQ.out]
            go_wp2_with (at_builtin; refine wpList_app1 rfl _ _ 22 rfl Try.underlying22 infoInt rfl (by decide) X.heap.size (.slice va q vc) q _ rfl (hown.alloc _) wr.heap.size #[.int .i64 (k : Int)] rfl (new_at _ _) rfl (by simp [Value.oneCell']) (by omega) (by omega) (by simp; omega) ?_; intro v' wn hown' hgrow; obtain ⟨wa, wc, rfl⟩ := own_form hown')
            have HO2 := Lib.hid (show wn.ownsRow X.heap.size 3 1 (.slice wa (q + 1) wc) (freeT f (k + 1)).length ((ints (freeT f (k + 1))).map (Value.int .i64)) by
              rw [HF.out, ints_app, List.map_append, List.length_append, HQ.out]; exact hown')
            have HBN := Lib.hid ((bal HB2.out (.cells #[.int .i64 (k : Int)] 3)).grown hgrow (by simp; omega) (fun j hj => (hown.lt j hj).1))
            clear hown hown' hgrow g1
            go_wp2
            go_roundw
            case rel => go_light; exact ⟨k + 1, by omega, by go_num, HO2, HBN⟩
            case measure => simp [intOf]; omega
        · obtain rfl : k = 9 := by omega
          have HO2 := Lib.hid (own_base HO.out HB.out.size)
          have HB3 := Lib.hid (btr HB.out HB2.out)
          generalize (freeT f 9).length = q at *
          go_wp2
          go_ret
          have HE : GivesSl w (ints (freeT (mkI L i) 9)) (.returned (.slice va q vc)) wr := by rw [HFE.out]; exact own_gives HO2.out HB3.out
          exact HE
end Go.Proofs.Ytiapngmallfelaa
