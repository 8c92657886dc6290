/- Walks: caps: Sets, Cap, Free, Third; TopAffine: picks; the document's Cards. -/
import Derived.Test.YtiapngmallfelaaGe
namespace Go.Proofs.Ytiapngmallfelaa
open Go.RowKit
set_option linter.unusedSimpArgs false
def okC (l : List Int) : Bool := l.all (inB 9) && risB l
def dk2 : Value := .agg #[.int .i64 2, .int .i64 9]
theorem hand2_go (w : World) (a : Option Addr) (n cap : Nat) (l : List Int) (hs : Sl w a n cap l) (ok : Bool) (hok : okC l = ok) :
    Calls Try.prog 56 #[.int .i64 2, .slice a n cap] w fun e w' => e = .returned (.tuple #[.agg #[.int .i64 2, .int .i64 9], .bool ok]) ∧ Below w.heap.size w w' := by
  subst hok
  exact chand_go w a n cap l hs 2 (.inr rfl)
set_option maxHeartbeats 1000000 in
theorem cSets_no (w : World) (a : Option Addr) (n cap : Nat) (l : List Int) (hs : Sl w a n cap l) (hok : okC l = false) :
    Calls Try.prog 50 #[.int .i64 2, .slice a n cap] w fun e w' => e = .returned (.tuple #[.int .i64 0, .int .i64 2]) ∧ Below w.heap.size w w' := by
  have HH := Lib.hid (hand2_go w a n cap l hs _ hok)
  clear hs hok
  go_enter Try.func50, Try.ntmps50
  go_wp2_with fail
  refine HH.out.mono ?_
  rintro e w' ⟨rfl, hb⟩
  have HB := Lib.hid (bal hb (.cells #[.int .i64 2, .int .i64 9] 73))
  clear hb
  go_wp2
  go_ret2
  exact ⟨rfl, HB.out⟩
set_option maxHeartbeats 1000000 in
theorem cSets_yes (w : World) (a : Option Addr) (n cap : Nat) (L : List Nat) (hs : Sl w a n cap (ints L)) (hL : ∀ x ∈ L, x < 9) (hn : n ≤ 9) (hok : okC (ints L) = true) :
    Calls Try.prog 50 #[.int .i64 2, .slice a n cap] w fun e w' => e = .returned (.tuple #[.int .i64 ((cI L n : Nat) : Int), .int .i64 0]) ∧ Below w.heap.size w w' := by
  have HH := Lib.hid (hand2_go w a n cap _ hs _ hok)
  have HS := Lib.hid (fun (w' : World) (hb : Below w.heap.size w w') => csets_go w' a n cap L (hs.mono hb) hL hn)
  rw [show deckV 2 9 = .agg #[.int .i64 2, .int .i64 9] from rfl] at HS
  clear hs hok hL
  go_enter Try.func50, Try.ntmps50
  go_wp2_with fail
  refine HH.out.mono ?_
  rintro e w' ⟨rfl, hb⟩
  have HB := Lib.hid (bal hb (.cells #[.int .i64 2, .int .i64 9] 73))
  have hx := new_at w' (.cells #[.int .i64 2, .int .i64 9] 73)
  have e0 := cell_of hx 0 rfl
  have e1 := cell_of hx 1 rfl
  clear hb hx
  go_wp2_with fail
  refine (HS.out _ HB.out).mono ?_
  rintro e w2 ⟨rfl, hb⟩
  have HB2 := Lib.hid (btr HB.out hb)
  clear hb e0 e1
  go_wp2
  go_ret2
  exact ⟨rfl, HB2.out⟩
set_option maxHeartbeats 1000000 in
theorem cCap_no (w : World) (a : Option Addr) (n cap : Nat) (l : List Int) (hs : Sl w a n cap l) (hok : okC l = false) :
    Calls Try.prog 22 #[.int .i64 2, .slice a n cap] w fun e w' => e = .returned (.tuple #[.bool false, .int .i64 2]) ∧ Below w.heap.size w w' := by
  have HH := Lib.hid (cSets_no w a n cap l hs hok)
  clear hs hok
  go_enter Try.func22, Try.ntmps22
  go_wp2_with fail
  refine HH.out.mono ?_
  rintro e w' ⟨rfl, hb⟩
  have HB := Lib.hid hb
  clear hb
  go_wp2
  go_ret2
  exact ⟨rfl, HB.out⟩
set_option maxHeartbeats 1000000 in
theorem cCap_yes (w : World) (a : Option Addr) (n cap : Nat) (L : List Nat) (hs : Sl w a n cap (ints L)) (hL : ∀ x ∈ L, x < 9) (hn : n ≤ 9) (hok : okC (ints L) = true) :
    Calls Try.prog 22 #[.int .i64 2, .slice a n cap] w fun e w' => e = .returned (.tuple #[.bool (cI L n == 0), .int .i64 0]) ∧ Below w.heap.size w w' := by
  have HH := Lib.hid (cSets_yes w a n cap L hs hL hn hok)
  obtain ⟨z, hz⟩ : ∃ z, cI L n = z := ⟨_, rfl⟩
  rw [hz] at HH
  have HZ := Lib.hid hz
  have hzz : ((z : Int) == 0) = (z == 0) := by cases z <;> rfl
  clear hs hok hL hz
  go_enter Try.func22, Try.ntmps22
  go_wp2_with fail
  refine HH.out.mono ?_
  rintro e w' ⟨rfl, hb⟩
  have HB := Lib.hid hb
  clear hb
  go_wp2
  go_ret2
  exact ⟨by rw [HZ.out]; rfl, HB.out⟩
set_option maxHeartbeats 1000000 in
theorem cFree_some (w : World) (a : Option Addr) (n cap : Nat) (L : List Nat) (hs : Sl w a n cap (ints L)) (hL : ∀ x ∈ L, x < 9) (hn : n ≤ 9) (hok : okC (ints L) = true) (hc : cI L n ≠ 0) :
    Calls Try.prog 27 #[.int .i64 2, .slice a n cap] w fun e w' => e = .returned (.tuple #[.slice none 0 0, .int .i64 5]) ∧ Below w.heap.size w w' := by
  have HH := Lib.hid (hand2_go w a n cap _ hs _ hok)
  have HS := Lib.hid (fun (w' : World) (hb : Below w.heap.size w w') => csets_go w' a n cap L (hs.mono hb) hL hn)
  rw [show deckV 2 9 = .agg #[.int .i64 2, .int .i64 9] from rfl] at HS
  have hcp : 0 < cI L n := by omega
  generalize cI L n = z at *
  clear hs hok hL hc
  go_enter Try.func27, Try.ntmps27
  go_wp2_with fail
  refine HH.out.mono ?_
  rintro e w' ⟨rfl, hb⟩
  have HB := Lib.hid (bal hb (.cells #[.int .i64 2, .int .i64 9] 73))
  have hx := new_at w' (.cells #[.int .i64 2, .int .i64 9] 73)
  have e0 := cell_of hx 0 rfl
  have e1 := cell_of hx 1 rfl
  clear hb hx
  go_wp2_with fail
  refine (HS.out _ HB.out).mono ?_
  rintro e w2 ⟨rfl, hb⟩
  have HB2 := Lib.hid (btr HB.out hb)
  clear hb e0 e1
  go_wp2
  go_ret2
  exact ⟨rfl, HB2.out⟩
set_option maxHeartbeats 1000000 in
theorem cFree_none (w : World) (a : Option Addr) (n cap : Nat) (L : List Nat) (hs : Sl w a n cap (ints L)) (hL : ∀ x ∈ L, x < 9) (hn : n ≤ 9) (hok : okC (ints L) = true) (hc : cI L n = 0) :
    Calls Try.prog 27 #[.int .i64 2, .slice a n cap] w fun e w' => GivesSlE w (ints (freeT (mkI L n) 9)) 0 e w' := by
  have HH := Lib.hid (hand2_go w a n cap _ hs _ hok)
  have HS := Lib.hid (fun (w' : World) (hb : Below w.heap.size w w') => csets_go w' a n cap L (hs.mono hb) hL hn)
  have HF := Lib.hid (fun (w' : World) (hb : Below w.heap.size w w') => cfree_go w' a n cap L (hs.mono hb) hL hn)
  rw [show deckV 2 9 = .agg #[.int .i64 2, .int .i64 9] from rfl] at HS HF
  rw [hc] at HS
  clear hs hok hL hc
  go_enter Try.func27, Try.ntmps27
  go_wp2_with fail
  refine HH.out.mono ?_
  rintro e w' ⟨rfl, hb⟩
  have HB := Lib.hid (bal hb (.cells #[.int .i64 2, .int .i64 9] 73))
  have HX := Lib.hid (new_at w' (.cells #[.int .i64 2, .int .i64 9] 73))
  have e0 := cell_of HX.out 0 rfl
  have e1 := cell_of HX.out 1 rfl
  clear hb
  go_wp2_with fail
  refine (HS.out _ HB.out).mono ?_
  rintro e w2 ⟨rfl, hb⟩
  have HB2 := Lib.hid (btr HB.out hb)
  have hx := persist HX.out hb
  clear hb e0 e1
  have e0 := cell_of hx 0 rfl
  have e1 := cell_of hx 1 rfl
  clear hx
  go_wp2_with fail
  refine (HF.out _ HB2.out).mono ?_
  rintro e w3 ⟨fa, fn, fc, rfl, hown, hb⟩
  have HO := Lib.hid (own_base hown HB2.out.size)
  have HB3 := Lib.hid (btr HB2.out hb)
  clear hown hb e0 e1
  go_wp2
  go_ret2
  exact ⟨fa, fn, fc, rfl, HO.out, HB3.out⟩
set_option maxHeartbeats 1000000 in
theorem cThird_go (w : World) :
    Calls Try.prog 53 #[.int .i64 1, .int .i64 0, .int .i64 1] w fun e w' => e = .returned (.tuple #[.int .i64 2, .int .i64 0]) ∧ Below w.heap.size w w' := by
  have HH : Hid (Calls Try.prog 75 #[.int .i64 1, .slice (some ⟨w.heap.size, 0, none⟩) 2 2] (w.alloc (.cells #[.int .i64 0, .int .i64 1] 3)) fun e w' => e = .returned (.tuple #[.agg #[.int .i64 1, .int .i64 3], .bool true]) ∧ Below (w.alloc (.cells #[.int .i64 0, .int .i64 1] 3)).heap.size (w.alloc (.cells #[.int .i64 0, .int .i64 1] 3)) w') :=
    Lib.hid (cread_go _ _ 2 2 _ (sl_two w 0 1) 1 (.inl rfl))
  have HT : Hid (∀ w' : World, Calls Try.prog 76 #[.agg #[.int .i64 1, .int .i64 3], .int .i64 0, .int .i64 1] w' fun e w2 => e = .returned (.int .i64 2) ∧ Below w'.heap.size w' w2) :=
    Lib.hid (fun w' => cthird_go w' 1 3 0 1 (.inl rfl) (by omega) (by omega))
  go_enter Try.func53, Try.ntmps53
  go_wp2_with fail
  refine HH.out.mono ?_
  rintro e w' ⟨rfl, hb⟩
  have HB := Lib.hid (bal (btr (bal (Below.refl w.heap.size w) (.cells #[.int .i64 0, .int .i64 1] 3)) hb) (.cells #[.int .i64 1, .int .i64 3] 73))
  have hx := new_at w' (.cells #[.int .i64 1, .int .i64 3] 73)
  have e0 := cell_of hx 0 rfl
  have e1 := cell_of hx 1 rfl
  clear hb hx
  go_wp2_with fail
  refine (HT.out _).mono ?_
  rintro e w2 ⟨rfl, hb⟩
  have HB2 := Lib.hid (btr HB.out hb)
  clear hb e0 e1
  go_wp2
  go_ret2
  exact ⟨rfl, HB2.out⟩
set_option maxHeartbeats 1000000 in
theorem picks_go (w : World) :
    Calls Try.prog 25 #[] w fun e w' => e = .returned (.bool true) ∧ Below w.heap.size w w' := by
  have HT := Lib.hid (cThird_go w)
  go_enter Try.func25, Try.ntmps25
  go_wp2_with fail
  refine HT.out.mono ?_
  rintro e w2 ⟨rfl, hb⟩
  go_wp2
  go_ret
  exact ⟨rfl, hb⟩
end Go.Proofs.Ytiapngmallfelaa
