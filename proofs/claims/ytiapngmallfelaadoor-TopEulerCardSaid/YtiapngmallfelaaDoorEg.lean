
/- rooks: valid, permutations, Hits. -/
import Derived.Test.YtiapngmallfelaaDoorEf
import Derived.Laws.EntriesVeiled
namespace Go.Proofs.YtiapngmallfelaaDoor
open Go.RowKit Go.Shelf
set_option linter.unusedSimpArgs false

set_option maxHeartbeats 1000000 in
theorem idxI_go (w : World) (a : Option Addr) (n cap : Nat) (l : List Int) (hs : Sl w a n cap l) (f : FuncId) (caps : Array Value) (hcf : ∀ (args : Array Value) (w : World), (callFunc f args).run Tryd.prog w = .ok (.enter f args) w)
    (hcall : ∀ i, i < n → Calls Tryd.prog f (#[.int .i64 (nth l i)] ++ caps) w fun e w' => e = .returned (.bool false) ∧ w = w') :
    Calls Tryd.prog 38 #[.slice a n cap, .func (Fn.func f) #[] caps] w fun e w' => e = .returned (.int .i64 (-1)) ∧ w = w' := by
  have hcap : n ≤ cap ∧ cap ≤ maxLen := ⟨hs.2.1, hs.2.2.1⟩
  unfold maxLen at hcap
  have HS := Lib.hid hs
  have HC := Lib.hid hcall
  clear hs hcall
  go_enter Tryd.func38, Tryd.ntmps38
  go_wp2
  go_loopw [8] (fun v wr => ∃ j : Nat, j ≤ n ∧ v = .int .i64 j ∧ w = wr) (fun v _ => n - (intOf v).toNat)
  case atStart => exact ⟨0, by omega, rfl, rfl⟩
  case round =>
    obtain ⟨j, hj, rfl, rfl⟩ := hrel
    by_cases hjn : j < n
    · obtain ⟨b, off, rfl, hbl, hc⟩ := HS.out.at (by omega)
      have e1 := hc j hjn
      have HCJ := Lib.hid (HC.out j hjn)
      clear hc
      generalize nth l j = z at *
      go_wp2_with fail
      refine HCJ.out.mono ?_
      rintro e w' ⟨rfl, rfl⟩
      go_wp2
      go_roundw
      case rel => first | exact ⟨j + 1, by omega, by go_num, by trivial⟩ | exact ⟨j + 1, by omega, by go_num⟩
      case measure => simp [intOf]; omega
    · obtain rfl : j = n := by omega
      go_wp2
      go_ret
      exact ⟨rfl, rfl⟩
set_option maxHeartbeats 1000000 in
theorem cfI_go (w : World) (a : Option Addr) (n cap : Nat) (l : List Int) (hs : Sl w a n cap l) (f : FuncId) (caps : Array Value) (hcf : ∀ (args : Array Value) (w : World), (callFunc f args).run Tryd.prog w = .ok (.enter f args) w)
    (hcall : ∀ i, i < n → Calls Tryd.prog f (#[.int .i64 (nth l i)] ++ caps) w fun e w' => e = .returned (.bool false) ∧ w = w') :
    Calls Tryd.prog 25 #[.slice a n cap, .func (Fn.func f) #[] caps] w fun e w' => e = .returned (.bool false) ∧ w = w' := by
  have HC := Lib.hid (idxI_go w a n cap l hs f caps hcf hcall)
  clear hs hcall hcf
  go_enter Tryd.func25, Tryd.ntmps25
  go_wp2_with fail
  refine HC.out.mono ?_
  rintro e w' ⟨rfl, rfl⟩
  go_wp2
  go_ret
  exact ⟨rfl, rfl⟩

set_option maxHeartbeats 1000000 in
theorem idxB_go (w : World) (a : Option Addr) (n cap : Nat) (l : List Int) (hs : Sl w a n cap l) (f : FuncId) (caps : Array Value) (hcf : ∀ (args : Array Value) (w : World), (callFunc f args).run Tryd.prog w = .ok (.enter f args) w)
    (hcall : ∀ i, i < n → Calls Tryd.prog f (#[.int .i64 (nth l i)] ++ caps) w fun e w' => e = .returned (.bool false) ∧ w = w') :
    Calls Tryd.prog 32 #[.slice a n cap, .func (Fn.func f) #[] caps] w fun e w' => e = .returned (.int .i64 (-1)) ∧ w = w' := by
  have hcap : n ≤ cap ∧ cap ≤ maxLen := ⟨hs.2.1, hs.2.2.1⟩
  unfold maxLen at hcap
  have HS := Lib.hid hs
  have HC := Lib.hid hcall
  clear hs hcall
  go_enter Tryd.func32, Tryd.ntmps32
  go_wp2
  go_loopw [8] (fun v wr => ∃ j : Nat, j ≤ n ∧ v = .int .i64 j ∧ w = wr) (fun v _ => n - (intOf v).toNat)
  case atStart => exact ⟨0, by omega, rfl, rfl⟩
  case round =>
    obtain ⟨j, hj, rfl, rfl⟩ := hrel
    by_cases hjn : j < n
    · obtain ⟨b, off, rfl, hbl, hc⟩ := HS.out.at (by omega)
      have e1 := hc j hjn
      have HCJ := Lib.hid (HC.out j hjn)
      clear hc
      generalize nth l j = z at *
      go_wp2_with fail
      refine HCJ.out.mono ?_
      rintro e w' ⟨rfl, rfl⟩
      go_wp2
      go_roundw
      case rel => first | exact ⟨j + 1, by omega, by go_num, by trivial⟩ | exact ⟨j + 1, by omega, by go_num⟩
      case measure => simp [intOf]; omega
    · obtain rfl : j = n := by omega
      go_wp2
      go_ret
      exact ⟨rfl, rfl⟩
set_option maxHeartbeats 1000000 in
theorem cfB_go (w : World) (a : Option Addr) (n cap : Nat) (l : List Int) (hs : Sl w a n cap l) (f : FuncId) (caps : Array Value) (hcf : ∀ (args : Array Value) (w : World), (callFunc f args).run Tryd.prog w = .ok (.enter f args) w)
    (hcall : ∀ i, i < n → Calls Tryd.prog f (#[.int .i64 (nth l i)] ++ caps) w fun e w' => e = .returned (.bool false) ∧ w = w') :
    Calls Tryd.prog 19 #[.slice a n cap, .func (Fn.func f) #[] caps] w fun e w' => e = .returned (.bool false) ∧ w = w' := by
  have HC := Lib.hid (idxB_go w a n cap l hs f caps hcf hcall)
  clear hs hcall hcf
  go_enter Tryd.func19, Tryd.ntmps19
  go_wp2_with fail
  refine HC.out.mono ?_
  rintro e w' ⟨rfl, rfl⟩
  go_wp2
  go_ret
  exact ⟨rfl, rfl⟩

theorem valid1_go (w : World) (p n r : Nat) (hp : w.heap[p]? = some (.cells #[.int .i64 (n : Int)] 3 (0, 0))) (hn : n ≤ 5) (hr : r < 2 ^ n) :
    Calls Tryd.prog 20 #[.int .i64 (r : Int), .pointer (some ⟨p, 0, none⟩)] w fun e w' => e = .returned (.bool false) ∧ w = w' := by
  have c := one_atB hp
  have kw := wrap_pow (n := n) (by omega)
  have hr2 : (r : Int) < 2 ^ n := by rw [← pow_cast]; omega
  have hd : decide ((2 : Int) ^ n ≤ (r : Int)) = false := by rw [decide_eq_false_iff_not]; omega
  clear hp hr
  go_enter Tryd.func20, Tryd.ntmps20
  go_wp2
  go_ret
  exact ⟨rfl, rfl⟩
theorem cf_valid1 (args : Array Value) (w : World) : (callFunc 20 args).run Tryd.prog w = .ok (.enter 20 args) w := by kernel_rfl
set_option maxHeartbeats 1000000 in
theorem valid_go (w : World) (a : Option Addr) (n cap : Nat) (B : List Nat) (hs : Sl w a n cap (ints B)) (h1 : 1 ≤ n) (h5 : n ≤ 5) (hB : ∀ i, gn B i < 2 ^ n) :
    Calls Tryd.prog 10 #[.slice a n cap] w fun e w' => e = .returned (.bool true) ∧ Below w.heap.size w w' := by
  have HC := Lib.hid (cfB_go (w.alloc (.cells #[.int .i64 (n : Int)] 3)) a n cap (ints B) (hs.mono (bal (Below.refl _ _) _)) 20 #[.pointer (some ⟨w.heap.size, 0, none⟩)] cf_valid1
    (fun i _ => by rw [nth_ints]; exact valid1_go _ w.heap.size n _ (new_at w _) h5 (hB i)))
  clear hs hB
  go_enter Tryd.func10, Tryd.ntmps10
  go_wp2_with fail
  refine HC.out.mono ?_
  rintro e w' ⟨rfl, rfl⟩
  go_wp2
  go_ret
  exact ⟨rfl, bal (Below.refl _ _) _⟩
def bumpsB (B : List Nat) (m : Nat) (cnt : List Nat) (L : List (List Nat)) : List Nat := L.foldl (fun c l => c.set (hitN B l m) (gn c (hitN B l m) + 1)) cnt
def hitsL (B : List Nat) (m : Nat) : List Nat := bumpsB B m (List.replicate (m + 1) 0) (permsL m (2 ^ m - 1) [])
theorem perms_le {m : Nat} (h : m ≤ 5) : (permsL m (2 ^ m - 1) []).length ≤ 120 ∧ (bitsL (2 ^ m - 1)).length = m := by
  have : m = 0 ∨ m = 1 ∨ m = 2 ∨ m = 3 ∨ m = 4 ∨ m = 5 := by omega
  rcases this with rfl | rfl | rfl | rfl | rfl | rfl <;> decide +kernel
theorem madeI (n : Nat) : madeCells (Value.int .i64 0).cells n = ((List.replicate n 0).map fun x : Nat => Value.int .i64 (x : Int)).toArray := by
  unfold madeCells
  apply Array.ext
  · simp
  · intro i h1 h2
    simp [Value.cells, Nat.mod_one]
theorem mkI_go (w : World) (n : Nat) (hn : n ≤ 100) : (Instr.makeSlice 23 (.int .i64 (n : Int)) (.int .i64 (n : Int))).run Tryd.prog w = .ok (.slice (some ⟨w.heap.size, 0, none⟩) n n) (w.alloc (.cells ((List.replicate n 0).map fun x : Nat => Value.int .i64 (x : Int)).toArray 3)) := by
  obtain ⟨i0, hi, hz0, hz1, hz2⟩ := info_parts infoInt
  rw [run_makeSlice (P := Tryd.prog) (w := w) 23 3 i0 (.int .i64 0) Tryd.underlying23 hi hz0 .i64 .i64 n n (by omega) (by omega) (by rw [hz1]; simp; omega) (by rw [hz2]; omega) (by omega)]
  rw [← madeI, hz1]
  simp
theorem pow5 {m : Nat} (h : m ≤ 5) : IntKind.i64.wrap ((2 : Int) ^ m) = 2 ^ m ∧ wrap64 (2 ^ m) = 2 ^ m ∧ IntKind.i64.wrap ((2 : Int) ^ m - 1) = ((2 ^ m - 1 : Nat) : Int) ∧ wrap64 ((2 : Int) ^ m - 1) = ((2 ^ m - 1 : Nat) : Int) ∧ 2 ^ m - 1 < 32 := by
  have : m = 0 ∨ m = 1 ∨ m = 2 ∨ m = 3 ∨ m = 4 ∨ m = 5 := by omega
  rcases this with rfl | rfl | rfl | rfl | rfl | rfl <;> decide +kernel
set_option maxHeartbeats 2000000 in
theorem perm_go (w : World) (xb xo ob m : Nat) (ab : Option Addr) (cb : Nat) (B : List Nat) (h1 : 1 ≤ m) (h5 : m ≤ 5) (hB : ∀ i, gn B i < 2 ^ m) (hs : Sl w ab m cb (ints B)) (tab : Tab w)
    (hxb : w.heap[xb]? = some (.cells #[.slice ab m cb] 23 (0, 0))) (hxo : w.heap[xo]? = some (.cells #[.slice (some ⟨ob, 0, none⟩) (m + 1) (m + 1)] 23 (0, 0)))
    (hob : w.heap[ob]? = some (.cells (((List.replicate (m + 1) 0).map fun x : Nat => Value.int .i64 (x : Int)).toArray) 3 (0, 0))) (hne : ob ≠ xb ∧ ob ≠ xo ∧ ob ≠ 1) (hab : ∀ b o, ab = some ⟨b, o, none⟩ → b < w.heap.size ∧ b ≠ ob) :
    Calls Tryd.prog 11 #[.int .i64 (m : Int), .func (.func 12) #[] #[.pointer (some ⟨xo, 0, none⟩), .pointer (some ⟨xb, 0, none⟩)]] w fun e w' => e = .returned (.tuple #[]) ∧
      w'.heap[ob]? = some (.cells (((hitsL B m).map fun x : Nat => Value.int .i64 (x : Int)).toArray) 3 (0, 0)) ∧ w'.os = w.os ∧ w'.tape = w.tape ∧ w'.output = w.output ∧ w.heap.size ≤ w'.heap.size ∧ ∀ x, x < w.heap.size → x ≠ ob → w'.heap[x]? = w.heap[x]? := by
  have z1 := lt_of_block hxb
  have z2 := lt_of_block hxo
  have z3 := lt_of_block hob
  obtain ⟨U, hU⟩ : ∃ U, ((w.alloc (.cells #[.func (.func 12) #[] #[.pointer (some ⟨xo, 0, none⟩), .pointer (some ⟨xb, 0, none⟩)]] 41)).alloc (.cells #[.slice none 0 0] 23)).alloc (.cells #[.func (.func 21) #[] #[.pointer (some ⟨w.heap.size, 0, none⟩), .pointer (some ⟨w.heap.size + 1, 0, none⟩), .pointer (some ⟨w.heap.size + 1 + 1, 0, none⟩)]] 37) = U := ⟨_, rfl⟩
  have hb : Below w.heap.size w U := by
    rw [← hU]
    exact bal (bal (bal (Below.refl _ _) _) _) _
  have hsz : U.heap.size = w.heap.size + 1 + 1 + 1 := by rw [← hU]; simp
  have hX : Px.Ok ⟨xb, xo, ob, w.heap.size, w.heap.size + 1, w.heap.size + 1 + 1, m, ab, cb, B, w.heap.size + 1 + 1 + 1⟩ := by
    have := tab.1
    exact ⟨h1, h5, fun i => Nat.lt_of_lt_of_le (hB i) (Nat.le_trans (Nat.pow_le_pow_right (by omega) h5) (by omega)), by show 1 < w.heap.size + 1 + 1 + 1; omega, by show xb < w.heap.size + 1 + 1 + 1; omega, by show xo < w.heap.size + 1 + 1 + 1; omega, by show ob < w.heap.size + 1 + 1 + 1; omega, by show w.heap.size < w.heap.size + 1 + 1 + 1; omega, by show w.heap.size + 1 < w.heap.size + 1 + 1 + 1; omega, by show w.heap.size + 1 + 1 < w.heap.size + 1 + 1 + 1; omega,
      fun b o e => by have := hab b o e; show b < w.heap.size + 1 + 1 + 1 ∧ b ≠ w.heap.size + 1 ∧ b ≠ ob; omega, by show w.heap.size + 1 ≠ 1 ∧ ob ≠ 1; omega,
      by show w.heap.size + 1 ≠ xb ∧ w.heap.size + 1 ≠ xo ∧ w.heap.size + 1 ≠ ob ∧ w.heap.size + 1 ≠ w.heap.size ∧ w.heap.size + 1 ≠ w.heap.size + 1 + 1; omega, by show ob ≠ xb ∧ ob ≠ xo ∧ ob ≠ w.heap.size ∧ ob ≠ w.heap.size + 1 + 1; omega⟩
  have u0 : U.heap[w.heap.size]? = some (.cells #[.func (.func 12) #[] #[.pointer (some ⟨xo, 0, none⟩), .pointer (some ⟨xb, 0, none⟩)]] 41 (0, 0)) := by
    rw [← hU, Below.heap_alloc _ _ _ (by simp; omega), Below.heap_alloc _ _ _ (by simp)]
    exact new_at w _
  have u1 : U.heap[w.heap.size + 1]? = some (.cells #[.slice none 0 0] 23 (0, 0)) := by
    rw [← hU, Below.heap_alloc _ _ _ (by simp)]
    have := new_at (w.alloc (.cells #[.func (.func 12) #[] #[.pointer (some ⟨xo, 0, none⟩), .pointer (some ⟨xb, 0, none⟩)]] 41)) (.cells #[.slice none 0 0] 23)
    rwa [World.size_alloc] at this
  have u2 : U.heap[w.heap.size + 1 + 1]? = some (.cells #[.func (.func 21) #[] #[.pointer (some ⟨w.heap.size, 0, none⟩), .pointer (some ⟨w.heap.size + 1, 0, none⟩), .pointer (some ⟨w.heap.size + 1 + 1, 0, none⟩)]] 37 (0, 0)) := by
    rw [← hU]
    have h0 := new_at ((w.alloc (.cells #[.func (.func 12) #[] #[.pointer (some ⟨xo, 0, none⟩), .pointer (some ⟨xb, 0, none⟩)]] 41)).alloc (.cells #[.slice none 0 0] 23)) (.cells #[.func (.func 21) #[] #[.pointer (some ⟨w.heap.size, 0, none⟩), .pointer (some ⟨w.heap.size + 1, 0, none⟩), .pointer (some ⟨w.heap.size + 1 + 1, 0, none⟩)]] 37)
    rwa [World.size_alloc, World.size_alloc] at h0
  have hPI : PI ⟨xb, xo, ob, w.heap.size, w.heap.size + 1, w.heap.size + 1 + 1, m, ab, cb, B, w.heap.size + 1 + 1 + 1⟩ (List.replicate (m + 1) 0) [] U :=
    ⟨persist hxb hb, persist hxo hb, persist hob hb, u0, u2, ⟨_, u1, World.ownsRow_nil _ _ _ _⟩, hs.mono hb, tab.mono hb.size (hb.block 1 tab.1), by simp, by show w.heap.size + 1 + 1 + 1 ≤ _; omega⟩
  have hpl := perms_le h5
  have hm32 := (pow5 h5).2.2.2.2
  have HG := Lib.hid (grow_go _ hX m (2 ^ m - 1) [] (List.replicate (m + 1) 0) U.drew hm32 hpl.2 (by simp) (fun i => by simp [gn]) hPI.drew (fun i => by
    have : gn (List.replicate (m + 1) 0) i = 0 := by simp [gn, List.getD_eq_getElem?_getD, List.getElem?_replicate]; split <;> simp
    omega))
  obtain ⟨kw, kw2, kw3, kw4, _⟩ := pow5 h5
  have cg := one_atB u2
  have HU := Lib.hid hU
  have HB := Lib.hid hb
  have HU1 := Lib.hid u1
  clear hm32 hU hPI hpl hs tab hxb hxo hob hX hb u0 u1 u2 hsz hB
  go_enter Tryd.func11, Tryd.ntmps11
  go_wp2_with fail
  rw [HU.out]
  clear HU
  go_still_tail 4, (by kernel_rfl)
  change wpList _ _ _ _ _ U.drew
  go_wp2_with fail
  refine HG.out.mono ?_
  rintro e W2 ⟨rfl, hp, hm⟩
  have HP := Lib.hid hp
  have HM := Lib.hid hm
  clear hp hm HG cg
  go_wp2
  go_end0
  have hm := HM.out
  have hb := HB.out
  have hsz := hb.size
  refine ⟨rfl, HP.out.hob, hm.os.trans hb.os, hm.tape.trans hb.tape, hm.output.trans hb.output, by have := hm.size; have h2 : U.drew.heap.size = U.heap.size := rfl; omega, fun x hx hne => ?_⟩
  refine (hm.block x (by show x < U.heap.size; omega) (by show x ≠ w.heap.size + 1; omega) hne ?_).trans (hb.block x hx)
  rw [ownB_is (v := .slice none 0 0) HU1.out]
  simp [Value.ownBlock]
set_option maxHeartbeats 2000000 in
theorem hits_go (w : World) (a : Option Addr) (m cap : Nat) (B : List Nat) (hs : Sl w a m cap (ints B)) (h1 : 1 ≤ m) (h5 : m ≤ 5) (hB : ∀ i, gn B i < 2 ^ m) (tab : Tab w) :
    Calls Tryd.prog 4 #[.slice a m cap] w (GivesSlE w (ints (hitsL B m)) 0) := by
  have hb1 : Below w.heap.size w (w.alloc (.cells #[.slice a m cap] 23)) := bal (Below.refl _ _) _
  have HV := Lib.hid (valid_go _ a m cap B (hs.mono hb1) h1 h5 hB)
  have c1 := one_atB (new_at w (.cells #[.slice a m cap] 23))
  have hmk : ∀ w : World, (Instr.makeSlice 23 (.int .i64 ((m : Int) + 1)) (.int .i64 ((m : Int) + 1))).run Tryd.prog w = .ok (.slice (some ⟨w.heap.size, 0, none⟩) (m + 1) (m + 1)) (w.alloc (.cells ((List.replicate (m + 1) 0).map fun x : Nat => Value.int .i64 (x : Int)).toArray 3)) := fun w => by
    have := mkI_go w (m + 1) (by omega)
    simpa using this
  have HS := Lib.hid hs
  have HT := Lib.hid tab
  have HBB := Lib.hid hB
  have HB1 := Lib.hid hb1
  clear hs tab hB hb1
  go_enter Tryd.func4, Tryd.ntmps4
  go_wp2_with fail
  refine HV.out.mono ?_
  rintro e w2 ⟨rfl, hb2⟩
  have k2 := persist (new_at w (.cells #[.slice a m cap] 23)) hb2
  have c2 := one_atB k2
  have z2 := lt_of_block k2
  have HB2 := Lib.hid (btr HB1.out hb2)
  have HK2 := Lib.hid k2
  clear hb2 k2 HV
  obtain ⟨W3, hW3⟩ : ∃ W3, (w2.alloc (.cells (Array.replicate (m + 1) (Value.int .i64 0)) 3)).alloc (.cells #[.slice (some ⟨w2.heap.size, 0, none⟩) (m + 1) (m + 1)] 23) = W3 := ⟨_, rfl⟩
  have hb3 : Below w2.heap.size w2 W3 := by rw [← hW3]; exact bal (bal (Below.refl _ _) _) _
  have hs3 : W3.heap.size = w2.heap.size + 2 := by rw [← hW3]; simp
  have q0 : W3.heap[w2.heap.size]? = some (.cells (((List.replicate (m + 1) 0).map fun x : Nat => Value.int .i64 (x : Int)).toArray) 3 (0, 0)) := by
    rw [← hW3, Below.heap_alloc _ _ _ (by simp)]
    have := new_at w2 (.cells (Array.replicate (m + 1) (Value.int .i64 0)) 3)
    rw [this]
    congr 2
    simp
  have q1 : W3.heap[w2.heap.size + 1]? = some (.cells #[.slice (some ⟨w2.heap.size, 0, none⟩) (m + 1) (m + 1)] 23 (0, 0)) := by
    rw [← hW3]
    have h0 := new_at (w2.alloc (.cells (Array.replicate (m + 1) (Value.int .i64 0)) 3)) (.cells #[.slice (some ⟨w2.heap.size, 0, none⟩) (m + 1) (m + 1)] 23)
    rwa [World.size_alloc] at h0
  have hbw := btr HB2.out hb3
  have hz := HB2.out.size
  have hz1 := HT.out.1
  have HP := Lib.hid (perm_go W3 w.heap.size (w2.heap.size + 1) w2.heap.size m a cap B h1 h5 HBB.out (HS.out.mono hbw) (HT.out.mono hbw.size (hbw.block 1 HT.out.1)) (persist HK2.out hb3) q1 q0 (by omega) (fun b o e => by
    have hlt : b < w.heap.size := by
      rcases HS.out.parts3 with ⟨h, _⟩ | ⟨x, _, h, _⟩ | ⟨b', o', h, h2, _⟩
      · rw [h] at e; cases e
      · omega
      · rw [h] at e; cases e; exact h2
    omega))
  have HW3 := Lib.hid hW3
  have HB3 := Lib.hid hbw
  have HS3 := Lib.hid hs3
  have HQ1 := Lib.hid q1
  have HZ := Lib.hid hz
  clear hW3 hb3 hs3 q0 q1 hbw hz hz1
  go_wp2_with fail
  rw [HW3.out]
  clear HW3
  refine HP.out.mono ?_
  rintro e W4 ⟨rfl, r1, r2, r3, r4, r5, r6⟩
  have hs3 := HS3.out
  have hz := HZ.out
  have p1 := (r6 (w2.heap.size + 1) (by omega) (by omega)).trans HQ1.out
  have c4 := one_atB p1
  have hb4 : Below w.heap.size w W4 := ⟨r2.trans HB3.out.os, r3.trans HB3.out.tape, r4.trans HB3.out.output, by have := HB3.out.size; omega, fun k hk => (r6 k (by have := HB3.out.size; omega) (by omega)).trans (HB3.out.block k hk)⟩
  have HO := Lib.hid (show W4.ownsRow w.heap.size 3 1 (.slice (some ⟨w2.heap.size, 0, none⟩) (m + 1) (m + 1)) (m + 1) ((ints (hitsL B m)).map (Value.int .i64)) by
    have hlen : (hitsL B m).length = m + 1 := by
      have : ∀ (L : List (List Nat)) (c : List Nat), (bumpsB B m c L).length = c.length := by
        intro L
        induction L with
        | nil => intro c; rfl
        | cons l L ih => intro c; exact (ih _).trans (by simp)
      unfold hitsL
      rw [this]
      simp
    refine ⟨by simp [ints, hlen], .inr ⟨w2.heap.size, m + 1, _, rfl, hz, r1, Nat.le_refl _, by unfold maxLen; omega, by simp [hlen], ?_⟩⟩
    rw [List.take_of_length_le (by simp [hlen])]
    simp [ints])
  have HB4 := Lib.hid hb4
  clear r1 r2 r3 r4 r5 r6 p1 hb4 hs3 hz HP
  go_wp2
  go_ret2
  exact ⟨_, _, _, rfl, HO.out, HB4.out⟩
end Go.Proofs.YtiapngmallfelaaDoor
