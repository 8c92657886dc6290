/- Walk: the statement TopRegular. -/
import Derived.Test.YtiapngmallfelaaReg
namespace Go.Proofs.Ytiapngmallfelaa
open Go.RowKit

theorem set_small {L : List Nat} {i x : Nat} (h : ∀ y ∈ L, y < 65536) (hx : x < 65536) : ∀ y ∈ L.set i x, y < 65536 := by
  intro y hy
  rcases List.mem_or_eq_of_mem_set hy with h1 | h1
  · exact h y h1
  · rw [h1]; exact hx
theorem tieP_small {L : List Nat} {i j : Nat} (h : ∀ y ∈ L, y < 65536) (hi : i < 16) (hj : j < 16) : ∀ y ∈ tieP L i j, y < 65536 := by
  have h1 := set_small (i := i) h (Nat.or_lt_two_pow (n := 16) (gn_lt h (by omega) i) (pow16 hj))
  exact set_small h1 (Nat.or_lt_two_pow (n := 16) (gn_lt h1 (by omega) j) (pow16 hi))
theorem own_cell {w : World} {base g n cap : Nat} {L : List Nat} (hown : w.ownsRow base 3 1 (.slice (some ⟨g, 0, none⟩) n cap) n ((ints L).map (Value.int .i64))) {k : Nat} (hk : k < n) : w.cell? ⟨g, k, none⟩ = some (.int .i64 (gn L k)) := by
  have hl : L.length = n := by have := (own_sl hown).len; rwa [ints_length] at this
  rw [hown.cellAt k (by omega), List.getElem?_map, List.getElem?_eq_getElem (by rw [ints_length]; omega)]
  rw [← nth_ints, nth_of_lt (by rw [ints_length]; omega)]; rfl
theorem grown_drew {w w' : World} {r : Option Nat} (h : w.grownBy w' r) : w.grownBy w'.drew r := ⟨h.os, h.tape, h.output, h.size, h.block⟩
theorem rep_small (n : Nat) : ∀ y ∈ List.replicate n 0, y < 65536 := by
  intro y hy; rw [List.eq_of_mem_replicate hy]; omega

theorem perm_facts : (perm4.all fun q => ((q.map fun x => 2 ^ x).length == 4) && ((List.range 4).all fun i => decide (gn (q.map fun x => 2 ^ x) i < 2 ^ 4)) && ((q.map fun x => 2 ^ x).all fun x => decide (x < 65536))) = true := by decide +kernel
theorem perm_of {q : List Nat} (h : q ∈ perm4) : (q.map fun x => 2 ^ x).length = 4 ∧ (∀ i, i < 4 → gn (q.map fun x => 2 ^ x) i < 2 ^ 4) ∧ ∀ x ∈ q.map fun x => 2 ^ x, x < 65536 := by
  have := perm_facts
  rw [List.all_eq_true] at this
  have := this q h
  rw [Bool.and_eq_true, Bool.and_eq_true, beq_iff_eq, List.all_eq_true, List.all_eq_true] at this
  obtain ⟨⟨h1, h2⟩, h3⟩ := this
  exact ⟨h1, fun i hi => by have := h2 i (List.mem_range.2 hi); simpa using this, fun x hx => by have := h3 x hx; simpa using this⟩
theorem ok_of {p q : List Nat} (hp : p ∈ perm4) (hq : q ∈ perm4) : okX (tim (p.map fun x => 2 ^ x) (q.map fun x => 2 ^ x)) = true := by
  have := all_ok
  rw [List.all_eq_true] at this
  have := this p hp
  rw [List.all_eq_true] at this
  exact this q hq
theorem tim_len (H K : List Nat) : (tim H K).length = 16 := by simp [tim]
theorem tim_small (H K : List Nat) : ∀ x ∈ tim H K, x < 65536 := by
  intro x hx
  simp only [tim, List.mem_map] at hx
  obtain ⟨i, _, rfl⟩ := hx
  exact setTo_lt _ 16

theorem bt_zero (x : Nat) : bt x 0 = x % 2 := by unfold bt; simp
theorem and_one0 {x : Nat} (h : x < 65536) : bits .and .i64 (x : Int) 1 = (bt x 0 : Int) := by
  have := i64_and_nat x 1 (by omega) (by omega)
  rw [Nat.and_one_is_mod, ← bt_zero] at this
  exact this
theorem bt_ne2 (s t i j : Nat) : ((bt s i : Int) != (bt t j : Int)) = (s.testBit i != t.testBit j) := by
  rw [bt_test, bt_test]
  cases s.testBit i <;> cases t.testBit j <;> rfl
theorem read_any2 (w : World) (a : Option Addr) (n cap : Nat) (l : List Int) (hs : Sl w a n cap l) :
    Calls Try.prog 10 #[.slice a n cap] w fun e w' => (∃ N K L M er : Int, e = .returned (.tuple #[agg4 N K L M, .int .i64 er])) ∧ Below w.heap.size w w' := by
  by_cases hv : VldP l
  · obtain ⟨G, rfl, hG⟩ := vld_gr hv
    refine (read_go w a n cap G hs hG).mono ?_
    rintro e w' ⟨hb, ⟨k, l, m, _, rfl⟩ | ⟨_, rfl⟩⟩
    · exact ⟨⟨_, _, _, _, _, rfl⟩, hb⟩
    · exact ⟨⟨_, _, _, _, _, rfl⟩, hb⟩
  · refine (read_bad w a n cap l hs hv).mono ?_
    rintro e w' ⟨rfl, hb⟩
    exact ⟨⟨_, _, _, _, _, rfl⟩, hb⟩
set_option maxRecDepth 100000 in
set_option maxHeartbeats 4000000 in
theorem lreg_walk (w : World) (a b : Option Addr) (n cap m cap' : Nat) (l l' : List Int) (hs : Sl w a n cap l) (hs' : Sl w b m cap' l') :
    Calls Try.prog 3 #[.slice a n cap, .slice b m cap'] w fun e w' => e = .returned (.bool true) ∧ Below w.heap.size w w' := by
  obtain ⟨i0, hi, hz0, hz1, hz2⟩ := info_parts infoInt
  go_enter Try.func3, Try.ntmps3
  go_wp2_with fail
  refine (regular_go _ a n cap l hs).mono ?_
  rintro e w1 (⟨p, hp, a1, n1, c1, rfl, ho1, hb1⟩ | ⟨⟨v, rfl⟩, hb1⟩)
  · go_wp2_with fail
    refine (regular_go _ b m cap' l' (hs'.mono hb1)).mono ?_
    rintro e w2 (⟨q, hq, a2, n2, c2, rfl, ho2, hb2⟩ | ⟨⟨v, rfl⟩, hb2⟩)
    · have hB2 := btr hb1 hb2
      have hs1 := (own_sl ho1).mono hb2
      have hs2 := own_sl ho2
      obtain ⟨f1, f2, f3⟩ := perm_of hp
      obtain ⟨g1, g2, g3⟩ := perm_of hq
      have hok := ok_of hp hq
      generalize (p.map fun x => 2 ^ x) = H at *
      generalize (q.map fun x => 2 ^ x) = K at *
      obtain rfl : n1 = 4 := by have := hs1.len; rw [ints_length] at this; omega
      obtain rfl : n2 = 4 := by have := hs2.len; rw [ints_length] at this; omega
      clear ho1 ho2 hb1 hb2
      go_wp2_with fail
      refine (times_go _ a1 a2 c1 c2 H K hs1 hs2 f2 g2 f3 g3).mono ?_
      rintro e w3 ⟨a3, n3, c3, rfl, ho3, hb3⟩
      have hB3 := btr hB2 hb3
      have hs3 := own_sl ho3
      have hXl := tim_len H K
      have hXs := tim_small H K
      obtain rfl : n3 = 16 := by have := hs3.len; rw [ints_length, hXl] at this; exact this.symm
      generalize tim H K = X at *
      rcases hs3.parts with ⟨_, h0, _⟩ | ⟨b3, o3, rfl, hs4⟩
      · omega
      obtain ⟨hbz, hcell⟩ := hs4.icells (by omega)
      have HC := Lib.hid hcell
      have hnp : 16 ≤ c3 := hs4.2.1
      have hpl : c3 ≤ maxLen := hs4.2.2.1
      clear hB2 hb3 ho3 hs1 hs2 hs3 hs4 hcell f1 f2 f3 g1 g2 g3
      go_wp2_with (refine wpList_make_full w3 rfl _ _ 22 rfl w3.heap.size 3 i0 (.int .i64 0) 1 Try.underlying22 hi hz0 hz1 .i64 .i64 16 16 16 rfl rfl rfl rfl (by rw [hz2]; omega) (by unfold maxLen; omega) (Nat.le_refl _) ?_; intro w4 hown4 hgrow4)
      have hB4 : Below w3.heap.size w3 w4 := (Below.refl _ _).grown hgrow4 (Nat.le_refl _) (fun _ h => by cases h)
      rw [show (Value.int .i64 0).cells = #[Value.int .i64 0] from rfl, toList_madeCells_one, Nat.mul_one] at hown4
      have hown : w4.ownsRow w3.heap.size 3 1 (.slice (some ⟨w3.heap.size, 0, none⟩) 16 16) 16 ((ints (gI X 0)).map (Value.int .i64)) := by
        simpa [ints, gI] using hown4
      have hsm0 : Hid (∀ y ∈ gI X 0, y < 65536) := Lib.hid (rep_small 16)
      clear hown4 hgrow4
      have hX16 : ∀ i, gn X i < 65536 := gn_lt hXs (by omega)
      go_loopw [52] (fun t wr => ∃ i : Nat, i ≤ 16 ∧ t = .int .i64 i ∧ wr.ownsRow w3.heap.size 3 1 (.slice (some ⟨w3.heap.size, 0, none⟩) 16 16) 16 ((ints (gI X i)).map (Value.int .i64)) ∧ Hid (∀ y ∈ gI X i, y < 65536) ∧ Below w3.heap.size w3 wr) (fun t _ => 16 - (intOf t).toNat)
      case atStart => exact ⟨0, by omega, rfl, hown, hsm0, hB4⟩
      case round =>
        clear hown hsm0 hB4
        obtain ⟨i, hi6, rfl, hown, HS, hC⟩ := hrel
        by_cases hli : i < 16
        · have di : decide ((i : Int) < 16) = true := by simp; omega
          have hci : wr.cell? ⟨b3, o3 + i, none⟩ = some (.int .i64 (gn X i)) := (hC.cell (p := ⟨b3, o3 + i, none⟩) hbz).trans (HC.out i hli)
          have hbz2 := Nat.lt_of_lt_of_le hbz hC.size
          have hxi := hX16 i
          go_wp2
          obtain ⟨wz, rfl⟩ : ∃ wz : World, wz = wr := ⟨_, rfl⟩
          have HO := Lib.hid hown
          have HC1 := Lib.hid hC
          clear hown hC hci hbz2
          go_loopw [57] (fun t wr => ∃ j : Nat, j ≤ 16 ∧ t = .int .i64 j ∧ wr.ownsRow w3.heap.size 3 1 (.slice (some ⟨w3.heap.size, 0, none⟩) 16 16) 16 ((ints (gJ X i j (gI X i))).map (Value.int .i64)) ∧ Hid (∀ y ∈ gJ X i j (gI X i), y < 65536) ∧ Below w3.heap.size w3 wr) (fun t _ => 16 - (intOf t).toNat)
          case atStart => exact ⟨0, by omega, rfl, HO.out, HS, HC1.out⟩
          case round =>
            clear HS
            obtain ⟨j, hj6, rfl, hown, HS, hC⟩ := hrel
            by_cases hlj : j < 16
            · have hbit := bits_bt (gn X i) j (by omega)
              have HG := Lib.hid (show gJ X i (j + 1) (gI X i) = if (gn X i).testBit j && i != j then tieP (gJ X i j (gI X i)) i j else gJ X i j (gI X i) from rfl)
              generalize gJ X i j (gI X i) = L at *
              cases hb : (gn X i).testBit j with
              | false =>
                have t1 : ((bt (gn X i) j : Int) == 1) = false := by rw [bt_test, hb]; rfl
                have HG2 := Lib.hid (show gJ X i (j + 1) (gI X i) = L by rw [HG.out, hb]; rfl)
                clear hb
                go_wp2
                go_roundw
                case rel => exact ⟨j + 1, by omega, by go_num, by rw [HG2.out]; exact hown, by rw [HG2.out]; exact HS, hC⟩
                case measure => simp [intOf]; omega
              | true =>
                have t1 : ((bt (gn X i) j : Int) == 1) = true := by rw [bt_test, hb]; rfl
                by_cases e : i = j
                · have t2 : ((i : Int) != (j : Int)) = false := by simp; omega
                  have HG2 := Lib.hid (show gJ X i (j + 1) (gI X i) = L by rw [HG.out, e]; simp)
                  clear hb e
                  go_wp2
                  go_roundw
                  case rel => exact ⟨j + 1, by omega, by go_num, by rw [HG2.out]; exact hown, by rw [HG2.out]; exact HS, hC⟩
                  case measure => simp [intOf]; omega
                · have t2 : ((i : Int) != (j : Int)) = true := by simp; omega
                  have HG2 := Lib.hid (show gJ X i (j + 1) (gI X i) = tieP L i j by rw [HG.out, hb]; simp [e])
                  clear hb e
                  have l1 := gn_lt HS.out (by omega) i
                  have p1 := pow16 (show j < 16 by omega)
                  have p2 := pow16 (show i < 16 by omega)
                  have hs1 := set_small (i := i) HS.out (Nat.or_lt_two_pow (n := 16) l1 p1)
                  have l2 := gn_lt hs1 (by omega) j
                  have k1 := own_cell hown hli
                  have f1 := hown.frozenAt i
                  have o1 := i64_or_nat (gn L i) (2 ^ j) (by omega) (by omega)
                  rw [pow_cast] at o1
                  have o2 := i64_or_nat (gn (L.set i (gn L i ||| 2 ^ j)) j) (2 ^ i) (by omega) (by omega)
                  rw [pow_cast] at o2
                  have v1 : IntKind.i64.wrap (2 ^ j) = 2 ^ j := by rw [IntWalk.i64_left]; exact wrap_pow (by omega)
                  have v2 : IntKind.i64.wrap (2 ^ i) = 2 ^ i := by rw [IntWalk.i64_left]; exact wrap_pow (by omega)
                  have HT := Lib.hid (show tieP L i j = (L.set i (gn L i ||| 2 ^ j)).set j (gn (L.set i (gn L i ||| 2 ^ j)) j ||| 2 ^ i) from rfl)
                  have HS2 : Hid (∀ y ∈ tieP L i j, y < 65536) := Lib.hid (tieP_small HS.out (by omega) (by omega))
                  have hown1 := (hown.stored i (.int .i64 ((gn L i ||| 2 ^ j : Nat) : Int))).1.drew
                  rw [ints_set] at hown1
                  have HO1 := Lib.hid hown1
                  have HC2 := Lib.hid ((hC.setCell (p := ⟨w3.heap.size, i, none⟩) (Nat.le_refl _) (.int .i64 ((gn L i ||| 2 ^ j : Nat) : Int))).drew)
                  have hsz := hC.size
                  clear hown1 hs1 HS
                  go_wp2
                  go_region
                  go_wp2
                  have hown1 := HO1.out
                  have hC2 := HC2.out
                  clear HO1 HC2 k1 f1 hown hC
                  generalize (wr.setCell _ _).drew = wq at *
                  have k2 := own_cell hown1 hlj
                  have f2 := hown1.frozenAt j
                  go_region
                  go_wp2
                  go_roundw
                  case rel =>
                    refine ⟨j + 1, by omega, by go_num, ?_, by rw [HG2.out]; exact HS2, (hC2.setCell (p := ⟨w3.heap.size, j, none⟩) (Nat.le_refl _) _).drew⟩
                    rw [HG2.out, HT.out, ← ints_set]
                    exact (hown1.stored j _).1.drew
                  case measure => simp [intOf]; omega
            · obtain rfl : j = 16 := by omega
              go_wp2
              go_roundw
              case rel => exact ⟨i + 1, by omega, by go_num, hown, HS, hC⟩
              case measure => simp [intOf]; omega
        · have hi16 : i = 16 := by omega
          have di : decide ((i : Int) < 16) = false := by simp; omega
          have HI := Lib.hid hi16
          have HSG := Lib.hid (own_sl hown)
          have HC3 := Lib.hid hC
          have hbz2 := Nat.lt_of_lt_of_le hbz hC.size
          clear hi16 hown hC HS hli
          obtain ⟨w5, rfl⟩ : ∃ w5 : World, w5 = wr := ⟨_, rfl⟩
          go_wp2
          go_loopw [90] (fun t wr => ∃ r : Nat, r ≤ 16 ∧ t = .int .i64 r ∧ Hid (∀ x, x < r → ∀ c, c < 16 → symE X x c = true) ∧ Below w5.heap.size w5 wr) (fun t _ => 16 - (intOf t).toNat)
          case atStart => exact ⟨0, by omega, rfl, Lib.hid (fun x hx => by omega), Below.refl _ _⟩
          case round =>
            obtain ⟨r, hr6, rfl, HY, hD⟩ := hrel
            have hbz3 := Nat.lt_of_lt_of_le hbz2 hD.size
            by_cases hlr : r < 16
            · have dr : decide ((r : Int) < 16) = true := by simp; omega
              have hcr : wr.cell? ⟨b3, o3 + r, none⟩ = some (.int .i64 (gn X r)) := ((btr HC3.out hD).cell (p := ⟨b3, o3 + r, none⟩) hbz).trans (HC.out r hlr)
              have hxr := hX16 r
              go_wp2
              obtain ⟨wz, rfl⟩ : ∃ wz : World, wz = wr := ⟨_, rfl⟩
              have HD1 := Lib.hid hD
              clear hD hcr hbz3
              go_loopw [95] (fun t wr => ∃ c : Nat, c ≤ 16 ∧ t = .int .i64 c ∧ Hid (∀ y, y < c → symE X r y = true) ∧ Below w5.heap.size w5 wr) (fun t _ => 16 - (intOf t).toNat)
              case atStart => exact ⟨0, by omega, rfl, Lib.hid (fun x hx => by omega), HD1.out⟩
              case round =>
                obtain ⟨c, hc6, rfl, HZ, hD⟩ := hrel
                have hbz3 := Nat.lt_of_lt_of_le hbz2 hD.size
                by_cases hlc : c < 16
                · have dc : decide ((c : Int) < 16) = true := by simp; omega
                  have hcc : wr.cell? ⟨b3, o3 + c, none⟩ = some (.int .i64 (gn X c)) := ((btr HC3.out hD).cell (p := ⟨b3, o3 + c, none⟩) hbz).trans (HC.out c hlc)
                  have hc0 : wr.cell? ⟨b3, o3, none⟩ = some (.int .i64 (gn X 0)) := by
                    have := ((btr HC3.out hD).cell (p := ⟨b3, o3 + 0, none⟩) hbz).trans (HC.out 0 (by omega))
                    rwa [Nat.add_zero] at this
                  have q1 := bits_bt (gn X r) c (by omega)
                  have q2 := bits_bt (gn X c) r (by have := hX16 c; omega)
                  have q3 := bits_bt (gn X r) r (by omega)
                  have q4 : bits .and .i64 ((gn X 0 : Nat) : Int) 1 = (bt (gn X 0) 0 : Int) := and_one0 (hX16 0)
                  have n1 := bt_ne2 (gn X r) (gn X c) c r
                  have n2 := bt_ne2 (gn X r) (gn X 0) r 0
                  have HSE := Lib.hid (show symE X r c = (((gn X r).testBit c == (gn X c).testBit r) && ((gn X r).testBit r == (gn X 0).testBit 0)) from rfl)
                  cases s1 : ((gn X r).testBit c != (gn X c).testBit r) with
                  | true =>
                    rw [s1] at n1
                    clear s1
                    go_wp2
                    go_quiet (fail)
                    go_wp2_with fail
                    refine (ties_go _).mono ?_
                    rintro e wq ⟨rfl, hbq⟩
                    go_wp2
                    go_ret
                    exact ⟨rfl, btr hB3 (btr HC3.out (btr (drewN_below hD) hbq))⟩
                  | false =>
                    rw [s1] at n1
                    cases s2 : ((gn X r).testBit r != (gn X 0).testBit 0) with
                    | true =>
                      rw [s2] at n2
                      clear s1 s2
                      go_wp2
                      go_quiet (fail)
                      go_wp2_with fail
                      refine (ties_go _).mono ?_
                      rintro e wq ⟨rfl, hbq⟩
                      go_wp2
                      go_ret
                      exact ⟨rfl, btr hB3 (btr HC3.out (btr (drewN_below hD) hbq))⟩
                    | false =>
                      rw [s2] at n2
                      have hse : symE X r c = true := by rw [HSE.out]; revert s1 s2; cases (gn X r).testBit c <;> cases (gn X c).testBit r <;> cases (gn X r).testBit r <;> cases (gn X 0).testBit 0 <;> simp
                      have HZ2 : Hid (∀ y, y < c + 1 → symE X r y = true) := Lib.hid (fun y hy => by
                        by_cases e : y = c
                        · subst e; exact hse
                        · exact HZ.out y (by omega))
                      clear s1 s2 hse
                      go_wp2
                      go_quiet (fail)
                      go_wp2
                      go_roundw
                      case rel => exact ⟨c + 1, by omega, by go_num, HZ2, drewN_below hD⟩
                      case measure => simp [intOf]; omega
                · obtain rfl : c = 16 := by omega
                  have HY2 : Hid (∀ x, x < r + 1 → ∀ c, c < 16 → symE X x c = true) := Lib.hid (fun x hx d hd => by
                    by_cases e : x = r
                    · subst e; exact HZ.out d hd
                    · exact HY.out x (by omega) d hd)
                  go_wp2
                  go_roundw
                  case rel => exact ⟨r + 1, by omega, by go_num, HY2, hD⟩
                  case measure => simp [intOf]; omega
            · have hr16 : r = 16 := by omega
              have dr : decide ((r : Int) < 16) = false := by simp; omega
              have hsym : symB X = true := by
                unfold symB
                rw [List.all_eq_true]
                intro x hx
                rw [List.all_eq_true]
                intro c hc
                exact HY.out x (by have := List.mem_range.1 hx; omega) c (List.mem_range.1 hc)
              have hE := btr HC3.out hD
              have hc0 : wr.cell? ⟨b3, o3, none⟩ = some (.int .i64 (gn X 0)) := by
                have := (hE.cell (p := ⟨b3, o3 + 0, none⟩) hbz).trans (HC.out 0 (by omega))
                rwa [Nat.add_zero] at this
              have q4 : bits .and .i64 ((gn X 0 : Nat) : Int) 1 = (bt (gn X 0) 0 : Int) := and_one0 (hX16 0)
              have hsg := HSG.out.mono hD
              rw [HI.out] at hsg
              have HH := Lib.hid hsg
              clear hsg hr16 hc0
              cases hb : (gn X 0).testBit 0 with
              | true =>
                have t1 : ((bt (gn X 0) 0 : Int) == 1) = true := by rw [bt_test, hb]; rfl
                clear hb
                go_wp2_with fail
                refine (read_any2 _ _ _ _ _ HH.out).mono ?_
                rintro e wa ⟨⟨N, K, L, M, er, rfl⟩, hba⟩
                have hF := btr hE hba
                have hc0 : wa.cell? ⟨b3, o3, none⟩ = some (.int .i64 (gn X 0)) := by
                  have := (hF.cell (p := ⟨b3, o3 + 0, none⟩) hbz).trans (HC.out 0 (by omega))
                  rwa [Nat.add_zero] at this
                have hbz4 := Nat.lt_of_lt_of_le hbz hF.size
                go_wp2_with fail
                refine (ties_go _).mono ?_
                rintro e wq ⟨rfl, hbq⟩
                go_wp2
                go_ret
                exact ⟨rfl, btr hB3 (btr (bal hF _) hbq)⟩
              | false =>
                have t1 : ((bt (gn X 0) 0 : Int) == 1) = false := by rw [bt_test, hb]; rfl
                unfold okX at hok
                rw [hsym, hb] at hok
                simp only [Bool.not_true, Bool.false_or, Bool.and_eq_true, beq_iff_eq] at hok
                obtain ⟨⟨k1, k2⟩, k3⟩ := hok
                have HGr := Lib.hid (grB_gr k1)
                have HNm := Lib.hid (numB_num k2)
                have HLn := Lib.hid k3
                clear hb k1 k2 k3
                go_wp2_with fail
                refine (read_num _ _ _ _ _ HH.out HGr.out HNm.out).mono ?_
                rw [HLn.out]
                rintro e wa ⟨rfl, hba⟩
                have hF := btr hE hba
                have hc0 : wa.cell? ⟨b3, o3, none⟩ = some (.int .i64 (gn X 0)) := by
                  have := (hF.cell (p := ⟨b3, o3 + 0, none⟩) hbz).trans (HC.out 0 (by omega))
                  rwa [Nat.add_zero] at this
                have hbz4 := Nat.lt_of_lt_of_le hbz hF.size
                go_wp2_with fail
                refine (ties_go _).mono ?_
                rintro e wq ⟨rfl, hbq⟩
                go_wp2
                go_ret
                exact ⟨rfl, btr hB3 (btr (bal hF _) hbq)⟩
    · go_wp2_with fail
      refine (ties_go _).mono ?_
      rintro e wz ⟨rfl, hbz⟩
      go_wp2
      go_ret
      exact ⟨rfl, btr (btr hb1 hb2) hbz⟩
  · go_wp2_with fail
    refine (regular_go _ b m cap' l' (hs'.mono hb1)).mono ?_
    rintro e w2 (⟨q, hq, a2, n2, c2, rfl, ho2, hb2⟩ | ⟨⟨v2, rfl⟩, hb2⟩)
    · go_wp2_with fail
      refine (ties_go _).mono ?_
      rintro e wz ⟨rfl, hbz⟩
      go_wp2
      go_ret
      exact ⟨rfl, btr (btr hb1 hb2) hbz⟩
    · go_wp2_with fail
      refine (ties_go _).mono ?_
      rintro e wz ⟨rfl, hbz⟩
      go_wp2
      go_ret
      exact ⟨rfl, btr (btr hb1 hb2) hbz⟩
end Go.Proofs.Ytiapngmallfelaa
