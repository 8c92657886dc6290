/- Walks: tie, and Grid and Squares of the reference. -/
import Derived.Test.YtijnpcehjnaaiaaLFam
namespace Go.Proofs.Ytijnpcehjnaaiaa
open Go.RowKit

def tieL (L : List Nat) (i j : Nat) : List Nat := (L.set i (gn L i ||| 2 ^ j)).set j (gn (L.set i (gn L i ||| 2 ^ j)) j ||| 2 ^ i)
theorem tieL_length (L : List Nat) (i j : Nat) : (tieL L i j).length = L.length := by simp [tieL]
theorem set_small {L : List Nat} {i x : Nat} (h : ∀ y ∈ L, y < 65536) (hx : x < 65536) : ∀ y ∈ L.set i x, y < 65536 := by
  intro y hy
  rcases List.mem_or_eq_of_mem_set hy with h1 | h1
  · exact h y h1
  · rw [h1]; exact hx
theorem tieL_small {L : List Nat} {i j : Nat} (h : ∀ y ∈ L, y < 65536) (hi : i < 16) (hj : j < 16) : ∀ y ∈ tieL L i j, y < 65536 := by
  have h1 := set_small (i := i) h (Nat.or_lt_two_pow (n := 16) (gn_lt h (by omega) i) (pow16 hj))
  exact set_small h1 (Nat.or_lt_two_pow (n := 16) (gn_lt h1 (by omega) j) (pow16 hi))
theorem own_cell {w : World} {base g n cap : Nat} {L : List Nat} (hown : w.ownsRow base 3 1 (.slice (some ⟨g, 0, none⟩) n cap) n ((ints L).map (Value.int .i64))) {k : Nat} (hk : k < n) : w.cell? ⟨g, k, none⟩ = some (.int .i64 (gn L k)) := by
  have hl : L.length = n := by have := (own_sl hown).len; rwa [ints_length] at this
  rw [hown.cellAt k (by omega), List.getElem?_map, List.getElem?_eq_getElem (by rw [ints_length]; omega)]
  rw [← nth_ints, nth_of_lt (by rw [ints_length]; omega)]; rfl

theorem grown_drew {w w' : World} {r : Option Nat} (h : w.grownBy w' r) : w.grownBy w'.drew r := ⟨h.os, h.tape, h.output, h.size, h.block⟩

set_option maxHeartbeats 400000 in
theorem tie_go (w : World) (base g n cap : Nat) (L : List Nat) (i j : Nat) (hown : w.ownsRow base 3 1 (.slice (some ⟨g, 0, none⟩) n cap) n ((ints L).map (Value.int .i64))) (hs : ∀ y ∈ L, y < 65536) (hi : i < n) (hj : j < n) (hn : n ≤ 16) :
    Calls Try.prog 63 #[.slice (some ⟨g, 0, none⟩) n cap, .int .i64 i, .int .i64 j] w fun e w' => e = .returned (.tuple #[]) ∧ w'.ownsRow base 3 1 (.slice (some ⟨g, 0, none⟩) n cap) n ((ints (tieL L i j)).map (Value.int .i64)) ∧ w.grownBy w' (some g) := by
  have l1 := gn_lt hs (by omega) i
  have p1 := pow16 (show j < 16 by omega)
  have p2 := pow16 (show i < 16 by omega)
  have hs1 := set_small (i := i) hs (Nat.or_lt_two_pow (n := 16) l1 p1)
  have l2 := gn_lt hs1 (by omega) j
  have c1 := own_cell hown hi
  have f1 := hown.frozenAt i
  have o1 := i64_or_nat (gn L i) (2 ^ j) (by omega) (by omega)
  rw [pow_cast] at o1
  have o2 := i64_or_nat (gn (L.set i (gn L i ||| 2 ^ j)) j) (2 ^ i) (by omega) (by omega)
  rw [pow_cast] at o2
  have w1 : IntKind.i64.wrap (2 ^ j) = 2 ^ j := by rw [IntWalk.i64_left]; exact wrap_pow (by omega)
  have w2 : IntKind.i64.wrap (2 ^ i) = 2 ^ i := by rw [IntWalk.i64_left]; exact wrap_pow (by omega)
  have HT := Lib.hid (show tieL L i j = (L.set i (gn L i ||| 2 ^ j)).set j (gn (L.set i (gn L i ||| 2 ^ j)) j ||| 2 ^ i) from rfl)
  have hown1 := (hown.stored i (.int .i64 ((gn L i ||| 2 ^ j : Nat) : Int))).1.drew
  have hg1 := grown_drew (hown.stored i (.int .i64 ((gn L i ||| 2 ^ j : Nat) : Int))).2
  rw [ints_set] at hown1
  have HO1 := Lib.hid hown1
  have HG1 := Lib.hid hg1
  clear hown1 hg1 hs hs1
  go_enter Try.func63, Try.ntmps63
  go_wp2
  go_region
  go_wp2
  have hown1 := HO1.out
  have hg1 := HG1.out
  clear HO1 HG1 c1 f1
  generalize (w.setCell _ _).drew = wq at *
  have c2 := own_cell hown1 hj
  have f2 := hown1.frozenAt j
  go_region
  go_end0
  refine ⟨rfl, ?_, ?_⟩
  · rw [HT.out, ← ints_set]
    exact (hown1.stored j _).1.drew
  · have h2 := grown_drew (hown1.stored j (.int .i64 ((gn (L.set i (gn L i ||| 2 ^ j)) j ||| 2 ^ i : Nat) : Int))).2
    refine ⟨h2.os.trans hg1.os, h2.tape.trans hg1.tape, h2.output.trans hg1.output, Nat.le_trans hg1.size h2.size, fun k hk hne => ?_⟩
    rw [h2.block k (Nat.lt_of_lt_of_le hk hg1.size) hne]
    exact hg1.block k hk hne

def rgRow (n : Nat) (L : List Nat) (i : Nat) : Nat → List Nat
  | 0 => L
  | j + 1 => if nearGrid n i j then tieL (rgRow n L i j) i j else rgRow n L i j
def rgTo (n : Nat) : Nat → List Nat
  | 0 => List.replicate (n * n) 0
  | i + 1 => rgRow n (rgTo n i) i i
def rsRow (p : Nat) (L : List Nat) (i : Nat) : Nat → List Nat
  | 0 => L
  | t + 1 => tieL (rsRow p L i t) i ((i + (t + 1) * (t + 1)) % p)
def rsTo (p : Nat) : Nat → List Nat
  | 0 => List.replicate p 0
  | i + 1 => rsRow p (rsTo p i) i (p - 1)
theorem rep_small (n : Nat) : ∀ y ∈ List.replicate n 0, y < 65536 := by
  intro y hy; rw [List.eq_of_mem_replicate hy]; omega
theorem rg_end {n : Nat} (h2 : 2 ≤ n) (h4 : n ≤ 4) : rgTo n (n * n) = gridL n := by
  have : n = 2 ∨ n = 3 ∨ n = 4 := by omega
  rcases this with rfl | rfl | rfl <;> decide +kernel
theorem rs_end {p : Nat} (hp : p = 5 ∨ p = 13) : rsTo p p = squaresL p := by
  rcases hp with rfl | rfl <;> decide +kernel

set_option maxHeartbeats 1000000 in
theorem rgrid_go (w : World) (n : Nat) (h2 : 2 ≤ n) (h4 : n ≤ 4) :
    Calls Try.prog 33 #[.int .i64 n] w (GivesSl w (ints (gridL n))) := by
  obtain ⟨i0, hi, hz0, hz1, hz2⟩ := info_parts infoInt
  have hmul : n * n ≤ 16 := by have : n * n ≤ 4 * 4 := Nat.mul_le_mul h4 h4; omega
  have hm : (n : Int) * (n : Int) = ((n * n : Nat) : Int) := by simp
  have hw : wrap64 ((n * n : Nat) : Int) = ((n * n : Nat) : Int) := IntWalk.wrap64_in _ (by omega)
  have HE := Lib.hid (rg_end h2 h4)
  have HR := Lib.hid (show rgTo n 0 = List.replicate (n * n) 0 from rfl)
  have hne : ¬ n = 0 := by omega
  generalize hN : n * n = N at *
  clear hN
  go_enter Try.func33, Try.ntmps33
  go_wp2_with (refine wpList_make_full w rfl _ _ 22 rfl w.heap.size 3 i0 (.int .i64 0) 1 Try.underlying22 hi hz0 hz1 .i64 .i64 N N N rfl rfl rfl rfl (by rw [hz2]; omega) (by unfold maxLen; omega) (Nat.le_refl _) ?_; intro w1 hown1 hgrow1)
  have hB1 : Below w.heap.size w w1 := (Below.refl _ _).grown hgrow1 (Nat.le_refl _) (fun _ h => by cases h)
  rw [show (Value.int .i64 0).cells = #[Value.int .i64 0] from rfl, toList_madeCells_one, Nat.mul_one] at hown1
  have hown : w1.ownsRow w.heap.size 3 1 (.slice (some ⟨w.heap.size, 0, none⟩) N N) N ((ints (rgTo n 0)).map (Value.int .i64)) := by
    rw [HR.out]; simpa [ints] using hown1
  have hsm0 : Hid (∀ y ∈ rgTo n 0, y < 65536) := by rw [HR.out]; exact rep_small _
  clear hown1 hgrow1
  go_loopw [12] (fun t wr => ∃ i : Nat, i ≤ N ∧ t = .int .i64 i ∧ wr.ownsRow w.heap.size 3 1 (.slice (some ⟨w.heap.size, 0, none⟩) N N) N ((ints (rgTo n i)).map (Value.int .i64)) ∧ Hid (∀ y ∈ rgTo n i, y < 65536) ∧ Below w.heap.size w wr) (fun t _ => N - (intOf t).toNat)
  case atStart => exact ⟨0, by omega, rfl, hown, hsm0, hB1⟩
  case round =>
    clear hown hsm0 hB1
    obtain ⟨i, hi, rfl, hown, HS, hbw⟩ := hrel
    by_cases hli : i < N
    · go_wp2
      obtain ⟨w2, rfl⟩ : ∃ w2 : World, w2 = wr := ⟨_, rfl⟩
      go_loopw [16] (fun t wr => ∃ j : Nat, j ≤ i ∧ t = .int .i64 j ∧ wr.ownsRow w.heap.size 3 1 (.slice (some ⟨w.heap.size, 0, none⟩) N N) N ((ints (rgRow n (rgTo n i) i j)).map (Value.int .i64)) ∧ Hid (∀ y ∈ rgRow n (rgTo n i) i j, y < 65536) ∧ Below w.heap.size w wr) (fun t _ => i - (intOf t).toNat)
      case atStart => exact ⟨0, by omega, by first | rfl | go_num, hown, HS, hbw⟩
      case round =>
        clear hown HS hbw
        obtain ⟨j, hj, rfl, hown, HS, hbw⟩ := hrel
        by_cases hlj : j < i
        · have HF := Lib.hid (show nearGrid n i j = ((i / n == j / n) || (i % n == j % n)) from rfl)
          have HG := Lib.hid (show rgRow n (rgTo n i) i (j + 1) = if nearGrid n i j then tieL (rgRow n (rgTo n i) i j) i j else rgRow n (rgTo n i) i j from rfl)
          generalize rgRow n (rgTo n i) i j = L at *
          generalize hnear : nearGrid n i j = nr at *
          have HN := Lib.hid hnear
          clear hnear
          have e1 : (i : Int).tdiv n = ((i / n : Nat) : Int) := by rw [Int.tdiv_eq_ediv_of_nonneg (by omega)]; simp
          have e2 : (j : Int).tdiv n = ((j / n : Nat) : Int) := by rw [Int.tdiv_eq_ediv_of_nonneg (by omega)]; simp
          have e3 : (i : Int).tmod n = ((i % n : Nat) : Int) := by rw [Int.tmod_eq_emod_of_nonneg (by omega)]; simp
          have e4 : (j : Int).tmod n = ((j % n : Nat) : Int) := by rw [Int.tmod_eq_emod_of_nonneg (by omega)]; simp
          have f1 : (i : Int) / n = ((i / n : Nat) : Int) := by simp
          have f2 : (j : Int) / n = ((j / n : Nat) : Int) := by simp
          have f3 : (i : Int) % n = ((i % n : Nat) : Int) := by simp
          have f4 : (j : Int) % n = ((j % n : Nat) : Int) := by simp
          have w1 : IntKind.i64.wrap ((i / n : Nat) : Int) = ((i / n : Nat) : Int) := wrap_i64n _ (by have := Nat.div_le_self i n; omega)
          have w2' : IntKind.i64.wrap ((j / n : Nat) : Int) = ((j / n : Nat) : Int) := wrap_i64n _ (by have := Nat.div_le_self j n; omega)
          generalize i / n = a at *
          generalize j / n = b at *
          generalize i % n = c at *
          generalize j % n = d at *
          have main : ∀ (x y : Bool), ((a : Int) == (b : Int)) = x → (x = false → ((c : Int) == (d : Int)) = y) → (x = true → y = true) → nr = y := fun x y hx hy hxy => by
            rw [HF.out]
            cases x with
            | true =>
              rw [hxy rfl]
              have : a = b := by have h := beq_iff_eq.1 hx; omega
              simp [this]
            | false =>
              have h1 := hy rfl
              have : a ≠ b := by have h := beq_eq_false_iff_ne.1 hx; omega
              rw [← h1]
              have e : (a == b) = false := by simp [this]
              rw [e, Bool.eq_iff_iff]; simp; omega
          have HM := Lib.hid main
          clear main
          by_cases q : a = b
          · have tq : ((a : Int) == (b : Int)) = true := by rw [q]; simp
            have hnr := HM.out true true tq (fun h => by cases h) (fun _ => rfl)
            clear q
            rw [hnr] at HG
            clear hnr HF HN HM
            have hbd := hbw.drew
            go_wp2
            go_quiet (fail)
            go_wp2_with fail
            refine (tie_go _ w.heap.size w.heap.size N N L i j (by exact hown) HS.out hli (by omega) hmul).mono ?_
            rintro e w3 ⟨rfl, hown3, hg3⟩
            have hb3 := (drewN_below (n := nq) hbw).grown hg3 hbw.size (fun k hk => by simp at hk; omega)
            have HS3 : Hid (∀ y ∈ tieL L i j, y < 65536) := tieL_small HS.out (by omega) (by omega)
            clear hown hg3 hbw hbd
            go_wp2
            go_roundw
            case rel =>
              rw [if_pos trivial] at HG
              exact ⟨j + 1, by omega, by go_num, by rw [HG.out]; exact hown3, by rw [HG.out]; exact HS3, hb3⟩
            case measure => simp [intOf]; omega
          · have tq : ((a : Int) == (b : Int)) = false := by simp; omega
            by_cases q2 : c = d
            · have tq2 : ((c : Int) == (d : Int)) = true := by rw [q2]; simp
              have hnr := HM.out false true tq (fun _ => tq2) (fun h => by cases h)
              clear q2
              clear q
              rw [hnr] at HG
              clear hnr HF HN HM
              have hbd := hbw.drew
              go_wp2
              go_quiet (fail)
              go_wp2_with fail
              refine (tie_go _ w.heap.size w.heap.size N N L i j (by exact hown) HS.out hli (by omega) hmul).mono ?_
              rintro e w3 ⟨rfl, hown3, hg3⟩
              have hb3 := (drewN_below (n := nq) hbw).grown hg3 hbw.size (fun k hk => by simp at hk; omega)
              have HS3 : Hid (∀ y ∈ tieL L i j, y < 65536) := tieL_small HS.out (by omega) (by omega)
              clear hown hg3 hbw hbd
              go_wp2
              go_roundw
              case rel =>
                rw [if_pos trivial] at HG
                exact ⟨j + 1, by omega, by go_num, by rw [HG.out]; exact hown3, by rw [HG.out]; exact HS3, hb3⟩
              case measure => simp [intOf]; omega
            · have tq2 : ((c : Int) == (d : Int)) = false := by simp; omega
              have hnr := HM.out false false tq (fun _ => tq2) (fun h => by cases h)
              clear q2
              clear q
              rw [hnr] at HG
              clear hnr HF HN HM
              have hbd := hbw.drew
              go_wp2
              go_quiet (fail)
              go_wp2
              go_roundw
              case rel =>
                rw [if_neg (by decide)] at HG
                exact ⟨j + 1, by omega, by go_num, by rw [HG.out]; exact hown, by rw [HG.out]; exact HS, drewN_below hbw⟩
              case measure => simp [intOf]; omega
        · obtain rfl : j = i := by omega
          go_wp2
          go_roundw
          case rel => exact ⟨j + 1, by omega, by go_num, hown, HS, hbw⟩
          case measure => simp [intOf]; omega
    · obtain rfl : i = N := by omega
      go_wp2
      go_ret
      rw [HE.out] at hown
      exact own_gives hown hbw

set_option maxHeartbeats 1000000 in
theorem rsquares_go (w : World) (p : Nat) (hp : p = 5 ∨ p = 13) :
    Calls Try.prog 31 #[.int .i64 p] w (GivesSl w (ints (squaresL p))) := by
  obtain ⟨i0, hi, hz0, hz1, hz2⟩ := info_parts infoInt
  have HE := Lib.hid (rs_end hp)
  have hp16 : p ≤ 13 := by omega
  have hp5 : 5 ≤ p := by omega
  clear hp
  have hne : ¬ p = 0 := by omega
  go_enter Try.func31, Try.ntmps31
  go_wp2_with (refine wpList_make_full w rfl _ _ 22 rfl w.heap.size 3 i0 (.int .i64 0) 1 Try.underlying22 hi hz0 hz1 .i64 .i64 p p p rfl rfl rfl rfl (by rw [hz2]; omega) (by unfold maxLen; omega) (Nat.le_refl _) ?_; intro w1 hown1 hgrow1)
  have hB1 : Below w.heap.size w w1 := (Below.refl _ _).grown hgrow1 (Nat.le_refl _) (fun _ h => by cases h)
  rw [show (Value.int .i64 0).cells = #[Value.int .i64 0] from rfl, toList_madeCells_one, Nat.mul_one] at hown1
  have hown : w1.ownsRow w.heap.size 3 1 (.slice (some ⟨w.heap.size, 0, none⟩) p p) p ((ints (rsTo p 0)).map (Value.int .i64)) := by
    simpa [ints, rsTo] using hown1
  have hsm0 : Hid (∀ y ∈ rsTo p 0, y < 65536) := rep_small _
  clear hown1 hgrow1
  go_loopw [9] (fun t wr => ∃ i : Nat, i ≤ p ∧ t = .int .i64 i ∧ wr.ownsRow w.heap.size 3 1 (.slice (some ⟨w.heap.size, 0, none⟩) p p) p ((ints (rsTo p i)).map (Value.int .i64)) ∧ Hid (∀ y ∈ rsTo p i, y < 65536) ∧ Below w.heap.size w wr) (fun t _ => p - (intOf t).toNat)
  case atStart => exact ⟨0, by omega, rfl, hown, hsm0, hB1⟩
  case round =>
    clear hown hsm0 hB1
    obtain ⟨i, hi, rfl, hown, HS, hbw⟩ := hrel
    by_cases hli : i < p
    · go_wp2
      obtain ⟨w2, rfl⟩ : ∃ w2 : World, w2 = wr := ⟨_, rfl⟩
      go_loopw [5] (fun t wr => ∃ x : Nat, 1 ≤ x ∧ x ≤ p ∧ t = .int .i64 x ∧ wr.ownsRow w.heap.size 3 1 (.slice (some ⟨w.heap.size, 0, none⟩) p p) p ((ints (rsRow p (rsTo p i) i (x - 1))).map (Value.int .i64)) ∧ Hid (∀ y ∈ rsRow p (rsTo p i) i (x - 1), y < 65536) ∧ Below w.heap.size w wr) (fun t _ => p - (intOf t).toNat)
      case atStart => exact ⟨1, by omega, by omega, rfl, hown, HS, hbw⟩
      case round =>
        clear hown HS hbw
        obtain ⟨x, h1x, hx, rfl, hown, HS, hbw⟩ := hrel
        by_cases hlx : x < p
        · have HG := Lib.hid (show rsRow p (rsTo p i) i x = tieL (rsRow p (rsTo p i) i (x - 1)) i ((i + x * x) % p) by
            obtain ⟨y, rfl⟩ : ∃ y, x = y + 1 := ⟨x - 1, by omega⟩
            rfl)
          generalize rsRow p (rsTo p i) i (x - 1) = L at *
          have hkk : x * x ≤ 169 := by have : x * x ≤ 13 * 13 := Nat.mul_le_mul (by omega) (by omega); omega
          have hr : (i + x * x) % p < p := Nat.mod_lt _ (by omega)
          have m1 : (x : Int) * (x : Int) = ((x * x : Nat) : Int) := by simp
          have m2 : (i : Int) + ((x * x : Nat) : Int) = ((i + x * x : Nat) : Int) := by simp
          have m3 : ((i + x * x : Nat) : Int) % p = (((i + x * x) % p : Nat) : Int) := by simp
          generalize (i + x * x) % p = r at *
          generalize hss : i + x * x = ss at *
          have hssb : ss ≤ 200 := by omega
          clear hss
          generalize x * x = kk at *
          go_wp2_with fail
          refine (tie_go _ w.heap.size w.heap.size p p L i r hown HS.out hli hr (by omega)).mono ?_
          rintro e w3 ⟨rfl, hown3, hg3⟩
          have hb3 := hbw.grown hg3 hbw.size (fun k hk => by simp at hk; omega)
          have HS3 : Hid (∀ y ∈ tieL L i r, y < 65536) := tieL_small HS.out (by omega) (by omega)
          clear hown hg3 hbw
          go_wp2
          go_roundw
          case rel => exact ⟨x + 1, by omega, by omega, by go_num, by rw [Nat.add_sub_cancel, HG.out]; exact hown3, by rw [Nat.add_sub_cancel, HG.out]; exact HS3, hb3⟩
          case measure => simp [intOf]; omega
        · obtain rfl : x = p := by omega
          go_wp2
          go_roundw
          case rel => exact ⟨i + 1, by omega, by go_num, hown, HS, hbw⟩
          case measure => simp [intOf]; omega
    · obtain rfl : i = p := by omega
      go_wp2
      go_ret
      rw [HE.out] at hown
      exact own_gives hown hbw
end Go.Proofs.Ytijnpcehjnaaiaa
