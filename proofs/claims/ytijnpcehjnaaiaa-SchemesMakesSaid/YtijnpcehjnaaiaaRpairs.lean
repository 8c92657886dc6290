/- Walk: Pairs of the reference. -/
import Derived.Test.YtijnpcehjnaaiaaTie
import Derived.Deep.MidRow
namespace Go.Proofs.Ytijnpcehjnaaiaa
open Go.RowKit

theorem infoArr : (Try.prog.info? 82).map (fun i => (i.zero, i.size, i.bytes)) = some (some (.agg #[.int .i64 0, .int .i64 0]), 2, 16) := by kernel_rfl
/-- The cells of a row of pairs. -/
def cells2 (P : List (Nat × Nat)) : List Value := P.flatMap fun q => [.int .i64 (q.1 : Int), .int .i64 (q.2 : Int)]
theorem cells2_app (P : List (Nat × Nat)) (a b : Nat) : cells2 (P ++ [(a, b)]) = cells2 P ++ [.int .i64 (a : Int), .int .i64 (b : Int)] := by simp [cells2]
theorem cells2_len (P : List (Nat × Nat)) : (cells2 P).length = P.length * 2 := by
  induction P with
  | nil => rfl
  | cons q P ih => have : cells2 (q :: P) = [.int .i64 (q.1 : Int), .int .i64 (q.2 : Int)] ++ cells2 P := rfl
                   rw [this, List.length_append, ih]; simp; omega
theorem cells2_at (P : List (Nat × Nat)) : ∀ r, r < P.length → (cells2 P)[r * 2]? = some (.int .i64 ((P.getD r (0, 0)).1 : Int)) ∧ (cells2 P)[r * 2 + 1]? = some (.int .i64 ((P.getD r (0, 0)).2 : Int)) := by
  induction P with
  | nil => intro r h; simp at h
  | cons q P ih =>
    intro r h
    have e : cells2 (q :: P) = .int .i64 (q.1 : Int) :: .int .i64 (q.2 : Int) :: cells2 P := rfl
    rw [e]
    cases r with
    | zero => exact ⟨rfl, rfl⟩
    | succ r =>
      have := ih r (by simpa using h)
      rw [show (r + 1) * 2 = r * 2 + 1 + 1 by omega, show r * 2 + 1 + 1 + 1 = (r * 2 + 1) + 1 + 1 by omega]
      simpa using this

def q2Row (a b : Nat) : List (Nat × Nat) := ((List.range b).filter fun y => decide (a < y)).map fun y => (a, y)
def q2To (n a b : Nat) : List (Nat × Nat) := (List.range a).flatMap (fun x => q2Row x n) ++ q2Row a b
def q2L (n : Nat) : List (Nat × Nat) := (List.range n).flatMap fun x => q2Row x n
theorem q2Row_step {a b : Nat} (h : a < b) : q2Row a (b + 1) = q2Row a b ++ [(a, b)] := by simp [q2Row, List.range_succ, h]
theorem q2Row_start (a : Nat) : q2Row a (a + 1) = [] := by
  simp only [q2Row, List.map_eq_nil_iff, List.filter_eq_nil_iff, List.mem_range, decide_eq_true_eq]; omega
theorem q2To_step {n a b : Nat} (h : a < b) : q2To n a (b + 1) = q2To n a b ++ [(a, b)] := by simp [q2To, q2Row_step h]
theorem q2To_start (n : Nat) : q2To n 0 1 = [] := by simp [q2To, q2Row_start]
theorem q2To_row (n a : Nat) : q2To n a n = q2To n (a + 1) (a + 1 + 1) := by simp [q2To, List.range_succ, q2Row_start]
theorem q2To_end (n : Nat) : q2To n n (n + 1) = q2L n := by simp [q2To, q2L, q2Row_start]
def meet2 (p q : Nat × Nat) : Bool := p.1 == q.1 || p.1 == q.2 || p.2 == q.1 || p.2 == q.2
def rpRow (P : List (Nat × Nat)) (L : List Nat) (i : Nat) : Nat → List Nat
  | 0 => L
  | j + 1 => if meet2 (P.getD i (0, 0)) (P.getD j (0, 0)) then tieL (rpRow P L i j) i j else rpRow P L i j
def rpTo (P : List (Nat × Nat)) : Nat → List Nat
  | 0 => List.replicate P.length 0
  | i + 1 => rpRow P (rpTo P i) i i
theorem rp_end {n : Nat} (h4 : 4 ≤ n) (h6 : n ≤ 6) : rpTo (q2L n) (q2L n).length = pairsL n ∧ (q2L n).length ≤ 16 := by
  have : n = 4 ∨ n = 5 ∨ n = 6 := by omega
  rcases this with rfl | rfl | rfl <;> decide +kernel

theorem own_grown3 {w wr w1 : World} {e size k : Nat} {v : Value} {xs : List Value} (hown : wr.ownsRow w.heap.size e size v k xs) (hb : Below w.heap.size w wr) (o : Obj) (hg : (wr.alloc o).grownBy w1 v.ownBlock) : Below w.heap.size w w1 :=
  (bal hb o).grown hg (bal hb o).size (fun j hj => by have := (hown.lt j hj).1; omega)

theorem own2_cells {w : World} {base : Nat} {v : Value} {P : List (Nat × Nat)} {E : TypeId} (hown : w.ownsRow base E 2 v P.length (cells2 P)) (h : 0 < P.length) :
    ∃ g cap, v = .slice (some ⟨g, 0, none⟩) P.length cap ∧ base ≤ g ∧ P.length ≤ cap ∧ ∀ r, r < P.length → w.cell? ⟨g, r * 2, none⟩ = some (.int .i64 ((P.getD r (0, 0)).1 : Int)) ∧ w.cell? ⟨g, r * 2 + 1, none⟩ = some (.int .i64 ((P.getD r (0, 0)).2 : Int)) := by
  rcases hown.2 with ⟨_, h0⟩ | ⟨g, cap, cur, rfl, hb, hg, hn, hc, hs, ht⟩
  · omega
  · refine ⟨g, cap, rfl, hb, hn, fun r hr => ?_⟩
    have h1 := cells2_at P r hr
    rw [← ht] at h1
    rw [List.getElem?_take_of_lt (by omega), List.getElem?_take_of_lt (by omega)] at h1
    rw [cells_at hg, cells_at hg]
    simpa using h1

theorem size2 : (Try.prog.info? 82).map (·.size) = some [Value.int .i64 0, .int .i64 0].length := by kernel_rfl
theorem range2 {w wr : World} {g N i : Nat} {P : List (Nat × Nat)} (hc : ∀ r, r < N → w.cell? ⟨g, r * 2, none⟩ = some (.int .i64 ((P.getD r (0, 0)).1 : Int)) ∧ w.cell? ⟨g, r * 2 + 1, none⟩ = some (.int .i64 ((P.getD r (0, 0)).2 : Int)))
    (hg : g < w.heap.size) (hb : Below w.heap.size w wr) (hi : i < N) : wr.rangeAt g (i * 2) [.int .i64 ((P.getD i (0, 0)).1 : Int), .int .i64 ((P.getD i (0, 0)).2 : Int)] := by
  intro j v hj
  have hj2 : j < 2 := by
    by_cases q : j < 2
    · exact q
    · rw [List.getElem?_eq_none (by simp; omega)] at hj; exact absurd hj (by simp)
  have hh := hc i hi
  rw [World.cell?, World.cell?, ← hb.block g hg] at hh
  have : j = 0 ∨ j = 1 := by omega
  rcases this with rfl | rfl
  · rw [← hj]; exact hh.1
  · rw [← hj]; exact hh.2

theorem int_beq (a b : Nat) : ((a : Int) == (b : Int)) = (a == b) := by rw [Bool.eq_iff_iff]; simp; omega
theorem five : ∀ b1 b2 b3 b4 : Bool, b1 = true ∨ (b1 = false ∧ b2 = true) ∨ (b1 = false ∧ b2 = false ∧ b3 = true) ∨ (b1 = false ∧ b2 = false ∧ b3 = false ∧ b4 = true) ∨ (b1 = false ∧ b2 = false ∧ b3 = false ∧ b4 = false) := by decide

set_option maxRecDepth 100000 in
set_option maxHeartbeats 1000000 in
theorem rpairs_go (w : World) (n : Nat) (h4 : 4 ≤ n) (h6 : n ≤ 6) :
    Calls Try.prog 32 #[.int .i64 n] w (GivesSl w (ints (pairsL n))) := by
  obtain ⟨i0, hi, hz0, hz1, hz2⟩ := info_parts infoInt
  obtain ⟨k0, hk, hkz0, hkz1, hkz2⟩ := info_parts infoArr
  obtain ⟨hend, hl16⟩ := rp_end h4 h6
  have HE := Lib.hid hend
  have HL := Lib.hid hl16
  clear hend hl16
  go_enter Try.func32, Try.ntmps32
  go_wp2
  go_loopw [12, 3] (fun t v wr => ∃ a : Nat, a ≤ n ∧ t = .int .i64 a ∧ ∃ m, m ≤ a * 6 ∧ wr.ownsRow w.heap.size 82 2 v m (cells2 (q2To n a (a + 1))) ∧ Below w.heap.size w wr) (fun t _ _ => n - (intOf t).toNat)
  case atStart => exact ⟨0, by omega, rfl, 0, by omega, by rw [q2To_start]; exact World.ownsRow_nil _ _ _ _, Below.refl _ _⟩
  case round =>
    obtain ⟨a, ha, rfl, m, hm, hown, hbw⟩ := hrel
    by_cases hla : a < n
    · go_wp2
      obtain ⟨w2, rfl⟩ : ∃ w2 : World, w2 = wr := ⟨_, rfl⟩
      go_loopw [5, 3] (fun t v wr => ∃ b : Nat, a < b ∧ b ≤ n ∧ t = .int .i64 b ∧ ∃ m, m + 6 ≤ a * 6 + b + 6 ∧ wr.ownsRow w.heap.size 82 2 v m (cells2 (q2To n a b)) ∧ Below w.heap.size w wr) (fun t _ _ => n - (intOf t).toNat)
      case atStart => exact ⟨a + 1, by omega, by omega, by go_num, m, by omega, hown, hbw⟩
      case round =>
        clear hown hbw hm
        obtain ⟨b, hab, hb, rfl, m, hm, hown, hbw⟩ := hrel
        by_cases hlb : b < n
        · have hsz := hbw.size
          go_wp2_with (at_builtin; refine wpList_append_own _ rfl _ _ 81 rfl w.heap.size 82 k0 (.agg #[.int .i64 0, .int .i64 0]) 2 16 Try.underlying81 hk hkz0 hkz1 hkz2 rfl (by decide) u3 m _ rfl (hown.alloc _) ⟨wr.heap.size, 0, none⟩ 1 1 [.int .i64 (a : Int), .int .i64 (b : Int)] rfl rfl ?c1 ?c2 ?c3 ?c4 ?c5 ?_)
          case c1 =>
            intro j u hj
            have hj2 : j < 2 := by
              by_cases q : j < 2
              · exact q
              · rw [List.getElem?_eq_none (by simp; omega)] at hj; exact absurd hj (by simp)
            have : j = 0 ∨ j = 1 := by omega
            rcases this with rfl | rfl
            · rw [← hj]; show World.cell? _ ⟨_, 0 + 0, none⟩ = _; rw [cells_at (new_at _ _)]; rfl
            · rw [← hj]; show World.cell? _ ⟨_, 0 + 1, none⟩ = _; rw [cells_at (new_at _ _)]; rfl
          case c2 => intro u hu; simp at hu; rcases hu with rfl | rfl <;> rfl
          case c3 => unfold maxLen; omega
          case c4 => omega
          case c5 => simp; omega
          intro v' wn hown' hgrow _
          go_wp2
          go_roundw
          case rel =>
            refine ⟨b + 1, by omega, by omega, by go_num, m + 1, by omega, ?_, own_grown3 hown hbw _ hgrow⟩
            rw [q2To_step hab, cells2_app]; exact hown'
          case measure => simp [intOf]; omega
        · obtain rfl : b = n := by omega
          go_wp2
          go_roundw
          case rel => exact ⟨a + 1, by omega, by go_num, m, by omega, by rw [← q2To_row]; exact hown, hbw⟩
          case measure => simp [intOf]; omega
    · obtain rfl : a = n := by omega
      rw [q2To_end] at hown
      have hml : m = (q2L a).length := by have := hown.1; rw [cells2_len] at this; omega
      subst hml
      have hpos : 0 < (q2L a).length := by have : a = 4 ∨ a = 5 ∨ a = 6 := by omega
                                           rcases this with rfl | rfl | rfl <;> decide
      obtain ⟨g, cap, rfl, hgb, hNc, hcell⟩ := own2_cells hown hpos
      generalize hP : q2L a = P at *
      generalize hN : P.length = N at *
      have hbr := Lib.hid hbw
      have hgz := (hown.lt g rfl).2
      have HPC := Lib.hid hcell
      have hN16 : N ≤ 16 := HL.out
      have HR := Lib.hid (show rpTo P 0 = List.replicate N 0 by rw [← hN]; rfl)
      have HNP := Lib.hid hN
      clear hbw hown hcell HL hN hP hk hkz0 hkz1 hkz2
      go_wp2_with (refine wpList_make_full wr rfl _ _ 22 rfl wr.heap.size 3 i0 (.int .i64 0) 1 Try.underlying22 hi hz0 hz1 .i64 .i64 N N N rfl rfl rfl rfl (by rw [hz2]; omega) (by unfold maxLen; omega) (Nat.le_refl _) ?_; intro w1 hown1 hgrow1)
      have hB1 : Below wr.heap.size wr w1 := (Below.refl _ _).grown hgrow1 (Nat.le_refl _) (fun _ h => by cases h)
      rw [show (Value.int .i64 0).cells = #[Value.int .i64 0] from rfl, toList_madeCells_one, Nat.mul_one] at hown1
      have hown : w1.ownsRow wr.heap.size 3 1 (.slice (some ⟨wr.heap.size, 0, none⟩) N N) N ((ints (rpTo P 0)).map (Value.int .i64)) := by
        rw [HR.out]; simpa [ints] using hown1
      have hsm0 : Hid (∀ y ∈ rpTo P 0, y < 65536) := by rw [HR.out]; exact rep_small _
      clear hown1 hgrow1
      obtain ⟨wp, rfl⟩ : ∃ wp : World, wp = wr := ⟨_, rfl⟩
      go_loopw [34] (fun t wr => ∃ i : Nat, i ≤ N ∧ t = .int .i64 i ∧ wr.ownsRow wp.heap.size 3 1 (.slice (some ⟨wp.heap.size, 0, none⟩) N N) N ((ints (rpTo P i)).map (Value.int .i64)) ∧ Hid (∀ y ∈ rpTo P i, y < 65536) ∧ Below wp.heap.size wp wr) (fun t _ => N - (intOf t).toNat)
      case atStart => exact ⟨0, by omega, rfl, hown, hsm0, hB1⟩
      case round =>
        clear hown hsm0 hB1
        obtain ⟨i, hi, rfl, hown, HS, hbw⟩ := hrel
        by_cases hli : i < N
        · have hpi : wr.rangeAt g (i * 2) [.int .i64 ((P.getD i (0, 0)).1 : Int), .int .i64 ((P.getD i (0, 0)).2 : Int)] := range2 (fun r hr => HPC.out r hr) hgz hbw (by omega)
          have hc1 := hpi 0 _ rfl
          have hc2 := hpi 1 _ rfl
          rw [Nat.add_zero] at hc1
          clear hpi
          have HGI := Lib.hid (show ∀ L j, rpRow P L i (j + 1) = if ((P.getD i (0, 0)).1 == (P.getD j (0, 0)).1 || (P.getD i (0, 0)).1 == (P.getD j (0, 0)).2 || (P.getD i (0, 0)).2 == (P.getD j (0, 0)).1 || (P.getD i (0, 0)).2 == (P.getD j (0, 0)).2) then tieL (rpRow P L i j) i j else rpRow P L i j from fun _ _ => rfl)
          have HRI := Lib.hid (show rpTo P (i + 1) = rpRow P (rpTo P i) i i from rfl)
          have HR0 := Lib.hid (show rpRow P (rpTo P i) i 0 = rpTo P i from rfl)
          generalize (P.getD i (0, 0)).1 = p1 at *
          generalize (P.getD i (0, 0)).2 = p2 at *
          have hcap : i ≤ cap := by omega
          go_wp2_with fail
          have hwz := hbw.size
          have hTw : wp.heap.size < wr.heap.size := (hown.lt wp.heap.size rfl).2
          have hown' := (hown.alloc (.cells #[Value.int .i64 p1, Value.int .i64 p2] 82))
          have hbw' := bal hbw (.cells #[Value.int .i64 p1, Value.int .i64 p2] 82)
          have hnew := new_at wr (.cells #[Value.int .i64 p1, Value.int .i64 p2] 82)
          generalize hT : wr.heap.size = T at *
          clear hT hc1 hc2 hown hbw
          generalize wr.alloc _ = w5 at *
          go_loopw [43] (fun t wr => ∃ j : Nat, j ≤ i ∧ t = .int .i64 j ∧ wr.ownsRow wp.heap.size 3 1 (.slice (some ⟨wp.heap.size, 0, none⟩) N N) N ((ints (rpRow P (rpTo P i) i j)).map (Value.int .i64)) ∧ Hid (∀ y ∈ rpRow P (rpTo P i) i j, y < 65536) ∧ wr.heap[T]? = some (.cells #[.int .i64 p1, .int .i64 p2] 82 (0, 0)) ∧ Below wp.heap.size wp wr) (fun t _ => i - (intOf t).toNat)
          case atStart => exact ⟨0, by omega, rfl, by rw [HR0.out]; exact hown', by rw [HR0.out]; exact HS, hnew, hbw'⟩
          case round =>
            clear hown' hbw' HS hnew
            obtain ⟨j, hj, rfl, hown, HS, hT, hbw⟩ := hrel
            by_cases hlj : j < i
            · have hpi : wr.rangeAt g (j * 2) [.int .i64 ((P.getD j (0, 0)).1 : Int), .int .i64 ((P.getD j (0, 0)).2 : Int)] := range2 (fun r hr => HPC.out r hr) hgz hbw (by omega)
              have hc1 := hpi 0 _ rfl
              have hc2 := hpi 1 _ rfl
              rw [Nat.add_zero] at hc1
              clear hpi
              have HG := Lib.hid (HGI.out (rpTo P i) j)
              generalize (P.getD j (0, 0)).1 = q1 at *
              generalize (P.getD j (0, 0)).2 = q2 at *
              generalize rpRow P (rpTo P i) i j = L at *
              have m1 : wr.cell? ⟨T, 0, none⟩ = some (.int .i64 p1) := by rw [cells_at hT]; rfl
              have m2 : wr.cell? ⟨T, 1, none⟩ = some (.int .i64 p2) := by rw [cells_at hT]; rfl
              have hTz := lt_of_block hT
              have hgz2 : g < wr.heap.size := Nat.lt_of_lt_of_le hgz hbw.size
              have jcap : j < cap := by omega
              obtain ⟨b1, h1⟩ : ∃ b, (p1 == q1) = b := ⟨_, rfl⟩
              obtain ⟨b2, h2⟩ : ∃ b, (p1 == q2) = b := ⟨_, rfl⟩
              obtain ⟨b3, h3⟩ : ∃ b, (p2 == q1) = b := ⟨_, rfl⟩
              obtain ⟨b4, h4⟩ : ∃ b, (p2 == q2) = b := ⟨_, rfl⟩
              have t1 : ((p1 : Int) == (q1 : Int)) = b1 := by rw [← h1, int_beq]
              have t2 : ((p1 : Int) == (q2 : Int)) = b2 := by rw [← h2, int_beq]
              have t3 : ((p2 : Int) == (q1 : Int)) = b3 := by rw [← h3, int_beq]
              have t4 : ((p2 : Int) == (q2 : Int)) = b4 := by rw [← h4, int_beq]
              rw [h1, h2, h3, h4] at HG
              clear h1 h2 h3 h4
              rcases five b1 b2 b3 b4 with rfl | ⟨rfl, rfl⟩ | ⟨rfl, rfl, rfl⟩ | ⟨rfl, rfl, rfl, rfl⟩ | ⟨rfl, rfl, rfl, rfl⟩
              · have hG : rpRow P (rpTo P i) i (j + 1) = tieL L i j := by rw [HG.out]; simp
                have HG2 := Lib.hid hG
                clear hG HG
                have hown2 := hown.alloc (.cells #[Value.int .i64 q1, Value.int .i64 q2] 82)
                have hbw2 := bal hbw (.cells #[Value.int .i64 q1, Value.int .i64 q2] 82)
                have hT2 := (Below.heap_alloc wr (.cells #[Value.int .i64 q1, Value.int .i64 q2] 82) _ hTz).trans hT
                go_wp2_with fail
                refine (tie_go _ wp.heap.size wp.heap.size N N L i j hown2 HS.out hli (by omega) hN16).mono ?_
                rintro e w3 ⟨rfl, hown3, hg3⟩
                have hb3 := hbw2.grown hg3 hbw2.size (fun k hk => by simp at hk; omega)
                have hT3 : w3.heap[T]? = some (.cells #[.int .i64 p1, .int .i64 p2] 82 (0, 0)) := by
                  rw [hg3.block T (by simp; omega) (by intro e; simp at e; omega)]
                  exact hT2
                have HS3 : Hid (∀ y ∈ tieL L i j, y < 65536) := tieL_small HS.out (by omega) (by omega)
                clear hown hown2 hg3 hbw hbw2 hT hT2 hc1 hc2 m1 m2 hTz
                go_wp2
                go_roundw
                case rel => exact ⟨j + 1, by omega, by go_num, by rw [HG2.out]; exact hown3, by rw [HG2.out]; exact HS3, hT3, hb3⟩
                case measure => simp [intOf]; omega
              · have hG : rpRow P (rpTo P i) i (j + 1) = tieL L i j := by rw [HG.out]; simp
                have HG2 := Lib.hid hG
                clear hG HG
                have hown2 := hown.alloc (.cells #[Value.int .i64 q1, Value.int .i64 q2] 82)
                have hbw2 := bal hbw (.cells #[Value.int .i64 q1, Value.int .i64 q2] 82)
                have hT2 := (Below.heap_alloc wr (.cells #[Value.int .i64 q1, Value.int .i64 q2] 82) _ hTz).trans hT
                go_wp2_with fail
                refine (tie_go _ wp.heap.size wp.heap.size N N L i j hown2 HS.out hli (by omega) hN16).mono ?_
                rintro e w3 ⟨rfl, hown3, hg3⟩
                have hb3 := hbw2.grown hg3 hbw2.size (fun k hk => by simp at hk; omega)
                have hT3 : w3.heap[T]? = some (.cells #[.int .i64 p1, .int .i64 p2] 82 (0, 0)) := by
                  rw [hg3.block T (by simp; omega) (by intro e; simp at e; omega)]
                  exact hT2
                have HS3 : Hid (∀ y ∈ tieL L i j, y < 65536) := tieL_small HS.out (by omega) (by omega)
                clear hown hown2 hg3 hbw hbw2 hT hT2 hc1 hc2 m1 m2 hTz
                go_wp2
                go_roundw
                case rel => exact ⟨j + 1, by omega, by go_num, by rw [HG2.out]; exact hown3, by rw [HG2.out]; exact HS3, hT3, hb3⟩
                case measure => simp [intOf]; omega
              · have hG : rpRow P (rpTo P i) i (j + 1) = tieL L i j := by rw [HG.out]; simp
                have HG2 := Lib.hid hG
                clear hG HG
                have hown2 := hown.alloc (.cells #[Value.int .i64 q1, Value.int .i64 q2] 82)
                have hbw2 := bal hbw (.cells #[Value.int .i64 q1, Value.int .i64 q2] 82)
                have hT2 := (Below.heap_alloc wr (.cells #[Value.int .i64 q1, Value.int .i64 q2] 82) _ hTz).trans hT
                go_wp2_with fail
                refine (tie_go _ wp.heap.size wp.heap.size N N L i j hown2 HS.out hli (by omega) hN16).mono ?_
                rintro e w3 ⟨rfl, hown3, hg3⟩
                have hb3 := hbw2.grown hg3 hbw2.size (fun k hk => by simp at hk; omega)
                have hT3 : w3.heap[T]? = some (.cells #[.int .i64 p1, .int .i64 p2] 82 (0, 0)) := by
                  rw [hg3.block T (by simp; omega) (by intro e; simp at e; omega)]
                  exact hT2
                have HS3 : Hid (∀ y ∈ tieL L i j, y < 65536) := tieL_small HS.out (by omega) (by omega)
                clear hown hown2 hg3 hbw hbw2 hT hT2 hc1 hc2 m1 m2 hTz
                go_wp2
                go_roundw
                case rel => exact ⟨j + 1, by omega, by go_num, by rw [HG2.out]; exact hown3, by rw [HG2.out]; exact HS3, hT3, hb3⟩
                case measure => simp [intOf]; omega
              · have hG : rpRow P (rpTo P i) i (j + 1) = tieL L i j := by rw [HG.out]; simp
                have HG2 := Lib.hid hG
                clear hG HG
                have hown2 := hown.alloc (.cells #[Value.int .i64 q1, Value.int .i64 q2] 82)
                have hbw2 := bal hbw (.cells #[Value.int .i64 q1, Value.int .i64 q2] 82)
                have hT2 := (Below.heap_alloc wr (.cells #[Value.int .i64 q1, Value.int .i64 q2] 82) _ hTz).trans hT
                go_wp2_with fail
                refine (tie_go _ wp.heap.size wp.heap.size N N L i j hown2 HS.out hli (by omega) hN16).mono ?_
                rintro e w3 ⟨rfl, hown3, hg3⟩
                have hb3 := hbw2.grown hg3 hbw2.size (fun k hk => by simp at hk; omega)
                have hT3 : w3.heap[T]? = some (.cells #[.int .i64 p1, .int .i64 p2] 82 (0, 0)) := by
                  rw [hg3.block T (by simp; omega) (by intro e; simp at e; omega)]
                  exact hT2
                have HS3 : Hid (∀ y ∈ tieL L i j, y < 65536) := tieL_small HS.out (by omega) (by omega)
                clear hown hown2 hg3 hbw hbw2 hT hT2 hc1 hc2 m1 m2 hTz
                go_wp2
                go_roundw
                case rel => exact ⟨j + 1, by omega, by go_num, by rw [HG2.out]; exact hown3, by rw [HG2.out]; exact HS3, hT3, hb3⟩
                case measure => simp [intOf]; omega
              · have hG : rpRow P (rpTo P i) i (j + 1) = L := by rw [HG.out]; simp
                have HG2 := Lib.hid hG
                clear hG HG
                have hown2 := hown.alloc (.cells #[Value.int .i64 q1, Value.int .i64 q2] 82)
                have hbw2 := bal hbw (.cells #[Value.int .i64 q1, Value.int .i64 q2] 82)
                have hT2 := (Below.heap_alloc wr (.cells #[Value.int .i64 q1, Value.int .i64 q2] 82) _ hTz).trans hT
                go_wp2_with fail
                go_roundw
                case rel => exact ⟨j + 1, by omega, by go_num, by rw [HG2.out]; exact hown2, by rw [HG2.out]; exact HS, hT2, hbw2⟩
                case measure => simp [intOf]; omega
            · obtain rfl : j = i := by omega
              go_wp2
              go_roundw
              case rel => exact ⟨j + 1, by omega, by go_num, by rw [HRI.out]; exact hown, by rw [HRI.out]; exact HS, hbw⟩
              case measure => simp [intOf]; omega
        · obtain rfl : i = N := by omega
          have hfin : rpTo P i = pairsL a := by rw [← HE.out, ← HNP.out]
          go_wp2
          go_ret
          rw [hfin] at hown
          exact own_gives (own_base hown hbr.out.size) (btr hbr.out hbw)
end Go.Proofs.Ytijnpcehjnaaiaa
