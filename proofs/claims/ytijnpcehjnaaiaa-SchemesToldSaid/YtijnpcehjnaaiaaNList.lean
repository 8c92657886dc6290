/- All numbers without a reason: plain; and the walks of List. -/
import Derived.Test.YtijnpcehjnaaiaaLSpectra
import Derived.Deep.MidRow
namespace Go.Proofs.Ytijnpcehjnaaiaa
open Go.RowKit

/-- The whole solutions, reckoned. -/
def rootsC (K L M : Int) : Option (Int × Int) :=
  ((List.range 99).find? fun (r : Nat) => decide (L - M - (r : Int) < r) && ((r : Int) * (L - M - r) == M - K)).map fun r => ((r : Int), L - M - r)
theorem rootsC_ro {N K L M : Int} (ha : Ask N K L M) : RO K L M (rootsC K L M) := by
  unfold rootsC
  cases h : (List.range 99).find? fun (r : Nat) => decide (L - M - (r : Int) < r) && ((r : Int) * (L - M - r) == M - K) with
  | none =>
    rintro ⟨R, S, hR⟩
    obtain ⟨b1, b2, b3, b4⟩ := roots_bounds ha hR
    have := List.find?_eq_none.1 h R.toNat (List.mem_range.2 (by omega))
    obtain ⟨h1, h2, h3⟩ := hR
    have e : (R.toNat : Int) = R := by omega
    have eS : L - M - R = S := by omega
    rw [e, eS] at this
    simp [h1, h3] at this
  | some r =>
    have := List.find?_some h
    simp only [Bool.and_eq_true, decide_eq_true_eq, beq_iff_eq] at this
    exact ⟨this.1, by omega, this.2⟩

def fit (n k l m : Nat) : Bool := reaF n k l m (rootsC k l m) == 0
def ls3 (n k l m : Nat) : List (Nat × Nat × Nat) := ((List.range m).filter fun x => fit n k l x).map fun x => (k, l, x)
def ls2 (n k l : Nat) : List (Nat × Nat × Nat) := (List.range l).flatMap fun x => ls3 n k x (k + 1)
def ls1 (n k : Nat) : List (Nat × Nat × Nat) := (List.range k).flatMap fun x => ls2 n x x
def cells4 (n : Nat) (P : List (Nat × Nat × Nat)) : List Value := P.flatMap fun q => [.int .i64 (n : Int), .int .i64 (q.1 : Int), .int .i64 (q.2.1 : Int), .int .i64 (q.2.2 : Int)]
theorem cells4_app (n : Nat) (P : List (Nat × Nat × Nat)) (a b c : Nat) : cells4 n (P ++ [(a, b, c)]) = cells4 n P ++ [.int .i64 (n : Int), .int .i64 (a : Int), .int .i64 (b : Int), .int .i64 (c : Int)] := by simp [cells4]
theorem ls3_hit {n k l m : Nat} (h : fit n k l m = true) : ls3 n k l (m + 1) = ls3 n k l m ++ [(k, l, m)] := by simp [ls3, List.range_succ, h]
theorem ls3_miss {n k l m : Nat} (h : fit n k l m = false) : ls3 n k l (m + 1) = ls3 n k l m := by simp [ls3, List.range_succ, h]
theorem ls2_step (n k l : Nat) : ls2 n k (l + 1) = ls2 n k l ++ ls3 n k l (k + 1) := by simp [ls2, List.range_succ]
theorem ls1_step (n k : Nat) : ls1 n (k + 1) = ls1 n k ++ ls2 n k k := by simp [ls1, List.range_succ]
theorem ls3_zero (n k l : Nat) : ls3 n k l 0 = [] := rfl
theorem ls2_zero (n k : Nat) : ls2 n k 0 = [] := rfl
theorem ls1_one (n : Nat) : ls1 n 1 = [] := by simp [ls1, ls2]

theorem infoNum : (Try.prog.info? 24).map (fun i => (i.zero, i.size, i.bytes)) = some (some (.agg #[.int .i64 0, .int .i64 0, .int .i64 0, .int .i64 0]), 4, 32) := by kernel_rfl

/-- A new slice of numbers. -/
def GivesN (E : TypeId) (w : World) (n : Nat) (P : List (Nat × Nat × Nat)) (v : Value) (w' : World) : Prop :=
  ∃ a c cap, v = .slice a c cap ∧ w'.ownsRow w.heap.size E 4 (.slice a c cap) c (cells4 n P) ∧ Below w.heap.size w w'

theorem own_givesN {E : TypeId} {w w1 : World} {v : Value} {n m : Nat} {P : List (Nat × Nat × Nat)} (h : w1.ownsRow w.heap.size E 4 v m (cells4 n P)) (hb : Below w.heap.size w w1) : GivesN E w n P v w1 := by
  have h' := h
  rcases h.2 with ⟨rfl, h0⟩ | ⟨g, cap, cur, rfl, _⟩
  · subst h0; exact ⟨none, 0, 0, rfl, h', hb⟩
  · exact ⟨_, m, cap, rfl, h', hb⟩
theorem own_grownN {w wr w1 : World} {e size k B : Nat} {v : Value} {xs : List Value} (hown : wr.ownsRow B e size v k xs) (hb : Below B w wr) (hB : B ≤ wr.heap.size) (o : Obj) (hg : (wr.alloc o).grownBy w1 v.ownBlock) : Below B w w1 :=
  (hb.alloc hB o).grown hg (by have := hB; simp; omega) (fun j hj => (hown.lt j hj).1)
theorem nlist_bad (w : World) (n : Int) (h : n < 4 ∨ 30 < n) :
    Calls Try.prog 47 #[.int .i64 n] w fun e w' => e = .returned (.tuple #[.slice none 0 0, .int .i64 2]) ∧ Below w.heap.size w w' := by
  rcases h with h | h
  · go_enter Try.func47, Try.ntmps47
    go_wp2
    go_ret2
    exact ⟨rfl, Below.refl _ _⟩
  · have h' : ¬ n < 4 := by omega
    go_enter Try.func47, Try.ntmps47
    go_wp2
    go_ret2
    exact ⟨rfl, Below.refl _ _⟩

set_option maxRecDepth 100000 in
set_option maxHeartbeats 1000000 in
theorem nlist_go (w : World) (n : Nat) (h4 : 4 ≤ n) (h30 : n ≤ 30) :
    Calls Try.prog 47 #[.int .i64 n] w fun e w' => ∃ v, e = .returned (.tuple #[v, .int .i64 0]) ∧ GivesN 24 w n (ls1 n (n - 1)) v w' := by
  obtain ⟨k0, hk, hkz0, hkz1, hkz2⟩ := info_parts infoNum
  have dn1 : decide ((n : Int) < 4) = false := by simp; omega
  have dn2 : decide (30 < (n : Int)) = false := by simp; omega
  go_enter Try.func47, Try.ntmps47
  go_wp2
  go_loopw [5, 4] (fun t v wr => ∃ k : Nat, 1 ≤ k ∧ k < n ∧ t = .int .i64 k ∧ ∃ m, m ≤ k * 1000 ∧ wr.ownsRow w.heap.size 24 4 v m (cells4 n (ls1 n k)) ∧ Below w.heap.size w wr) (fun t _ _ => n - (intOf t).toNat)
  case atStart => exact ⟨1, by omega, by omega, rfl, 0, by omega, by rw [ls1_one]; exact World.ownsRow_nil _ _ _ _, Below.refl _ _⟩
  case round =>
    obtain ⟨k, hk1, hkn, rfl, m, hm, hown, hbw⟩ := hrel
    by_cases hlk : k + 2 ≤ n
    · have dk : decide ((k : Int) ≤ (n : Int) - 2) = true := by simp; omega
      go_wp2
      obtain ⟨w2, rfl⟩ : ∃ w2 : World, w2 = wr := ⟨_, rfl⟩
      go_loopw [22, 4] (fun t v wr => ∃ l : Nat, l ≤ k ∧ t = .int .i64 l ∧ ∃ m, m ≤ k * 1000 + l * 32 ∧ wr.ownsRow w.heap.size 24 4 v m (cells4 n (ls1 n k ++ ls2 n k l)) ∧ Below w.heap.size w wr) (fun t _ _ => k - (intOf t).toNat)
      case atStart => exact ⟨0, by omega, rfl, m, by omega, by rw [ls2_zero, List.append_nil]; exact hown, hbw⟩
      case round =>
        clear hown hbw hm
        obtain ⟨l, hl, rfl, m, hm, hown, hbw⟩ := hrel
        by_cases hll : l < k
        · go_wp2
          obtain ⟨w3, rfl⟩ : ∃ w3 : World, w3 = wr := ⟨_, rfl⟩
          go_loopw [27, 4] (fun t v wr => ∃ j : Nat, j ≤ k + 1 ∧ t = .int .i64 j ∧ ∃ m, m ≤ k * 1000 + l * 32 + j ∧ wr.ownsRow w.heap.size 24 4 v m (cells4 n (ls1 n k ++ ls2 n k l ++ ls3 n k l j)) ∧ Below w.heap.size w wr) (fun t _ _ => k + 1 - (intOf t).toNat)
          case atStart => exact ⟨0, by omega, rfl, m, by omega, by rw [ls3_zero, List.append_nil]; exact hown, hbw⟩
          case round =>
            clear hown hbw hm
            obtain ⟨j, hj, rfl, m, hm, hown, hbw⟩ := hrel
            by_cases hlj : j < k + 1
            · have HA := Lib.hid (show Ask n k l j by unfold Ask; omega)
              go_wp2_with fail
              refine (preason_go _ n k l j (rootsC k l j) HA.out (rootsC_ro HA.out)).mono ?_
              obtain ⟨T, hT⟩ : ∃ T, reaF n k l j (rootsC k l j) = T := ⟨_, rfl⟩
              rw [hT]
              have HF := Lib.hid (show fit n k l j = (T == 0) by unfold fit; rw [hT])
              clear hT
              rintro e w4 ⟨rfl, hb⟩
              have hx4 := kept0 hb
              have hown4 := own_mono (hown.alloc _) hb
              have hB4 := btr (bal hbw _) hb
              clear hb hown hbw
              obtain ⟨z, c0, c1, c2, c3, _, _, _, _⟩ := four_at hx4
              cases hq : (T == 0) with
              | true =>
                rw [hq] at HF
                go_wp2_with (at_builtin; refine wpList_append_own _ rfl _ _ 62 rfl w.heap.size 24 k0 (.agg #[.int .i64 0, .int .i64 0, .int .i64 0, .int .i64 0]) 4 32 Try.underlying62 hk hkz0 hkz1 hkz2 rfl (by decide) u4 m _ rfl (hown4.alloc _) ⟨w4.heap.size, 0, none⟩ 1 1 [.int .i64 (n : Int), .int .i64 (k : Int), .int .i64 (l : Int), .int .i64 (j : Int)] rfl rfl ?c1 ?c2 ?c3 ?c4 ?c5 ?_)
                case c1 =>
                  intro i u hi
                  have hi4 : i < 4 := by
                    by_cases q : i < 4
                    · exact q
                    · rw [List.getElem?_eq_none (by simp; omega)] at hi; exact absurd hi (by simp)
                  have : i = 0 ∨ i = 1 ∨ i = 2 ∨ i = 3 := by omega
                  rcases this with rfl | rfl | rfl | rfl
                  · rw [← hi]; show World.cell? _ ⟨_, 0 + 0, none⟩ = _; rw [cells_at (new_at _ _)]; rfl
                  · rw [← hi]; show World.cell? _ ⟨_, 0 + 1, none⟩ = _; rw [cells_at (new_at _ _)]; rfl
                  · rw [← hi]; show World.cell? _ ⟨_, 0 + 2, none⟩ = _; rw [cells_at (new_at _ _)]; rfl
                  · rw [← hi]; show World.cell? _ ⟨_, 0 + 3, none⟩ = _; rw [cells_at (new_at _ _)]; rfl
                case c2 => intro u hu; simp at hu; rcases hu with rfl | rfl | rfl | rfl <;> rfl
                case c3 => unfold maxLen; omega
                case c4 => omega
                case c5 => have hsz := hB4.size; simp; omega
                intro v' wn hown' hgrow _
                go_wp2
                go_roundw
                case rel =>
                  refine ⟨j + 1, by omega, by go_num, m + 1, by omega, ?_, own_grownN hown4 hB4 hB4.size _ hgrow⟩
                  rw [ls3_hit HF.out, ← List.append_assoc (ls1 n k ++ ls2 n k l), cells4_app, List.append_assoc (ls1 n k) (ls2 n k l) (ls3 n k l j)]; exact hown'
                case measure => simp [intOf]; omega
              | false =>
                rw [hq] at HF
                have hq2 : ¬ T = 0 := by simpa using hq
                go_wp2
                go_roundw
                case rel => exact ⟨j + 1, by omega, by go_num, m, by omega, by rw [ls3_miss HF.out]; exact hown4, hB4⟩
                case measure => simp [intOf]; omega
            · obtain rfl : j = k + 1 := by omega
              go_wp2
              go_roundw
              case rel => exact ⟨l + 1, by omega, by go_num, m, by omega, by rw [ls2_step, ← List.append_assoc]; exact hown, hbw⟩
              case measure => simp [intOf]; omega
        · obtain rfl : l = k := by omega
          go_wp2
          go_roundw
          case rel => exact ⟨l + 1, by omega, by omega, by go_num, m, by omega, by rw [ls1_step]; exact hown, hbw⟩
          case measure => simp [intOf]; omega
    · have hke : k = n - 1 := by omega
      have HK := Lib.hid hke
      clear hke
      go_wp2
      go_ret2
      rw [HK.out] at hown
      exact ⟨_, rfl, own_givesN hown hbw⟩
end Go.Proofs.Ytijnpcehjnaaiaa
