/- Walk: List of the reference. -/
import Derived.Test.YtijnpcehjnaaiaaNList
namespace Go.Proofs.Ytijnpcehjnaaiaa
open Go.RowKit

theorem infoRNum : (Try.prog.info? 32).map (fun i => (i.zero, i.size, i.bytes)) = some (some (.agg #[.int .i64 0, .int .i64 0, .int .i64 0, .int .i64 0]), 4, 32) := by kernel_rfl
set_option maxRecDepth 100000 in
set_option maxHeartbeats 1000000 in
theorem rlist_go (w : World) (n : Nat) (h4 : 4 ≤ n) (h30 : n ≤ 30) :
    Calls Try.prog 49 #[.int .i64 n] w fun e w' => ∃ v, e = .returned v ∧ GivesN 32 w n (ls1 n (n - 1)) v w' := by
  obtain ⟨k0, hk, hkz0, hkz1, hkz2⟩ := info_parts infoRNum
  go_enter Try.func49, Try.ntmps49
  go_wp2
  go_loopw [4, 3] (fun t v wr => ∃ k : Nat, 1 ≤ k ∧ k < n ∧ t = .int .i64 k ∧ ∃ m, m ≤ k * 1000 ∧ wr.ownsRow w.heap.size 32 4 v m (cells4 n (ls1 n k)) ∧ Below w.heap.size w wr) (fun t _ _ => n - (intOf t).toNat)
  case atStart => exact ⟨1, by omega, by omega, rfl, 0, by omega, by rw [ls1_one]; exact World.ownsRow_nil _ _ _ _, Below.refl _ _⟩
  case round =>
    obtain ⟨k, hk1, hkn, rfl, m, hm, hown, hbw⟩ := hrel
    by_cases hlk : k + 2 ≤ n
    · have dk : decide ((k : Int) ≤ (n : Int) - 2) = true := by simp; omega
      go_wp2
      obtain ⟨w2, rfl⟩ : ∃ w2 : World, w2 = wr := ⟨_, rfl⟩
      go_loopw [17, 3] (fun t v wr => ∃ l : Nat, l ≤ k ∧ t = .int .i64 l ∧ ∃ m, m ≤ k * 1000 + l * 32 ∧ wr.ownsRow w.heap.size 32 4 v m (cells4 n (ls1 n k ++ ls2 n k l)) ∧ Below w.heap.size w wr) (fun t _ _ => k - (intOf t).toNat)
      case atStart => exact ⟨0, by omega, rfl, m, by omega, by rw [ls2_zero, List.append_nil]; exact hown, hbw⟩
      case round =>
        clear hown hbw hm
        obtain ⟨l, hl, rfl, m, hm, hown, hbw⟩ := hrel
        by_cases hll : l < k
        · go_wp2
          obtain ⟨w3, rfl⟩ : ∃ w3 : World, w3 = wr := ⟨_, rfl⟩
          go_loopw [22, 3] (fun t v wr => ∃ j : Nat, j ≤ k + 1 ∧ t = .int .i64 j ∧ ∃ m, m ≤ k * 1000 + l * 32 + j ∧ wr.ownsRow w.heap.size 32 4 v m (cells4 n (ls1 n k ++ ls2 n k l ++ ls3 n k l j)) ∧ Below w.heap.size w wr) (fun t _ _ => k + 1 - (intOf t).toNat)
          case atStart => exact ⟨0, by omega, rfl, m, by omega, by rw [ls3_zero, List.append_nil]; exact hown, hbw⟩
          case round =>
            clear hown hbw hm
            obtain ⟨j, hj, rfl, m, hm, hown, hbw⟩ := hrel
            by_cases hlj : j < k + 1
            · have HA := Lib.hid (show Ask n k l j by unfold Ask; omega)
              go_wp2_with fail
              refine (rreason_go _ n k l j (rootsC k l j) HA.out (rootsC_ro HA.out)).mono ?_
              obtain ⟨T, hT⟩ : ∃ T, reaF n k l j (rootsC k l j) = T := ⟨_, rfl⟩
              rw [hT]
              have HF := Lib.hid (show fit n k l j = (T == 0) by unfold fit; rw [hT])
              obtain ⟨E, hE⟩ : ∃ E, reaE T = E := ⟨_, rfl⟩
              rw [hE]
              clear hT
              rintro e w4 ⟨rfl, hb⟩
              have hx4 := kept0 hb
              have hown4 := own_mono (hown.alloc _) hb
              have hB4 := btr (bal hbw _) hb
              clear hb hown hbw
              obtain ⟨z, c0, c1, c2, c3, _, _, _, _⟩ := four_at hx4
              cases hq : (T == 0) with
              | true =>
                obtain rfl : E = 4 := by rw [← hE]; simp [reaE, beq_iff_eq.1 hq]
                clear hE
                rw [hq] at HF
                go_wp2_with (at_builtin; refine wpList_append_own _ rfl _ _ 66 rfl w.heap.size 32 k0 (.agg #[.int .i64 0, .int .i64 0, .int .i64 0, .int .i64 0]) 4 32 Try.underlying66 hk hkz0 hkz1 hkz2 rfl (by decide) u3 m _ rfl (hown4.alloc _) ⟨w4.heap.size, 0, none⟩ 1 1 [.int .i64 (n : Int), .int .i64 (k : Int), .int .i64 (l : Int), .int .i64 (j : Int)] rfl rfl ?c1 ?c2 ?c3 ?c4 ?c5 ?_)
                case c1 =>
                  intro i u hi
                  have hi4 : i < 4 := by
                    by_cases q : i < 4
                    · exact q
                    · rw [List.getElem?_eq_none (by simp; omega)] at hi; exact absurd hi (by simp)
                  have : i = 0 ∨ i = 1 ∨ i = 2 ∨ i = 3 := by omega
                  rcases this with rfl | rfl | rfl | rfl
                  · rw [← hi]; show World.cell? _ ⟨_, 0 + 0, none⟩ = _; rw [cells_at (new_at _ _)]; rfl
                  · rw [← hi]; show World.cell? _ ⟨_, 0 + 1, none⟩ = _; rw [cells_at (new_at _ _)]; rfl
                  · rw [← hi]; show World.cell? _ ⟨_, 0 + 2, none⟩ = _; rw [cells_at (new_at _ _)]; rfl
                  · rw [← hi]; show World.cell? _ ⟨_, 0 + 3, none⟩ = _; rw [cells_at (new_at _ _)]; rfl
                case c2 => intro u hu; simp at hu; rcases hu with rfl | rfl | rfl | rfl <;> rfl
                case c3 => unfold maxLen; omega
                case c4 => omega
                case c5 => have hsz := hB4.size; simp; omega
                intro v' wn hown' hgrow _
                go_wp2
                go_roundw
                case rel =>
                  refine ⟨j + 1, by omega, by go_num, m + 1, by omega, ?_, own_grownN hown4 hB4 hB4.size _ hgrow⟩
                  rw [ls3_hit HF.out, ← List.append_assoc (ls1 n k ++ ls2 n k l), cells4_app, List.append_assoc (ls1 n k) (ls2 n k l) (ls3 n k l j)]; exact hown'
                case measure => simp [intOf]; omega
              | false =>
                obtain rfl : E = 0 := by rw [← hE]; simp only [reaE]; rw [if_neg]; simpa using hq
                clear hE
                rw [hq] at HF
                have hq2 : ¬ T = 0 := by simpa using hq
                go_wp2
                go_roundw
                case rel => exact ⟨j + 1, by omega, by go_num, m, by omega, by rw [ls3_miss HF.out]; exact hown4, hB4⟩
                case measure => simp [intOf]; omega
            · obtain rfl : j = k + 1 := by omega
              go_wp2
              go_roundw
              case rel => exact ⟨l + 1, by omega, by go_num, m, by omega, by rw [ls2_step, ← List.append_assoc]; exact hown, hbw⟩
              case measure => simp [intOf]; omega
        · obtain rfl : l = k := by omega
          go_wp2
          go_roundw
          case rel => exact ⟨l + 1, by omega, by omega, by go_num, m, by omega, by rw [ls1_step]; exact hown, hbw⟩
          case measure => simp [intOf]; omega
    · have hke : k = n - 1 := by omega
      have HK := Lib.hid hke
      clear hke
      go_wp2
      go_ret
      rw [HK.out] at hown
      exact ⟨_, rfl, own_givesN hown hbw⟩
end Go.Proofs.Ytijnpcehjnaaiaa
