/- Walks: the document's Size, Rising, Cards; arcs: set, straight. -/
import Derived.Test.YtiapngmallfelaaGf
namespace Go.Proofs.Ytiapngmallfelaa
open Go.RowKit
set_option linter.unusedSimpArgs false
set_option maxHeartbeats 1000000 in
theorem rsize_go (w : World) :
    Calls Try.prog 51 #[.int .i64 2] w fun e w' => e = .returned (.int .i64 9) ∧ w = w' := by
  go_enter Try.func51, Try.ntmps51
  go_wp2
  go_loopw [3, 11] (fun p t wr => w = wr ∧ ((t = .int .i64 0 ∧ p = .int .i64 1) ∨ (t = .int .i64 1 ∧ p = .int .i64 3) ∨ (t = .int .i64 2 ∧ p = .int .i64 9))) (fun _ t _ => 2 - (intOf t).toNat)
  case atStart => exact ⟨rfl, .inl ⟨rfl, rfl⟩⟩
  case round =>
    obtain ⟨rfl, h⟩ := hrel
    rcases h with ⟨rfl, rfl⟩ | ⟨rfl, rfl⟩ | ⟨rfl, rfl⟩
    · go_wp2
      exact ⟨⟨trivial, .inr (.inl ⟨rfl, rfl⟩)⟩, by simp [intOf]⟩
    · go_wp2
      exact ⟨⟨trivial, .inr (.inr ⟨rfl, rfl⟩)⟩, by simp [intOf]⟩
    · go_wp2
      go_ret
      exact ⟨rfl, rfl⟩
set_option maxHeartbeats 1000000 in
theorem rrise_go (w : World) (a : Option Addr) (n cap : Nat) (l : List Int) (hs : Sl w a n cap l) (hin : l.all (inB 9) = true) (hr : risB l = true) :
    Calls Try.prog 52 #[.slice a n cap, .int .i64 0, .int .i64 8] w fun e w' => e = .returned (.bool true) ∧ w = w' := by
  have hlen := hs.len
  have hcap : n ≤ cap ∧ cap ≤ maxLen := ⟨hs.2.1, hs.2.2.1⟩
  unfold maxLen at hcap
  have HS := Lib.hid hs
  have HIN := Lib.hid (show ∀ i, i < n → 0 ≤ nth l i ∧ nth l i ≤ 8 from fun i hi => by
    rw [List.all_eq_true] at hin
    have h := hin (nth l i) (by rw [nth_of_lt (by rw [hlen]; exact hi)]; exact List.getElem_mem _)
    simp [inB] at h
    omega)
  have HR := Lib.hid (show ∀ i, 1 ≤ i → i < n → nth l (i - 1) < nth l i from fun i h1 h2 => ris_at hr h1 (by rw [hlen]; exact h2))
  clear hs hlen hin hr
  go_enter Try.func52, Try.ntmps52
  go_wp2
  go_loopw [11] (fun v wr => ∃ i : Nat, i ≤ n ∧ v = .int .i64 i ∧ w = wr) (fun v _ => n - (intOf v).toNat)
  case atStart => exact ⟨0, by omega, rfl, rfl⟩
  case round =>
    obtain ⟨i, hi, rfl, rfl⟩ := hrel
    by_cases hin : i < n
    · obtain ⟨b, off, rfl, hb, hc, _⟩ := sl_at HS.out (by omega)
      have hx := HIN.out i hin
      by_cases hi0 : i = 0
      · have e1 := hc i hin
        generalize nth l i = x at *
        have hnl : ¬ 0 < i := by omega
        clear hc hi0
        go_wp2
        go_roundw
        case rel => go_light; exact ⟨i + 1, by omega, by go_num, by trivial⟩
        case measure => simp [intOf]; omega
      · obtain ⟨k, rfl⟩ : ∃ k, i = k + 1 := ⟨i - 1, by omega⟩
        have e1 := hc (k + 1) hin
        have e2 := hc k (by omega)
        have hlt := HR.out (k + 1) (by omega) hin
        rw [show k + 1 - 1 = k from rfl] at hlt
        generalize nth l (k + 1) = x at *
        generalize nth l k = y at *
        have kw : IntKind.i64.wrap (((k + 1 : Nat) : Int) - 1) = (k : Int) := by rw [IntWalk.i64_left, IntWalk.wrap64_in _ (by omega)]; omega
        have kw2 : IntKind.i64.wrap ((k : Int) + 1 - 1) = (k : Int) := by rw [IntWalk.i64_left, IntWalk.wrap64_in _ (by omega)]; omega
        clear hc hi0
        go_wp2
        go_roundw
        case rel => go_light; exact ⟨k + 1 + 1, by omega, by go_num, by trivial⟩
        case measure => simp [intOf]; omega
    · obtain rfl : i = n := by omega
      go_wp2
      go_ret
      exact ⟨rfl, rfl⟩
set_option maxHeartbeats 1000000 in
theorem rcards_go (w : World) (a : Option Addr) (n cap : Nat) (l : List Int) (hs : Sl w a n cap l) (hok : okC l = true) :
    Calls Try.prog 24 #[.int .i64 2, .slice a n cap] w fun e w' => e = .returned (.bool true) ∧ w = w' := by
  have h2 : l.all (inB 9) = true ∧ risB l = true := by unfold okC at hok; simpa using hok
  have HR := Lib.hid (rrise_go w a n cap l hs h2.1 h2.2)
  have HZ := Lib.hid (rsize_go w)
  clear hs hok h2
  go_enter Try.func24, Try.ntmps24
  go_wp2_with fail
  refine HZ.out.mono ?_
  rintro e w' ⟨rfl, rfl⟩
  go_wp2_with fail
  refine HZ.out.mono ?_
  rintro e w' ⟨rfl, rfl⟩
  go_wp2_with fail
  refine HR.out.mono ?_
  rintro e w' ⟨rfl, rfl⟩
  go_wp2
  go_ret
  exact ⟨rfl, rfl⟩
/-! ### arcs -/
set_option maxHeartbeats 1000000 in
theorem a3set_go (w : World) (a : Option Addr) (n cap : Nat) (l : List Int) (hs : Sl w a n cap l) (hin : l.all (inB 13) = true) (hr : risB l = true) :
    Calls Try.prog 54 #[.int .i64 3, .slice a n cap] w fun e w' => ∃ pk, e = .returned (.tuple #[.pointer (some ⟨pk, 0, none⟩), .bool true]) ∧ PlaneAt w' pk 3 ∧ Below w.heap.size w w' := by
  have HRD := Lib.hid (aread_go w 3 a n cap l hs (.inr rfl))
  rw [pts3_len, hin] at HRD
  have HIS := Lib.hid (fun (w' : World) (hb : Below w.heap.size w w') => aset_go w' a n cap l (hs.mono hb))
  rw [hr] at HIS
  clear hs hin hr
  go_enter Try.func54, Try.ntmps54
  go_wp2_with fail
  refine HRD.out.mono ?_
  rintro e w' ⟨pk, rfl, hP, hb⟩
  have HP := Lib.hid hP
  have HB := Lib.hid hb
  clear hP hb
  go_wp2_with fail
  refine (HIS.out _ HB.out).mono ?_
  rintro e w2 ⟨rfl, m, rfl⟩
  go_wp2
  go_ret2
  exact ⟨pk, rfl, HP.out.mono (drewN_below (Below.refl _ _)), drewN_below HB.out⟩
end Go.Proofs.Ytiapngmallfelaa
