/- Walks: arcs: Arc, free, Free. -/
import Derived.Test.YtiapngmallfelaaGh
namespace Go.Proofs.Ytiapngmallfelaa
open Go.RowKit
set_option linter.unusedSimpArgs false
set_option maxHeartbeats 1000000 in
theorem a3Arc_go (w : World) (a : Option Addr) (n cap : Nat) (L : List Nat) (hs : Sl w a n cap (ints L)) (hin : (ints L).all (inB 13) = true) (hr : risB (ints L) = true) (hL : ∀ x ∈ L, x < 13) (hn : n ≤ 16) :
    Calls Try.prog 26 #[.int .i64 3, .slice a n cap] w fun e w' => e = .returned (.tuple #[.bool (arc0 L n), .int .i64 0]) ∧ Below w.heap.size w w' := by
  have HSE := Lib.hid (a3set_go w a n cap _ hs hin hr)
  have HA := Lib.hid (fun (w' : World) (pk : Nat) (hP : PlaneAt w' pk 3) (hb : Below w.heap.size w w') => a3arc_go w' pk hP a n cap L (hs.mono hb) hL hn)
  clear hs hin hr hL
  go_enter Try.func26, Try.ntmps26
  go_wp2_with fail
  refine HSE.out.mono ?_
  rintro e w' ⟨pk, rfl, hP, hb⟩
  have HP := Lib.hid hP
  have HB := Lib.hid hb
  clear hP hb
  go_wp2_with fail
  refine (HA.out _ pk HP.out HB.out).mono ?_
  rintro e w2 ⟨rfl, hb⟩
  have HB2 := Lib.hid (btr HB.out hb)
  clear hb
  go_wp2
  go_ret2
  exact ⟨rfl, HB2.out⟩
/-! ### free -/
def inn (L : List Nat) (q i : Nat) : Nat → Bool
  | 0 => false
  | m + 1 => inn L q i m || strB (gn L i) (gn L m) q
def blk (L : List Nat) (q : Nat) : Nat → Bool
  | 0 => false
  | i + 1 => blk L q i || (gn L i == q || inn L q i i)
theorem inn_yes {L : List Nat} {q i k : Nat} (h : strB (gn L i) (gn L k) q = true) : ∀ {m : Nat}, k < m → inn L q i m = true := by
  intro m
  induction m with
  | zero => intro h; omega
  | succ m ih =>
    intro hk
    show (inn L q i m || _) = true
    by_cases e : k = m
    · subst e; rw [h]; simp
    · rw [ih (by omega)]; rfl
theorem blk_yes {L : List Nat} {q i : Nat} (h : gn L i = q ∨ inn L q i i = true) : ∀ {m : Nat}, i < m → blk L q m = true := by
  intro m
  induction m with
  | zero => intro h; omega
  | succ m ih =>
    intro hk
    show (blk L q m || _) = true
    by_cases e : i = m
    · subst e
      rcases h with h | h
      · rw [h]; simp
      · rw [h]; simp
    · rw [ih (by omega)]; rfl
set_option maxHeartbeats 4000000 in
theorem a3free_go (w : World) (pk : Nat) (hP : PlaneAt w pk 3) (a : Option Addr) (n cap : Nat) (L : List Nat) (hs : Sl w a n cap (ints L)) (hL : ∀ x ∈ L, x < 13) (hn : n ≤ 16) :
    Calls Try.prog 59 #[.pointer (some ⟨pk, 0, none⟩), .slice a n cap] w fun e w' => GivesSl w (ints (freeT (fun q => blk L q n) 13)) e w' := by
  have hcap : n ≤ cap ∧ cap ≤ maxLen := ⟨hs.2.1, hs.2.2.1⟩
  unfold maxLen at hcap
  have HGL := Lib.hid (gn_lt hL (by omega))
  have HS := Lib.hid hs
  have HST := Lib.hid (fun (w' : World) (hb : Below w.heap.size w w') (i j k : Nat) (hi : i < 13) (hj : j < 13) (hk : k < 13) => a3str_go w' pk i j k (hP.mono hb) hi hj hk)
  obtain ⟨pa, po, pcap, mb, mn, h1, h2, _, _, _⟩ := hP
  rw [pts3_len] at h1 h2
  unfold maxLen at h2
  obtain ⟨K, hKE⟩ : ∃ K, (13 : Nat) = K := ⟨_, rfl⟩
  have hK : K ≤ 13 := by omega
  rw [hKE] at h1 h2
  have e1 := cell_of h1 1 rfl
  have z1 := lt_of_block h1
  have HKE := Lib.hid hKE
  clear hs hL h1 hKE
  go_enter Try.func59, Try.ntmps59
  go_wp2
  go_step3
  go_wp2
  go_step3
  go_wp2
  clear e1 z1
  go_loopw [5, 16] (fun v t wr => ∃ q : Nat, q ≤ K ∧ t = .int .i64 q ∧ Hid (wr.ownsRow w.heap.size 3 1 v (freeT (fun q => blk L q n) q).length ((ints (freeT (fun q => blk L q n) q)).map (Value.int .i64))) ∧ Hid (Below w.heap.size w wr)) (fun _ t _ => K - (intOf t).toNat)
  case atStart => exact ⟨0, by omega, rfl, Lib.hid (World.ownsRow_nil _ _ _ _), Lib.hid (Below.refl _ _)⟩
  case round =>
    obtain ⟨q, hq, rfl, HO, HB⟩ := hrel
    obtain ⟨va, vc, rfl⟩ := own_form HO.out
    by_cases hqk : q < K
    · have hfl := freeT_len (fun q => blk L q n) q
      have HFY := Lib.hid (freeT_yes (f := fun q => blk L q n) (k := q))
      have HFN := Lib.hid (freeT_no (f := fun q => blk L q n) (k := q))
      go_wp2
      go_loopw [21] (fun t wr => ∃ i : Nat, i ≤ n ∧ t = .int .i64 i ∧ Hid (blk L q i = false) ∧ Hid (wr.ownsRow w.heap.size 3 1 (.slice va (freeT (fun q => blk L q n) q).length vc) (freeT (fun q => blk L q n) q).length ((ints (freeT (fun q => blk L q n) q)).map (Value.int .i64))) ∧ Hid (Below w.heap.size w wr)) (fun t _ => n - (intOf t).toNat)
      case atStart => exact ⟨0, by omega, rfl, Lib.hid rfl, HO, HB⟩
      case round =>
        clear HB HO
        obtain ⟨i, hi, rfl, HI, HO, HB⟩ := hrel
        by_cases hin : i < n
        · obtain ⟨b, off, rfl, hb, hc, _⟩ := sl_at (HS.out.mono HB.out) (by omega)
          have e1 := hc i hin
          rw [nth_ints] at e1
          have hx13 := HGL.out i
          by_cases hxq : gn L i = q
          · have hxx : ((gn L i : Nat) : Int) = (q : Int) := by rw [hxq]
            have HF := Lib.hid (HFY.out (blk_yes (.inl hxq) hin))
            rw [hxx] at e1
            have HO2 := Lib.hid (show wr.ownsRow w.heap.size 3 1 (.slice va (freeT (fun q => blk L q n) q).length vc) (freeT (fun q => blk L q n) (q + 1)).length ((ints (freeT (fun q => blk L q n) (q + 1))).map (Value.int .i64)) by rw [HF.out]; exact HO.out)
            generalize (freeT (fun q => blk L q n) q).length = fl at *
            clear hc hxq hxx
            go_wp2
            go_roundw
            case rel => go_light; exact ⟨q + 1, by omega, by go_num, HO2, HB⟩
            case measure => simp [intOf]; omega
          · have hxx : (((gn L i : Nat) : Int) == (q : Int)) = false := by rw [beq_eq_false_iff_ne]; omega
            have HFI := Lib.hid (fun (h : inn L q i i = true) => HFY.out (blk_yes (.inr h) hin))
            have HBN2 := Lib.hid (fun (h : inn L q i i = false) => (show blk L q (i + 1) = false by
              show (blk L q i || (gn L i == q || inn L q i i)) = false
              rw [HI.out, h, Bool.or_false, Bool.false_or, beq_eq_false_iff_ne]; exact hxq))
            have HIY := Lib.hid (fun (m : Nat) (h1 : m < i) (h2 : strB (gn L i) (gn L m) q = true) => HFI.out (inn_yes h2 h1))
            have HIN2 := Lib.hid (fun (m : Nat) (h1 : inn L q i m = false) (h2 : strB (gn L i) (gn L m) q = false) => (show inn L q i (m + 1) = false by
              show (inn L q i m || strB (gn L i) (gn L m) q) = false
              rw [h1, h2]; rfl))
            obtain ⟨x, hx⟩ : ∃ x, gn L i = x := ⟨_, rfl⟩
            rw [hx] at e1 hx13 hxx HIY HIN2
            clear hc hxq hx HFY HFN
            go_wp2
            go_loopw [33] (fun t wr => ∃ m : Nat, m ≤ i ∧ t = .int .i64 m ∧ Hid (inn L q i m = false) ∧ Hid (wr.ownsRow w.heap.size 3 1 (.slice va (freeT (fun q => blk L q n) q).length vc) (freeT (fun q => blk L q n) q).length ((ints (freeT (fun q => blk L q n) q)).map (Value.int .i64))) ∧ Hid (Below w.heap.size w wr)) (fun t _ => i - (intOf t).toNat)
            case atStart => exact ⟨0, by omega, rfl, Lib.hid rfl, HO, HB⟩
            case round =>
              clear HB HO e1 hb
              obtain ⟨m, hm, rfl, HM, HO, HB⟩ := hrel
              by_cases hmi : m < i
              · obtain ⟨b', off', hbe, hb, hc, _⟩ := sl_at (HS.out.mono HB.out) (by omega)
                injection hbe with hbe
                injection hbe with q1 q2
                subst q1 q2
                have e1 := hc m (by omega)
                rw [nth_ints] at e1
                have hy13 := HGL.out m
                have HC := Lib.hid (HST.out wr HB.out x (gn L m) q hx13 hy13 (by omega))
                have HY2 := Lib.hid (HIY.out m hmi)
                have HN2 := Lib.hid (HIN2.out m HM.out)
                generalize gn L m = y at *
                generalize strB x y q = s at *
                clear hc
                go_wp2_with fail
                refine HC.out.mono ?_
                rintro e w2 ⟨rfl, hb2⟩
                have HO2 := Lib.hid (own_mono HO.out hb2)
                have HB2 := Lib.hid (btr HB.out hb2)
                clear hb2 HO HB e1 hb
                cases s with
                | true =>
                  have HF := Lib.hid (HY2.out rfl)
                  have HO3 := Lib.hid (show w2.ownsRow w.heap.size 3 1 (.slice va (freeT (fun q => blk L q n) q).length vc) (freeT (fun q => blk L q n) (q + 1)).length ((ints (freeT (fun q => blk L q n) (q + 1))).map (Value.int .i64)) by rw [HF.out]; exact HO2.out)
                  generalize (freeT (fun q => blk L q n) q).length = fl at *
                  clear HY2 HN2
                  go_wp2
                  go_roundw
                  case rel => go_light; exact ⟨q + 1, by omega, by go_num, HO3, HB2⟩
                  case measure => simp [intOf]; omega
                | false =>
                  have HM2 := Lib.hid (HN2.out rfl)
                  clear HY2 HN2
                  go_wp2
                  go_roundw
                  case rel => go_light; exact ⟨m + 1, by omega, by go_num, HM2, HO2, HB2⟩
                  case measure => simp [intOf]; omega
              · obtain rfl : m = i := by omega
                have HB3 := Lib.hid (HBN2.out HM.out)
                go_wp2
                go_roundw
                case rel => go_light; exact ⟨m + 1, by omega, by go_num, HB3, HO, HB⟩
                case measure => simp [intOf]; omega
        · obtain rfl : i = n := by omega
          have HF := Lib.hid (HFN.out HI.out)
          have hown := HO.out
          have hz := HB.out.size
          obtain ⟨fl, hfq⟩ : ∃ q', (freeT (fun q => blk L q i) q).length = q' := ⟨_, rfl⟩
          rw [hfq] at hown hfl
          have HQ := Lib.hid hfq
          clear hfq
          rw [HQ.out]
          go_wp2_with (at_builtin; refine wpList_app1 rfl _ _ 22 rfl Try.underlying22 infoInt rfl (by decide) w.heap.size (.slice va fl vc) fl _ rfl (hown.alloc _) wr.heap.size #[.int .i64 (q : Int)] rfl (new_at _ _) rfl (by simp [Value.oneCell']) (by omega) (by omega) (by simp; omega) ?_; intro v' wn hown' hgrow; obtain ⟨wa, wc, rfl⟩ := own_form hown')
          have HO2 := Lib.hid (show wn.ownsRow w.heap.size 3 1 (.slice wa (fl + 1) wc) (freeT (fun q => blk L q i) (q + 1)).length ((ints (freeT (fun q => blk L q i) (q + 1))).map (Value.int .i64)) by
            rw [HF.out, ints_app, List.map_append, List.length_append, HQ.out]; exact hown')
          have HBN := Lib.hid ((bal HB.out (.cells #[.int .i64 (q : Int)] 3)).grown hgrow (by simp; omega) (fun j hj => (hown.lt j hj).1))
          clear hown hown' hgrow
          go_wp2
          go_roundw
          case rel => go_light; exact ⟨q + 1, by omega, by go_num, HO2, HBN⟩
          case measure => simp [intOf]; omega
    · obtain rfl : q = K := by omega
      have HE : Hid (GivesSl w (ints (freeT (fun q => blk L q n) 13)) (.returned (.slice va (freeT (fun q => blk L q n) q).length vc)) wr) := Lib.hid (by rw [HKE.out]; exact own_gives HO.out HB.out)
      generalize (freeT (fun q => blk L q n) q).length = fl at *
      go_wp2
      go_ret
      exact HE.out
end Go.Proofs.Ytiapngmallfelaa
