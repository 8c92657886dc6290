/- Walk: the statement SchemesDescend. -/
import Derived.Test.YtijnpcehjnaaiaaDesP
import Derived.Test.YtijnpcehjnaaiaaRead
namespace Go.Proofs.Ytijnpcehjnaaiaa
open Go.RowKit

theorem keptD {w w' : World} {o : Obj} (hb : Below (w.alloc o).heap.size (w.alloc o) w') : w'.heap[w.heap.size]? = some o := by
  rw [hb.block w.heap.size (by simp)]
  simp [heap_alloc_eq]
theorem read_any (w : World) (a : Option Addr) (n cap : Nat) (l : List Int) (hs : Sl w a n cap l) :
    Calls Try.prog 15 #[.slice a n cap] w fun e w' => (∃ N K L M er : Int, e = .returned (.tuple #[agg4 N K L M, .int .i64 er])) ∧ Below w.heap.size w w' := by
  by_cases hv : VldP l
  · obtain ⟨G, rfl, hG⟩ := vld_gr hv
    refine (read_go w a n cap G hs hG).mono ?_
    rintro e w' ⟨hb, ⟨k, l, m, _, rfl⟩ | ⟨_, rfl⟩⟩
    · exact ⟨⟨_, _, _, _, _, rfl⟩, hb⟩
    · exact ⟨⟨_, _, _, _, _, rfl⟩, hb⟩
  · refine (read_bad w a n cap l hs hv).mono ?_
    rintro e w' ⟨rfl, hb⟩
    exact ⟨⟨_, _, _, _, _, rfl⟩, hb⟩
theorem alone_badA (w : World) (a : Option Addr) (n cap : Nat) (l : List Int) (v : Int) (hs : Sl w a n cap l) (h : ¬ (VldP l ∧ 0 ≤ v ∧ v < n ∧ 2 ≤ n)) :
    Calls Try.prog 29 #[.slice a n cap, .int .i64 v] w fun e w' => e = .returned (.tuple #[.slice none 0 0, .int .i64 2]) ∧ Below w.heap.size w w' := by
  by_cases hv : VldP l
  · by_cases h0 : v < 0
    · exact alone_bad2 w a n cap l v hs hv h0
    · by_cases h1 : (n : Int) ≤ v
      · exact alone_bad3 w a n cap l v hs hv h1
      · exact alone_bad4 w a n cap l v hs hv h0 h1 (by
          apply Nat.lt_of_not_le; intro h2; exact h ⟨hv, by omega, by omega, h2⟩)
  · exact alone_bad1 w a n cap l v hs hv

set_option maxRecDepth 100000 in
set_option maxHeartbeats 1000000 in
theorem ldes_bad (w : World) (a : Option Addr) (n cap : Nat) (l : List Int) (v : Int) (hs : Sl w a n cap l) (h : ¬ (VldP l ∧ 0 ≤ v ∧ v < n ∧ 2 ≤ n)) :
    Calls Try.prog 8 #[.slice a n cap, .int .i64 v] w fun e w' => e = .returned (.bool true) ∧ Below w.heap.size w w' := by
  have HH := Lib.hid h
  have HL := Lib.hid hs.len
  clear h
  go_enter Try.func8, Try.ntmps8
  go_wp2_with fail
  refine (list_go _ _ _ _ _ hs).mono ?_
  rintro e w1 ⟨a1, n1, p1, rfl, ho1, hb1⟩
  go_wp2_with fail
  refine (read_any _ _ _ _ _ (own_sl ho1)).mono ?_
  rintro e w2 ⟨⟨N, K, L, M, er, rfl⟩, hb2⟩
  have hB2 := btr hb1 hb2
  clear ho1 hb1 hb2
  go_wp2_with fail
  refine (list_go _ _ _ _ _ (hs.mono (bal hB2 _))).mono ?_
  rintro e w3 ⟨a3, n3, p3, rfl, ho3, hb3⟩
  have hB3 := btr (bal hB2 _) hb3
  clear hb3 hB2
  go_wp2_with fail
  refine (alone_badA _ _ _ _ _ v (own_sl ho3) (fun hq => HH.out (by
    have e1 := (own_sl ho3).len
    have hv := vld_len.1 hq.1
    rw [vld_take hv] at e1
    have := HL.out
    exact ⟨hv, hq.2.1, by omega, by omega⟩))).mono ?_
  rintro e w4 ⟨rfl, hb4⟩
  have hB4 := btr hB3 hb4
  clear ho3 hb4 hB3
  go_wp2_with fail
  refine (awake_go _).mono ?_
  rintro e w5 ⟨rfl, hb5⟩
  go_wp2
  go_ret
  exact ⟨rfl, btr hB4 hb5⟩

def wj (G : List Nat) (v i j : Nat) : Nat := sumTo j fun j => fW G v i j
def wi (G : List Nat) (v i : Nat) : Nat := sumTo i fun i => wj G v i i

theorem fW_le (G : List Nat) (v i j : Nat) : fW G v i j ≤ 1 := by unfold fW oT; split <;> (try split) <;> omega
theorem wj_le (G : List Nat) (v i j : Nat) : wj G v i j ≤ j := by
  have := sumTo_bound (f := fun j => fW G v i j) (c := 1) (n := j) (fun j _ => fW_le G v i j)
  unfold wj; omega
theorem wi_le (G : List Nat) (v : Nat) {i : Nat} (hi : i ≤ 16) : wi G v i ≤ 256 := by
  have := sumTo_bound (f := fun i => wj G v i i) (c := 16) (n := i) (fun j hj => by have := wj_le G v j j; omega)
  unfold wi; omega
theorem pop_le16 (x : Nat) : pop x ≤ 16 := by
  rw [pop_sum]
  have := sumTo_bound (f := bt x) (c := 1) (n := 16) (fun j _ => bt_le x j)
  omega
theorem sum_pop_le {A : List Nat} (_hA : Gr A) {r : Nat} (hr : r ≤ 16) : sumTo r (fun r => pop (gn A r)) ≤ 256 := by
  have := sumTo_bound (f := fun r => pop (gn A r)) (c := 16) (n := r) (fun j _ => pop_le16 _)
  omega
theorem num_le {G : List Nat} (hG : Gr G) {k l m : Nat} (hn : Num G k l m) : l ≤ 16 ∧ m ≤ 16 := by
  obtain ⟨i, j, hi, hj, hb⟩ := hG.edge (hn.2.2.1 0 (by have := hG.1; omega)) hn.1
  obtain ⟨i', j', hi', hj', hb'⟩ := hG.gap (hn.2.2.1 0 (by have := hG.1; omega)) hn.2.1
  have h1 := hn.2.2.2.1 i j hi hj hb
  have h2 := hn.2.2.2.2 i' j' hi' hj' hb'
  rw [← h1, ← h2]
  exact ⟨pop_le16 _, pop_le16 _⟩
theorem wj_step (G : List Nat) (v i j : Nat) : wj G v i (j + 1) = wj G v i j + fW G v i j := rfl
theorem wi_step (G : List Nat) (v i : Nat) : wi G v (i + 1) = wi G v i + wj G v i i := rfl
theorem oddN_le {G : List Nat} (hG : Gr G) : oddN G ≤ 4096 := c3_le G hG.2.1
theorem odd_aloneB {G : List Nat} (hG : Gr G) {v : Nat} (hv : v < G.length) : oddN (aloneL G v) ≤ 4096 := by
  have := odd_alone hG hv
  have := oddN_le hG
  omega
set_option maxRecDepth 100000 in
set_option maxHeartbeats 4000000 in
theorem ldes_good (w : World) (a : Option Addr) (n cap : Nat) (G : List Nat) (v : Nat) (hs : Sl w a n cap (ints G)) (hG : Gr G) (hvn : v < n) (h2 : 2 ≤ n) (N K L M er : Int)
    (hread : ∀ (w : World) (a : Option Addr) (c cap : Nat), Sl w a c cap (ints G) → Calls Try.prog 15 #[.slice a c cap] w fun e w' => e = .returned (.tuple #[agg4 N K L M, .int .i64 er]) ∧ Below w.heap.size w w')
    (hfin : (er = 0 ∧ ∃ k l m : Nat, Num G k l m ∧ N = n ∧ K = k ∧ L = l ∧ M = m) ∨ er = 4) :
    Calls Try.prog 8 #[.slice a n cap, .int .i64 v] w fun e w' => e = .returned (.bool true) ∧ Below w.heap.size w w' := by
  have HFin := Lib.hid hfin
  clear hfin
  have hv := vld_ints hG
  have hd : decide (VldP (ints G)) = true := by simp [hv]
  have i0 : ¬ (v : Int) < 0 := by omega
  have i1 : ¬ (n : Int) ≤ v := by omega
  have d0 : decide ((v : Int) < 0) = false := by simp
  have d1 : decide ((n : Int) ≤ v) = false := by simp; omega
  have ht := Lib.hid (vld_take hv)
  have hl := Lib.hid hs.len
  have HRD := Lib.hid hread
  have hGl : G.length = n := by have := hs.len; rwa [ints_length] at this
  have hal := aloneL_len (G := G) (v := v) (by omega)
  have hal2 : (aloneL G v).length = n - 1 := by omega
  have n16 : n ≤ 16 := by have := hG.2.1; omega
  have hGa := alone_gr hG (v := v) (by omega) (by omega)
  have hGs := hG.small
  have HGl := Lib.hid hGl
  clear hread hv hal hGl
  go_enter Try.func8, Try.ntmps8
  go_wp2_with fail
  refine (list_go _ _ _ _ _ hs).mono ?_
  rw [ht.out]
  rintro e w1 ⟨a1, n1, p1, rfl, ho1, hb1⟩
  go_wp2_with fail
  refine (HRD.out _ _ _ _ (own_sl ho1)).mono ?_
  rintro e w2 ⟨rfl, hb2⟩
  have hB2 := btr hb1 hb2
  clear ho1 hb1 hb2
  go_wp2_with fail
  refine (list_go _ _ _ _ _ (hs.mono (bal hB2 _))).mono ?_
  rw [ht.out]
  rintro e w3 ⟨a3, n3, p3, rfl, ho3, hb3⟩
  have hB3 := btr (bal hB2 _) hb3
  have hx3 := Lib.hid (keptD hb3)
  clear hb3 hB2
  have hn3 : n3 = n := by rw [← hl.out]; exact (own_sl ho3).len.symm
  subst hn3
  go_wp2_with fail
  refine (alone_go _ _ _ _ G v (own_sl ho3) hG hvn h2).mono ?_
  rintro e w4 ⟨a4, n4, p4, rfl, ho4, hb4⟩
  have hB4 := btr hB3 hb4
  have hx4 := Lib.hid (persist hx3.out hb4)
  have hs4 := Lib.hid (own_sl ho4)
  have hn4 : n4 = n3 - 1 := by rw [← hal2]; have := (own_sl ho4).len; rw [ints_length] at this; exact this.symm
  clear ho3 hb4 hB3 hx3 ho4
  go_wp2_with fail
  refine (graph_go _ _ _ _ _ (hs.mono hB4)).mono ?_
  rw [hd]
  rintro e w5 ⟨rfl, hw⟩
  have hb5 := drewB hw
  have hB5 := btr hB4 hb5
  have hx5 := Lib.hid (persist hx4.out hb5)
  have hs5 := Lib.hid (hs4.out.mono hb5)
  clear hw hb5 hB4 hx4 hs4
  obtain ⟨n1', rfl⟩ : ∃ k, n3 = k + 1 := ⟨n3 - 1, by omega⟩
  have hn4' : n4 = n1' := by omega
  subst hn4'
  have HAL := Lib.hid (show (aloneL G v).length = n4 by omega)
  clear hn4 hal2
  have hsub : ((n4 + 1 : Nat) : Int) - 1 = (n4 : Int) := by omega
  go_wp2_with fail
  refine (clone_go _ _ _ _ _ hs5.out (by omega)).mono ?_
  rintro e w6 ⟨a6, n6, p6, rfl, ho6, hb6⟩
  have hB6 := btr hB5 hb6
  have hx6 := Lib.hid (persist hx5.out hb6)
  have hs6 := Lib.hid (hs5.out.mono hb6)
  clear hb6 hB5 hx5 hs5
  have hoA := odd_aloneB hG (v := v) (by have := HGl.out; omega)
  go_wp2_with fail
  refine (odd_go _ _ _ _ _ (own_sl ho6) hGa).mono ?_
  rintro e w7 ⟨rfl, hb7⟩
  have hB7 := btr hB6 hb7
  have hx7 := Lib.hid (persist hx6.out hb7)
  have hs7 := Lib.hid (hs6.out.mono hb7)
  clear hb7 hB6 hx6 hs6 ho6
  generalize hOA : oddN (aloneL G v) = OA at *
  have HOA := Lib.hid hOA
  clear hOA
  have dv : decide ((n4 : Int) + 1 ≤ (v : Int)) = false := by simp; omega
  go_wp2_with fail
  go_loopw [72, 11] (fun t o wr => ∃ i : Nat, i ≤ n4 + 1 ∧ t = .int .i64 i ∧ o = .int .i64 ((wi G v i : Nat) : Int) ∧ Below w7.heap.size w7 wr) (fun t _ _ => n4 + 1 - (intOf t).toNat)
  case atStart => exact ⟨0, by omega, rfl, rfl, Below.refl _ _⟩
  case round =>
    obtain ⟨i, hi, rfl, rfl, hC⟩ := hrel
    by_cases hli : i < n4 + 1
    · have b1 := wi_le G v (i := i) (by omega)
      have di : decide ((i : Int) < (n4 : Int) + 1) = true := by simp; omega
      go_wp2
      obtain ⟨w8, rfl⟩ : ∃ w8 : World, w8 = wr := ⟨_, rfl⟩
      have HC0 := Lib.hid hC
      clear hC
      go_loopw [76, 11] (fun t o wr => ∃ j : Nat, j ≤ i ∧ t = .int .i64 j ∧ o = .int .i64 ((wi G v i + wj G v i j : Nat) : Int) ∧ Below w7.heap.size w7 wr) (fun t _ _ => i - (intOf t).toNat)
      case atStart => exact ⟨0, by omega, rfl, rfl, HC0.out⟩
      case round =>
        obtain ⟨j, hj, rfl, rfl, hC⟩ := hrel
        by_cases hlj : j < i
        · have b2 := wj_le G v i j
          by_cases hiv : i = v
          · have t1 : ((i : Int) != (v : Int)) = false := by rw [hiv]; simp
            have hf : fW G v i j = 0 := by unfold fW; rw [if_neg (fun q => q.1 hiv)]
            have HF := Lib.hid (show wj G v i (j + 1) = wj G v i j by rw [wj_step, hf, Nat.add_zero])
            clear hiv hf
            go_wp2
            go_roundw
            case rel => exact ⟨j + 1, by omega, by go_num, by rw [HF.out], hC⟩
            case measure => simp [intOf]; omega
          · by_cases hjv : j = v
            · have t1 : ((i : Int) != (v : Int)) = true := by simp; omega
              have t2 : ((j : Int) != (v : Int)) = false := by rw [hjv]; simp
              have hf : fW G v i j = 0 := by unfold fW; rw [if_neg (fun q => q.2 hjv)]
              have HF := Lib.hid (show wj G v i (j + 1) = wj G v i j by rw [wj_step, hf, Nat.add_zero])
              clear hiv hjv hf
              go_wp2
              go_roundw
              case rel => exact ⟨j + 1, by omega, by go_num, by rw [HF.out], hC⟩
              case measure => simp [intOf]; omega
            · have t1 : ((i : Int) != (v : Int)) = true := by simp; omega
              have t2 : ((j : Int) != (v : Int)) = true := by simp; omega
              have hf : fW G v i j = oT G i j v := by unfold fW; rw [if_pos ⟨hiv, hjv⟩]
              have HF := Lib.hid (show wj G v i (j + 1) = wj G v i j + oT G i j v by rw [wj_step, hf])
              clear hiv hjv hf
              go_wp2_with fail
              refine (lodd_go _ a (n4 + 1) cap G (hs.mono (btr hB7 hC)) hGs i j v (by omega) (by omega) (by omega) (by omega)).mono ?_
              rintro e w9 ⟨rfl, hw⟩
              have hC9 := btr hC (drewB hw)
              clear hw hC
              cases ho : oddT G i j v with
              | true =>
                have HF2 := Lib.hid (show wi G v i + wj G v i (j + 1) = wi G v i + wj G v i j + 1 by rw [HF.out]; unfold oT; rw [ho]; rfl)
                clear ho
                go_wp2
                go_roundw
                case rel => exact ⟨j + 1, by omega, by go_num, by rw [HF2.out]; go_num, hC9⟩
                case measure => simp [intOf]; omega
              | false =>
                have HF2 := Lib.hid (show wi G v i + wj G v i (j + 1) = wi G v i + wj G v i j by rw [HF.out]; unfold oT; rw [ho]; rfl)
                clear ho
                go_wp2
                go_roundw
                case rel => exact ⟨j + 1, by omega, by go_num, by rw [HF2.out, Int.natCast_add], hC9⟩
                case measure => simp [intOf]; omega
        · obtain rfl : j = i := by omega
          go_wp2
          go_roundw
          case rel => exact ⟨j + 1, by omega, by go_num, by rw [wi_step], hC⟩
          case measure => simp [intOf]; omega
    · have hie : i = n4 + 1 := by omega
      have di : decide ((i : Int) < (n4 : Int) + 1) = false := by simp; omega
      have hWl := wi_le G v (i := i) (by omega)
      have hWn : withN G v = wi G v i := by rw [hie, ← HGl.out]; rfl
      have HI := Lib.hid hie
      clear hie
      have hvG : v < G.length := by have := HGl.out; omega
      have hE := edges_alone hG hvG (by have := HGl.out; omega)
      have hO := odd_alone hG hvG
      have hOl := oddN_le hG
      rw [HGl.out, Nat.add_sub_cancel, hWn] at hE
      rw [hWn, HOA.out] at hO
      generalize hW : wi G v i = W at *
      have HE := Lib.hid hE
      have HO := Lib.hid hO
      clear hW hWn hE hO
      have hsA := hs7.out.mono hC
      rcases hsA.parts with ⟨_, h0, _⟩ | ⟨b, off, rfl, hsB⟩
      · omega
      have hpl : p4 ≤ maxLen := hsB.2.2.1
      have hnp : n4 ≤ p4 := hsB.2.1
      have HSB := Lib.hid hsB
      have HC8 := Lib.hid hC
      obtain ⟨w8, rfl⟩ : ∃ w8 : World, w8 = wr := ⟨_, rfl⟩
      clear hsA hsB hC
      go_wp2
      go_loopw [100, 14] (fun t o wr => ∃ r : Nat, r ≤ n4 ∧ t = .int .i64 r ∧ o = .int .i64 ((sumTo r (fun r => pop (gn (aloneL G v) r)) : Nat) : Int) ∧ Below w8.heap.size w8 wr) (fun t _ _ => n4 - (intOf t).toNat)
      case atStart => exact ⟨0, by omega, rfl, rfl, Below.refl _ _⟩
      case round =>
        obtain ⟨r, hr, rfl, rfl, hC⟩ := hrel
        have hsl := sum_pop_le hGa (r := r) (by omega)
        by_cases hlr : r < n4
        · obtain ⟨hbz, hcell⟩ := (HSB.out.mono hC).cells (by omega)
          have hc := hcell r hlr
          rw [nth_ints] at hc
          have hlt := gn_lt hGa.small (by omega) r
          have HST := Lib.hid (show sumTo (r + 1) (fun r => pop (gn (aloneL G v) r)) = sumTo r (fun r => pop (gn (aloneL G v) r)) + pop (gn (aloneL G v) r) from rfl)
          have hpl2 := pop_le16 (gn (aloneL G v) r)
          clear hcell
          generalize gn (aloneL G v) r = x at *
          generalize sumTo r (fun r => pop (gn (aloneL G v) r)) = sm at *
          go_wp2_with fail
          refine (lsize_go _ x hlt).mono ?_
          rintro e w9 ⟨rfl, rfl⟩
          go_wp2
          go_roundw
          case rel => exact ⟨r + 1, by omega, by go_num, by rw [HST.out]; go_num, hC⟩
          case measure => simp [intOf]; omega
        · obtain rfl : r = n4 := by omega
          have HE2 := Lib.hid (show sumTo r (fun r => pop (gn (aloneL G v) r)) = 2 * W from HE.out)
          generalize sumTo r (fun r => pop (gn (aloneL G v) r)) = sm at *
          have hB8 := btr hB7 (btr HC8.out hC)
          have hx8 := Lib.hid (persist (persist hx7.out HC8.out) hC)
          have hsz := hs.mono hB8
          go_wp2_with fail
          refine (list_go _ _ _ _ _ hsz).mono ?_
          rw [ht.out]
          rintro e wa ⟨aa, na, pa, rfl, hoa, hba⟩
          have hBa := btr hB8 hba
          have hxa := Lib.hid (persist hx8.out hba)
          go_wp2_with fail
          refine (odd_go _ _ _ _ _ (own_sl hoa) hG).mono ?_
          rintro e wb ⟨rfl, hbb⟩
          have hBb := btr hBa hbb
          have hxb := Lib.hid (persist hxa.out hbb)
          have hCb := btr (btr hC hba) hbb
          clear hba hbb hBa hxa hx8 hB8 hoa
          generalize hAll : oddN G = All at *
          have HAll := Lib.hid hAll
          have k1 : (All : Int) = (OA : Int) + (W : Int) := by have := HO.out; omega
          have t1 : ((OA : Int) + (W : Int) != (All : Int)) = false := by simp; omega
          have t1' : (OA : Int) + (W : Int) = (All : Int) := by omega
          have t2 : ((sm : Int) != 2 * (W : Int)) = false := by have := HE2.out; simp; omega
          have t2' : (sm : Int) = 2 * (W : Int) := by have := HE2.out; omega
          have K1 := Lib.hid k1
          have T1 := Lib.hid t1'
          have T2 := Lib.hid t2'
          clear k1 t1' t2' hAll
          obtain ⟨zz, c0, c1, c2, c3, _, _, _, _⟩ := four_at hxb.out
          rcases HFin.out with ⟨rfl, k, l, m, hnum, rfl, rfl, rfl, rfl⟩ | rfl
          · have hkb : k ≤ 16 := by have := hnum.2.1; have := hG.2.1; omega
            obtain ⟨hlb, hmb⟩ := num_le hG hnum
            have HN := Lib.hid hnum
            clear hnum
            by_cases q : r + 1 + 2 * (l + m) = 4 * k
            · have u1 : (((r : Int) + 1) != 2 * (2 * (k : Int) - (l : Int) - (m : Int))) = false := by simp; omega
              have u1' : ¬ (r : Int) + 1 ≠ 2 * (2 * (k : Int) - (l : Int) - (m : Int)) := by omega
              by_cases g : m < k ∧ 2 * (k - m) + 3 ≤ r + 1
              · obtain ⟨hna, hml⟩ := alone_num hG HN.out hvG (by have := HGl.out; omega) (by rw [HGl.out]; exact q) g.1 (by rw [HGl.out]; exact g.2)
                go_wp2_with fail
                refine (read_num _ _ _ _ _ (HSB.out.mono hCb) hGa hna).mono ?_
                obtain ⟨k2, hk2⟩ : ∃ k2 : Int, 2 * ((k : Int) - (m : Int)) = k2 := ⟨_, rfl⟩
                obtain ⟨s3, hs3⟩ : ∃ s3 : Int, (k : Int) + (l : Int) - 2 * (m : Int) = s3 := ⟨_, rfl⟩
                obtain ⟨s4, hs4⟩ : ∃ s4 : Int, (k : Int) - (m : Int) = s4 := ⟨_, rfl⟩
                rw [HAL.out, show ((2 * (k - m) : Nat) : Int) = k2 by omega, show ((k + l - 2 * m : Nat) : Int) = s3 by omega, show ((k - m : Nat) : Int) = s4 by omega]
                have HK2 := Lib.hid hk2
                have HS3 := Lib.hid hs3
                have HS4 := Lib.hid hs4
                clear hk2 hs3 hs4
                rintro e wc ⟨rfl, hbc⟩
                have hBc := btr hBb hbc
                have hxc := Lib.hid (persist hxb.out hbc)
                clear c0 c1 c2 c3 zz hbc hBb hxb
                obtain ⟨zz, c0, c1, c2, c3, _, _, _, _⟩ := four_at hxc.out
                have g1 : ¬ 2 * ((k : Int) - (m : Int)) < 1 := by omega
                have g2 : ¬ (r : Int) + 1 - 3 < 2 * ((k : Int) - (m : Int)) := by omega
                have dg1 : decide (2 * ((k : Int) - (m : Int)) < 1) = false := by simp; omega
                have dg2 : decide ((r : Int) + 1 - 3 < 2 * ((k : Int) - (m : Int))) = false := by simp; omega
                go_wp2_with fail
                rw [HK2.out]
                have hyW := new_at wc (.cells #[.int .i64 (r : Int), .int .i64 k2, .int .i64 s3, .int .i64 s4] 24)
                have hxW := persist hxc.out (bal (Below.refl _ _) (.cells #[.int .i64 (r : Int), .int .i64 k2, .int .i64 s3, .int .i64 s4] 24))
                have hBW := Lib.hid (bal hBc (.cells #[.int .i64 (r : Int), .int .i64 k2, .int .i64 s3, .int .i64 s4] 24))
                clear c0 c1 c2 c3 zz hBc hxc u1 u1' g1 g2 dg1 dg2
                generalize wc.alloc _ = W at *
                generalize wc.heap.size = py at *
                generalize w2.heap.size = p2 at *
                have hC : Below W.heap.size W W.drew := (Below.refl _ _).drew
                have SX : ∀ w' : World, Below W.heap.size W w' → (w'.cell? ⟨p2, 0, none⟩ = some (.int .i64 ((r : Int) + 1)) ∧ w'.cell? ⟨p2, 1, none⟩ = some (.int .i64 (k : Int)) ∧ w'.cell? ⟨p2, 2, none⟩ = some (.int .i64 (l : Int)) ∧ w'.cell? ⟨p2, 3, none⟩ = some (.int .i64 (m : Int)) ∧
                    w'.cell? ⟨py, 0, none⟩ = some (.int .i64 (r : Int)) ∧ w'.cell? ⟨py, 1, none⟩ = some (.int .i64 k2) ∧ w'.cell? ⟨py, 2, none⟩ = some (.int .i64 s3) ∧ w'.cell? ⟨py, 3, none⟩ = some (.int .i64 s4)) := fun w' h => by
                  obtain ⟨_, a0, a1, a2, a3, _⟩ := four_at (persist hxW h)
                  obtain ⟨_, b0, b1, b2, b3, _⟩ := four_at (persist hyW h)
                  exact ⟨a0, a1, a2, a3, b0, b1, b2, b3⟩
                have HSX := Lib.hid SX
                clear SX hxW hyW
                have z1 : IntKind.i64.wrap (r : Int) = r := wrap_i64n r (by omega)
                have z2 : IntKind.i64.wrap ((k : Int) + (l : Int)) = (k : Int) + (l : Int) := by have := wrap_i64n (k + l) (by omega); simpa using this
                have z3 : IntKind.i64.wrap (2 * (m : Int)) = 2 * (m : Int) := by have := wrap_i64n (2 * m) (by omega); simpa using this
                have z4 : IntKind.i64.wrap ((k : Int) + (l : Int) - 2 * (m : Int)) = s3 := by
                  have := wrap_i64n (k + l - 2 * m) (by omega)
                  rw [show ((k + l - 2 * m : Nat) : Int) = (k : Int) + (l : Int) - 2 * (m : Int) by omega] at this
                  rw [this]; exact HS3.out
                have z5 : IntKind.i64.wrap ((k : Int) - (m : Int)) = s4 := by
                  have := wrap_i64n (k - m) (by omega)
                  rw [show ((k - m : Nat) : Int) = (k : Int) - (m : Int) by omega] at this
                  rw [this]; exact HS4.out
                have z6 : IntKind.i64.wrap ((r : Int) + 1 - 1) = r := by rw [show (r : Int) + 1 - 1 = r by omega]; exact z1
                clear hml g q
                go_region_held3 (fun w' => w'.cell? ⟨p2, 0, none⟩ = some (.int .i64 ((r : Int) + 1)) ∧ w'.cell? ⟨p2, 1, none⟩ = some (.int .i64 (k : Int)) ∧ w'.cell? ⟨p2, 2, none⟩ = some (.int .i64 (l : Int)) ∧ w'.cell? ⟨p2, 3, none⟩ = some (.int .i64 (m : Int)) ∧
                    w'.cell? ⟨py, 0, none⟩ = some (.int .i64 (r : Int)) ∧ w'.cell? ⟨py, 1, none⟩ = some (.int .i64 k2) ∧ w'.cell? ⟨py, 2, none⟩ = some (.int .i64 s3) ∧ w'.cell? ⟨py, 3, none⟩ = some (.int .i64 s4)) ((exact HSX.out _ hC)) (first
                  | (go_at_call 19; refine (own_go _ _ _ _ _).mono ?_; rintro e w' ⟨rfl, hb⟩; replace hC := btr hC hb; clear hb)
                  | (go_at_call 20; refine (awake_go _).mono ?_; rintro e w' ⟨rfl, hb⟩; replace hC := btr hC hb; clear hb))
                go_wp2
                go_ret
                exact ⟨rfl, btr hBW.out hC⟩
              · have hg : 2 * ((k : Int) - (m : Int)) < 1 ∨ (r : Int) + 1 - 3 < 2 * ((k : Int) - (m : Int)) := by omega
                have HG := Lib.hid hg
                clear hg g
                go_wp2_with fail
                refine (read_any _ _ _ _ _ (HSB.out.mono hCb)).mono ?_
                rintro e wc ⟨⟨N', K', L', M', er', rfl⟩, hbc⟩
                have hBc := btr hBb hbc
                have hxc := Lib.hid (persist hxb.out hbc)
                clear c0 c1 c2 c3 zz hbc hBb hxb
                obtain ⟨zz, c0, c1, c2, c3, _, _, _, _⟩ := four_at hxc.out
                rcases HG.out with g1 | g1
                · go_wp2_with fail
                  refine (awake_go _).mono ?_
                  rintro e wz ⟨rfl, hbz⟩
                  go_wp2
                  go_ret
                  exact ⟨rfl, btr (bal hBc _) hbz⟩
                · by_cases g2 : 2 * ((k : Int) - (m : Int)) < 1
                  · go_wp2_with fail
                    refine (awake_go _).mono ?_
                    rintro e wz ⟨rfl, hbz⟩
                    go_wp2
                    go_ret
                    exact ⟨rfl, btr (bal hBc _) hbz⟩
                  · go_wp2_with fail
                    refine (awake_go _).mono ?_
                    rintro e wz ⟨rfl, hbz⟩
                    go_wp2
                    go_ret
                    exact ⟨rfl, btr (bal hBc _) hbz⟩
            · have u1 : (((r : Int) + 1) != 2 * (2 * (k : Int) - (l : Int) - (m : Int))) = true := by simp; omega
              have u1' : (r : Int) + 1 ≠ 2 * (2 * (k : Int) - (l : Int) - (m : Int)) := by omega
              go_wp2_with fail
              refine (awake_go _).mono ?_
              rintro e wz ⟨rfl, hbz⟩
              go_wp2
              go_ret
              exact ⟨rfl, btr hBb hbz⟩
          · go_wp2_with fail
            refine (awake_go _).mono ?_
            rintro e wz ⟨rfl, hbz⟩
            go_wp2
            go_ret
            exact ⟨rfl, btr hBb hbz⟩

theorem ldes_walk (w : World) (a : Option Addr) (n cap : Nat) (l : List Int) (v : Int) (hs : Sl w a n cap l) :
    Calls Try.prog 8 #[.slice a n cap, .int .i64 v] w fun e w' => e = .returned (.bool true) ∧ Below w.heap.size w w' := by
  by_cases h : VldP l ∧ 0 ≤ v ∧ v < n ∧ 2 ≤ n
  · obtain ⟨hv, h0, h1, h2⟩ := h
    obtain ⟨G, rfl, hG⟩ := vld_gr hv
    obtain ⟨k, rfl⟩ : ∃ k : Nat, v = k := ⟨v.toNat, by omega⟩
    have hl : G.length = n := by have := hs.len; rwa [ints_length] at this
    by_cases hn : ∃ k l m, Num G k l m
    · obtain ⟨k', l', m', hn⟩ := hn
      refine ldes_good w a n cap G k hs hG (by omega) h2 n k' l' m' 0 (fun w a c cap hs => ?_) (.inl ⟨rfl, k', l', m', hn, rfl, rfl, rfl, rfl⟩)
      have := read_num w a c cap G hs hG hn
      rw [hl] at this
      exact this
    · exact ldes_good w a n cap G k hs hG (by omega) h2 0 0 0 0 4 (fun w a c cap hs => read_none w a c cap G hs hG hn) (.inr rfl)
  · exact ldes_bad w a n cap l v hs h
end Go.Proofs.Ytijnpcehjnaaiaa
