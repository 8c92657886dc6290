/- Walks: arcs: straight, arc, Arc. -/
import Derived.Test.YtiapngmallfelaaGg
namespace Go.Proofs.Ytiapngmallfelaa
open Go.RowKit
set_option linter.unusedSimpArgs false
def strB (i j k : Nat) : Bool := dotN 3 (crossN 3 (ptP 3 i) (ptP 3 j)) (ptP 3 k) == 0
theorem cross_in (x y : Nat × Nat × Nat) : In3 3 (crossN 3 x y) :=
  ⟨Nat.mod_lt _ (by omega), Nat.mod_lt _ (by omega), Nat.mod_lt _ (by omega)⟩
set_option maxHeartbeats 4000000 in
theorem a3str_go (w : World) (pk i j k : Nat) (hP : PlaneAt w pk 3) (hi : i < 13) (hj : j < 13) (hk : k < 13) :
    Calls Try.prog 78 #[.pointer (some ⟨pk, 0, none⟩), .int .i64 (i : Int), .int .i64 (j : Int), .int .i64 (k : Int)] w fun e w' => e = .returned (.bool (strB i j k)) ∧ Below w.heap.size w w' := by
  obtain ⟨pa, po, cap, mb, n, h1, h2, h3, h4, h5⟩ := hP
  rw [pts3_len] at h1 h2 h4
  have HIX := Lib.hid (pt3_in i hi)
  have HIY := Lib.hid (pt3_in j hj)
  have HIZ := Lib.hid (pt3_in k hk)
  obtain ⟨cx0, cx1, cx2⟩ := h4 i hi
  obtain ⟨cy0, cy1, cy2⟩ := h4 j hj
  obtain ⟨cz0, cz1, cz2⟩ := h4 k hk
  unfold maxLen at h2
  obtain ⟨K, hKE⟩ : ∃ K, (13 : Nat) = K := ⟨_, rfl⟩
  have hK : K ≤ 13 := by omega
  rw [hKE] at h1 h2 hi hj hk
  clear hKE
  obtain ⟨⟨x0, x1, x2⟩, hX⟩ : ∃ x, ptP 3 i = x := ⟨_, rfl⟩
  obtain ⟨⟨y0, y1, y2⟩, hY⟩ : ∃ x, ptP 3 j = x := ⟨_, rfl⟩
  obtain ⟨⟨z0, z1, z2⟩, hZ⟩ : ∃ x, ptP 3 k = x := ⟨_, rfl⟩
  rw [hX] at cx0 cx1 cx2 HIX
  rw [hY] at cy0 cy1 cy2 HIY
  rw [hZ] at cz0 cz1 cz2 HIZ
  dsimp only at cx0 cx1 cx2 cy0 cy1 cy2 cz0 cz1 cz2
  have HPB := Lib.hid h1
  have hpkl := lt_of_block h1
  have HC := Lib.hid (And.intro (And.intro cx0 (And.intro cx1 cx2)) (And.intro (And.intro cy0 (And.intro cy1 cy2)) (And.intro cz0 (And.intro cz1 cz2))))
  have HPK := Lib.hid (fun (w' : World) (hb : Below w.heap.size w w') => (show pk < w'.heap.size ∧ w'.cell? ⟨pk, 0, none⟩ = some (.int .i64 (3 : Nat)) from ⟨lt_of_block (persist HPB.out hb), cell_of (persist HPB.out hb) 0 rfl⟩))
  have HXY := Lib.hid (And.intro hX (And.intro hY hZ))
  have HCR := Lib.hid (fun (w' : World) (hb : Below w.heap.size w w') => across_go w' pk 3 (x0, x1, x2) (y0, y1, y2) (HPK.out w' hb).1 (HPK.out w' hb).2 (.inr rfl) HIX.out HIY.out)
  obtain ⟨⟨c0, c1, c2⟩, hc⟩ : ∃ c, crossN 3 (x0, x1, x2) (y0, y1, y2) = c := ⟨_, rfl⟩
  have HCI := Lib.hid (cross_in (x0, x1, x2) (y0, y1, y2))
  rw [hc] at HCR HCI
  have HCE := Lib.hid hc
  have HD := Lib.hid (fun (w' : World) (hb : Below w.heap.size w w') => adot_go w' pk 3 (c0, c1, c2) (z0, z1, z2) (HPK.out w' hb).1 (HPK.out w' hb).2 (.inr rfl) HCI.out HIZ.out)
  obtain ⟨dv, hdv⟩ : ∃ z, dotN 3 (c0, c1, c2) (z0, z1, z2) = z := ⟨_, rfl⟩
  rw [hdv] at HD
  have HDV := Lib.hid hdv
  unfold T3N at HD HCR
  dsimp only at HD HCR
  have HSX := Lib.hid (fun (w' : World) (hb : Below w.heap.size w w') => (show w'.cell? ⟨pk, 1, none⟩ = some (.slice (some ⟨pa, po, none⟩) K cap) ∧ w'.cell? ⟨pa, po + i * 3, none⟩ = some (.int .i64 (x0 : Int)) ∧ w'.cell? ⟨pa, po + i * 3 + 1, none⟩ = some (.int .i64 (x1 : Int)) ∧ w'.cell? ⟨pa, po + i * 3 + 2, none⟩ = some (.int .i64 (x2 : Int)) ∧ w'.cell? ⟨pa, po + j * 3, none⟩ = some (.int .i64 (y0 : Int)) ∧ w'.cell? ⟨pa, po + j * 3 + 1, none⟩ = some (.int .i64 (y1 : Int)) ∧ w'.cell? ⟨pa, po + j * 3 + 2, none⟩ = some (.int .i64 (y2 : Int)) ∧ w'.cell? ⟨pa, po + k * 3, none⟩ = some (.int .i64 (z0 : Int)) ∧ w'.cell? ⟨pa, po + k * 3 + 1, none⟩ = some (.int .i64 (z1 : Int)) ∧ w'.cell? ⟨pa, po + k * 3 + 2, none⟩ = some (.int .i64 (z2 : Int)) from
    have k := fun o => hb.cell (p := ⟨pa, o, none⟩) h3
    ⟨cell_of (persist HPB.out hb) 1 rfl, (k _).trans HC.out.1.1, (k _).trans HC.out.1.2.1, (k _).trans HC.out.1.2.2, (k _).trans HC.out.2.1.1, (k _).trans HC.out.2.1.2.1, (k _).trans HC.out.2.1.2.2, (k _).trans HC.out.2.2.1, (k _).trans HC.out.2.2.2.1, (k _).trans HC.out.2.2.2.2⟩))
  have hC : Below w.heap.size w w.drew := (Below.refl _ _).drew
  obtain ⟨r0, r1, r2, r3, r4, r5, r6, r7, r8, r9⟩ := HSX.out _ hC
  clear h1 h4 h5 cx0 cx1 cx2 cy0 cy1 cy2 cz0 cz1 cz2 hX hY hZ hdv hc
  have hzz : ((dv : Int) == 0) = (dv == 0) := by cases dv <;> rfl
  go_enter Try.func78, Try.ntmps78
  go_wp2
  go_region_held3 (fun w' => w'.cell? ⟨pk, 1, none⟩ = some (.slice (some ⟨pa, po, none⟩) K cap) ∧ w'.cell? ⟨pa, po + i * 3, none⟩ = some (.int .i64 (x0 : Int)) ∧ w'.cell? ⟨pa, po + i * 3 + 1, none⟩ = some (.int .i64 (x1 : Int)) ∧ w'.cell? ⟨pa, po + i * 3 + 2, none⟩ = some (.int .i64 (x2 : Int)) ∧ w'.cell? ⟨pa, po + j * 3, none⟩ = some (.int .i64 (y0 : Int)) ∧ w'.cell? ⟨pa, po + j * 3 + 1, none⟩ = some (.int .i64 (y1 : Int)) ∧ w'.cell? ⟨pa, po + j * 3 + 2, none⟩ = some (.int .i64 (y2 : Int)) ∧ w'.cell? ⟨pa, po + k * 3, none⟩ = some (.int .i64 (z0 : Int)) ∧ w'.cell? ⟨pa, po + k * 3 + 1, none⟩ = some (.int .i64 (z1 : Int)) ∧ w'.cell? ⟨pa, po + k * 3 + 2, none⟩ = some (.int .i64 (z2 : Int))) (first | exact HSX.out _ hC | go_keep)
    (first
      | ((with_reducible refine (HCR.out _ hC).mono ?_); rintro e w' ⟨rfl, hb⟩; replace hC := btr hC hb; clear hb)
      | ((with_reducible refine (HD.out _ hC).mono ?_); rintro e w' ⟨rfl, hb⟩; replace hC := btr hC hb; clear hb))
  go_wp2
  go_ret
  exact ⟨by unfold strB; rw [HXY.out.1, HXY.out.2.1, HXY.out.2.2, HCE.out, HDV.out]; rfl, hC⟩
/-! ### arc -/
def arc2 (L : List Nat) (i j : Nat) : Nat → Bool
  | 0 => true
  | k + 1 => arc2 L i j k && !strB (gn L k) (gn L j) (gn L i)
def arc1 (L : List Nat) (i : Nat) : Nat → Bool
  | 0 => true
  | j + 1 => arc1 L i j && arc2 L i j j
def arc0 (L : List Nat) : Nat → Bool
  | 0 => true
  | i + 1 => arc0 L i && arc1 L i i
theorem arc2_no {L : List Nat} {i j k : Nat} (h : strB (gn L k) (gn L j) (gn L i) = true) : ∀ {m : Nat}, k < m → arc2 L i j m = false := by
  intro m
  induction m with
  | zero => intro h; omega
  | succ m ih =>
    intro hk
    show (arc2 L i j m && _) = false
    by_cases e : k = m
    · subst e; rw [h]; simp
    · rw [ih (by omega)]; rfl
theorem arc1_no {L : List Nat} {i j : Nat} (h : arc2 L i j j = false) : ∀ {m : Nat}, j < m → arc1 L i m = false := by
  intro m
  induction m with
  | zero => intro h; omega
  | succ m ih =>
    intro hk
    show (arc1 L i m && _) = false
    by_cases e : j = m
    · subst e; rw [h]; simp
    · rw [ih (by omega)]; rfl
theorem arc0_no {L : List Nat} {i : Nat} (h : arc1 L i i = false) : ∀ {m : Nat}, i < m → arc0 L m = false := by
  intro m
  induction m with
  | zero => intro h; omega
  | succ m ih =>
    intro hk
    show (arc0 L m && _) = false
    by_cases e : i = m
    · subst e; rw [h]; simp
    · rw [ih (by omega)]; rfl
set_option maxHeartbeats 4000000 in
theorem a3arc_go (w : World) (pk : Nat) (hP : PlaneAt w pk 3) (a : Option Addr) (n cap : Nat) (L : List Nat) (hs : Sl w a n cap (ints L)) (hL : ∀ x ∈ L, x < 13) (hn : n ≤ 16) :
    Calls Try.prog 55 #[.pointer (some ⟨pk, 0, none⟩), .slice a n cap] w fun e w' => e = .returned (.bool (arc0 L n)) ∧ Below w.heap.size w w' := by
  have hcap : n ≤ cap ∧ cap ≤ maxLen := ⟨hs.2.1, hs.2.2.1⟩
  unfold maxLen at hcap
  have HGL := Lib.hid (gn_lt hL (by omega))
  have HS := Lib.hid hs
  have HST := Lib.hid (fun (w' : World) (hb : Below w.heap.size w w') (i j k : Nat) (hi : i < 13) (hj : j < 13) (hk : k < 13) => a3str_go w' pk i j k (hP.mono hb) hi hj hk)
  clear hs hL hP
  go_enter Try.func55, Try.ntmps55
  go_wp2
  go_loopw [10] (fun t wr => ∃ i : Nat, i ≤ n ∧ t = .int .i64 i ∧ Hid (arc0 L i = true) ∧ Hid (Below w.heap.size w wr)) (fun t _ => n - (intOf t).toNat)
  case atStart => exact ⟨0, by omega, rfl, Lib.hid rfl, Lib.hid (Below.refl _ _)⟩
  case round =>
    obtain ⟨i, hi, rfl, HI, HB⟩ := hrel
    by_cases hin : i < n
    · go_wp2
      go_loopw [14] (fun t wr => ∃ j : Nat, j ≤ i ∧ t = .int .i64 j ∧ Hid (arc1 L i j = true) ∧ Hid (Below w.heap.size w wr)) (fun t _ => i - (intOf t).toNat)
      case atStart => exact ⟨0, by omega, rfl, Lib.hid rfl, HB⟩
      case round =>
        clear HB
        obtain ⟨j, hj, rfl, HJ, HB⟩ := hrel
        by_cases hji : j < i
        · go_wp2
          go_loopw [18] (fun t wr => ∃ k : Nat, k ≤ j ∧ t = .int .i64 k ∧ Hid (arc2 L i j k = true) ∧ Hid (Below w.heap.size w wr)) (fun t _ => j - (intOf t).toNat)
          case atStart => exact ⟨0, by omega, rfl, Lib.hid rfl, HB⟩
          case round =>
            clear HB
            obtain ⟨k, hk, rfl, HK, HB⟩ := hrel
            by_cases hkj : k < j
            · obtain ⟨b, off, rfl, hb, hc, _⟩ := sl_at (HS.out.mono HB.out) (by omega)
              have e1 := hc k (by omega)
              have e2 := hc j (by omega)
              have e3 := hc i (by omega)
              rw [nth_ints] at e1 e2 e3
              have h1 := HGL.out k
              have h2 := HGL.out j
              have h3 := HGL.out i
              have HN := Lib.hid (fun (h : strB (gn L k) (gn L j) (gn L i) = true) => (show arc0 L n = false from arc0_no (arc1_no (arc2_no h hkj) hji) hin))
              have HY := Lib.hid (fun (h : strB (gn L k) (gn L j) (gn L i) = false) => (show arc2 L i j (k + 1) = true by
                show (arc2 L i j k && !strB (gn L k) (gn L j) (gn L i)) = true
                rw [HK.out, h]; rfl))
              have HC := Lib.hid (HST.out wr.drew HB.out.drew _ _ _ h1 h2 h3)
              generalize gn L k = x at *
              generalize gn L j = y at *
              generalize gn L i = z at *
              generalize strB x y z = s at *
              have HCL := Lib.hid (And.intro e1 (And.intro e2 e3))
              have HSX := Lib.hid (fun (w' : World) (hb' : Below wr.heap.size wr w') => (show w'.cell? ⟨b, off + k, none⟩ = some (.int .i64 (x : Int)) ∧ w'.cell? ⟨b, off + j, none⟩ = some (.int .i64 (y : Int)) ∧ w'.cell? ⟨b, off + i, none⟩ = some (.int .i64 (z : Int)) from
                ⟨(hb'.cell (p := ⟨b, off + k, none⟩) hb).trans HCL.out.1, (hb'.cell (p := ⟨b, off + j, none⟩) hb).trans HCL.out.2.1, (hb'.cell (p := ⟨b, off + i, none⟩) hb).trans HCL.out.2.2⟩))
              have hD : Below wr.heap.size wr wr.drew := (Below.refl _ _).drew
              clear hc e1 e2 e3
              obtain ⟨e1, e2, e3⟩ := HSX.out _ hD
              have hkn : k < n := by omega
              have hjn : j < n := by omega
              go_wp2
              go_region_held3 (fun w' => w'.cell? ⟨b, off + k, none⟩ = some (.int .i64 (x : Int)) ∧ w'.cell? ⟨b, off + j, none⟩ = some (.int .i64 (y : Int)) ∧ w'.cell? ⟨b, off + i, none⟩ = some (.int .i64 (z : Int))) (first | exact HSX.out _ hD | go_keep)
                (first
                  | ((with_reducible refine HC.out.mono ?_); rintro e w' ⟨rfl, hb'⟩; replace hD := btr hD hb'; clear hb'))
              have HB2 := Lib.hid (btr HB.out hD)
              cases s with
              | true =>
                have HF := Lib.hid (HN.out rfl)
                clear HN HY
                go_wp2
                go_ret
                exact ⟨by rw [HF.out]; rfl, HB2.out⟩
              | false =>
                have HK2 := Lib.hid (HY.out rfl)
                clear HN HY
                go_wp2
                go_roundw
                case rel => go_light; exact ⟨k + 1, by omega, by go_num, HK2, HB2⟩
                case measure => simp [intOf]; omega
            · obtain rfl : k = j := by omega
              have HJ2 := Lib.hid (show arc1 L i (k + 1) = true by
                show (arc1 L i k && arc2 L i k k) = true
                rw [HJ.out, HK.out]; rfl)
              go_wp2
              go_roundw
              case rel => go_light; exact ⟨k + 1, by omega, by go_num, HJ2, HB⟩
              case measure => simp [intOf]; omega
        · obtain rfl : j = i := by omega
          have HI2 := Lib.hid (show arc0 L (j + 1) = true by
            show (arc0 L j && arc1 L j j) = true
            rw [HI.out, HJ.out]; rfl)
          go_wp2
          go_roundw
          case rel => go_light; exact ⟨j + 1, by omega, by go_num, HI2, HB⟩
          case measure => simp [intOf]; omega
    · obtain rfl : i = n := by omega
      go_wp2
      go_ret
      exact ⟨by rw [HI.out]; rfl, HB.out⟩
end Go.Proofs.Ytiapngmallfelaa
