/- Walk: det. -/
import Derived.Test.YtiapngmallfelaaDetK
namespace Go.Proofs.Ytiapngmallfelaa
open Go.RowKit

theorem infoRow : (Try.prog.info? 22).map (fun i => (i.zero, i.size, i.bytes)) = some (some (.slice none 0 0), 1, 24) := by kernel_rfl
def fM (h : List Nat) (i j : Nat) : Int := if (gn h i).testBit j then -1 else 1

theorem rows_start {w w1 : World} {n : Nat} (h : w1.ownsRow w.heap.size 22 1 (.slice (some ⟨w.heap.size, 0, none⟩) n n) n (List.replicate n (.slice none 0 0))) (h1 : 1 ≤ n) (blk cap : Nat → Nat) (f : Nat → Nat → Int) :
    RowsAt w1 w.heap.size w.heap.size n 0 blk cap f ∧ w1.cell? ⟨w.heap.size, 0, none⟩ = some (.slice none 0 0) := by
  have c : ∀ i, i < n → w1.cell? ⟨w.heap.size, i, none⟩ = some (.slice none 0 0) := fun i hi => by
    rw [h.cellAt i (by omega), List.getElem?_replicate, if_pos hi]
  refine ⟨⟨Nat.le_refl _, ?_, fun i hi => h.frozenAt i, fun i hi => by omega, fun i _ hn => c i hn, fun i hi => by omega, fun i j hi => by omega, fun i j hi => by omega⟩, c 0 (by omega)⟩
  have hq := h.lt w.heap.size rfl
  exact hq.2

theorem own_slice {w : World} {base e size n : Nat} {v : Value} {xs : List Value} (h : w.ownsRow base e size v n xs) : ∃ a c, v = .slice a n c := by
  rcases h.2 with ⟨rfl, h0⟩ | ⟨g, cap, cur, rfl, _⟩
  · subst h0; exact ⟨_, _, rfl⟩
  · exact ⟨_, _, rfl⟩
theorem row_block {w : World} {Br n : Nat} {v : Value} {F : Nat → Int} (h : w.ownsRow Br 3 1 v n ((List.range n).map fun c => Value.int .i64 (F c))) (hn : 0 < n) :
    ∃ g cp, v = .slice (some ⟨g, 0, none⟩) n cp ∧ Br ≤ g ∧ g < w.heap.size ∧ n ≤ cp ∧ cp ≤ maxLen ∧ ∀ j, j < n → w.cell? ⟨g, j, none⟩ = some (.int .i64 (F j)) ∧ w.frozen? ⟨g, j, none⟩ = false := by
  rcases h.2 with ⟨_, h0⟩ | ⟨g, cap, cur, rfl, hb, hg, hnc, hc, hs, ht⟩
  · omega
  · refine ⟨g, cap, rfl, hb, (Array.getElem?_eq_some_iff.1 hg).1, hnc, hc, fun j hj => ⟨?_, free_at hg j⟩⟩
    have h1 : ((List.range n).map fun c => Value.int .i64 (F c))[j]? = some (.int .i64 (F j)) := by simp [hj]
    rw [← ht, List.getElem?_take_of_lt (by omega)] at h1
    rw [cells_at hg]; simpa using h1
theorem keepA {wr wn : World} {o : Obj} {v : Value} {Br size k : Nat} {e : TypeId} {xs : List Value} (hown : wr.ownsRow Br e size v k xs) (hg : (wr.alloc o).grownBy wn v.ownBlock) (hsz : Br ≤ wr.heap.size) :
    (∀ b, b < Br → wn.heap[b]? = wr.heap[b]?) ∧ wr.heap.size ≤ wn.heap.size := by
  have h1 := hg.size
  have hs : (wr.alloc o).heap.size = wr.heap.size + 1 := by simp
  refine ⟨fun b hb => ?_, by omega⟩
  rw [hg.block b (by omega) (fun e => by have := (hown.lt b e.symm).1; omega)]
  exact Below.heap_alloc wr o b (by omega)
theorem below_app {w wr wn : World} {o : Obj} {v : Value} {B Br size k : Nat} {e : TypeId} {xs : List Value} (hb : Below B w wr) (hown : wr.ownsRow Br e size v k xs) (hg : (wr.alloc o).grownBy wn v.ownBlock) (hsz : Br ≤ wr.heap.size) (hB : B ≤ Br) : Below B w wn :=
  (hb.alloc (by omega) o).grown hg (by simp; omega) (fun b he => by have := (hown.lt b he).1; omega)

set_option maxRecDepth 100000 in
set_option maxHeartbeats 4000000 in
theorem det_go (w : World) (a : Option Addr) (n cap0 : Nat) (h : List Nat) (hs : Sl w a n cap0 (ints h)) (h2 : 2 ≤ n) (hn : n ≤ 12) (hh : ∀ x ∈ h, x < 65536) (hok : (elTo n h (n - 1)).ok = true) :
    Calls Try.prog 41 #[.slice a n cap0] w fun e w' => e = .returned (.int .i64 ((elTo n h (n - 1)).sign * ent (elTo n h (n - 1)).M (n - 1) (n - 1))) ∧ Below w.heap.size w w' := by
  obtain ⟨i0, hi, hz0, hz1, hz2⟩ := info_parts infoInt
  obtain ⟨j0, hj, hy0, hy1, hy2⟩ := info_parts infoRow
  go_enter Try.func41, Try.ntmps41
  go_wp2_with (refine wpList_make_full w rfl _ _ 81 rfl w.heap.size 22 j0 (.slice none 0 0) 1 Try.underlying81 hj hy0 hy1 .i64 .i64 n n n rfl rfl rfl rfl (by rw [hy2]; omega) (by unfold maxLen; omega) (Nat.le_refl _) ?_; intro w1 hown1 hgrow1)
  have hB1 : Below w.heap.size w w1 := (Below.refl _ _).grown hgrow1 (Nat.le_refl _) (fun _ h => by cases h)
  rw [show (Value.slice none 0 0).cells = #[Value.slice none 0 0] from rfl, toList_madeCells_one, Nat.mul_one] at hown1
  obtain ⟨hR, hc0⟩ := rows_start hown1 (by omega) (fun _ => 0) (fun _ => 0) (fM h)
  have hw1 := hR.2.1
  clear hown1 hgrow1
  have HSL := Lib.hid hs
  have hcap : n ≤ cap0 := hs.2.1
  clear hs
  go_loopw [20] (fun t wr => ∃ i : Nat, i ≤ n ∧ t = .int .i64 i ∧ ∃ blk cap : Nat → Nat, Hid (RowsAt wr w.heap.size w.heap.size n i blk cap (fM h)) ∧ Hid (i < n → wr.cell? ⟨w.heap.size, i, none⟩ = some (.slice none 0 0)) ∧ Below w.heap.size w wr) (fun t _ => n - (intOf t).toNat)
  case atStart => exact ⟨0, by omega, rfl, _, _, Lib.hid hR, Lib.hid (fun _ => hc0), hB1⟩
  case round =>
    clear hR hc0 hB1 hw1
    obtain ⟨i, hi', rfl, blk, cap, HR, HC0, hB⟩ := hrel
    by_cases hli : i < n
    · go_wp2
      obtain ⟨wz, rfl⟩ : ∃ wz : World, wz = wr := ⟨_, rfl⟩
      have hAz : w.heap.size < wz.heap.size := HR.out.2.1
      have HBk := Lib.hid (fun r (hr : r < i) => (HR.out.2.2.2.2.2.1 r hr).2.1)
      generalize hBr : wz.heap.size = Br at *
      have HBr := Lib.hid hBr
      go_loopw [24] (fun t wr => ∃ j : Nat, j ≤ n ∧ t = .int .i64 j ∧ ∃ v : Value, Hid (RowsAt wr w.heap.size w.heap.size n i blk cap (fM h)) ∧ wr.cell? ⟨w.heap.size, i, none⟩ = some v ∧ wr.ownsRow Br 3 1 v j ((List.range j).map fun c => Value.int .i64 (fM h i c)) ∧ Br ≤ wr.heap.size ∧ Below w.heap.size w wr) (fun t _ => n - (intOf t).toNat)
      case atStart => exact ⟨0, by omega, rfl, _, HR, HC0.out hli, World.ownsRow_nil _ _ _ _, by omega, hB⟩
      case round =>
        clear HR HC0 hB hBr
        obtain ⟨j, hj', rfl, v, HR, hcv, hown, hsz, hB⟩ := hrel
        by_cases hlj : j < n
        · go_wp2_with fail
          refine (is_go _ a n cap0 h (HSL.out.mono hB) hh i j hli (by omega)).mono ?_
          rintro e w3 ⟨rfl, rfl⟩
          cases hb : (gn h i).testBit j with
          | true =>
            have hf : fM h i j = -1 := by unfold fM; rw [hb]; rfl
            have hfr := HR.out.2.2.1 i hli
            go_wp2_with (at_builtin; refine wpList_append_own _ rfl _ _ 22 rfl Br 3 i0 (.int .i64 0) 1 8 Try.underlying22 hi hz0 hz1 hz2 rfl (by decide) v j _ rfl (hown.alloc _) ⟨wr.heap.size, 0, none⟩ 1 1 [.int .i64 (-1)] rfl rfl ?c1 ?c2 ?c3 ?c4 ?c5 ?_)
            case c1 =>
              intro z u hz
              have hz1 : z < 1 := by
                by_cases q : z < 1
                · exact q
                · rw [List.getElem?_eq_none (by simp; omega)] at hz; exact absurd hz (by simp)
              obtain rfl : z = 0 := by omega
              rw [← hz]; show World.cell? _ ⟨_, 0 + 0, none⟩ = _; rw [cells_at (new_at _ _)]; rfl
            case c2 => intro u hu; simp at hu; subst hu; rfl
            case c3 => unfold maxLen; omega
            case c4 => omega
            case c5 => first | omega | (simp; omega)
            intro v' wn hown' hgrow _
            obtain ⟨av, cv, rfl⟩ := own_slice hown'
            obtain ⟨hkeep, hsz2⟩ := keepA hown hgrow hsz
            have HRn := Lib.hid (HR.out.keep hAz HBk.out hsz2 hkeep)
            have hfn := HRn.out.2.2.1 i hli
            have hcn : wn.cell? ⟨w.heap.size, i, none⟩ = some v := by simp only [World.cell?] at hcv ⊢; rw [hkeep _ hAz]; exact hcv
            have hBn := below_app hB hown hgrow hsz (Nat.le_of_lt hAz)
            have hzn := HRn.out.2.1
            have hown2 := ownsRow_setCell_below hown' (a := ⟨w.heap.size, i, none⟩) hAz (.slice av (j + 1) cv)
            have hc2 : (wn.setCell ⟨w.heap.size, i, none⟩ (.slice av (j + 1) cv)).cell? ⟨w.heap.size, i, none⟩ = some (.slice av (j + 1) cv) := World.cell?_setCell_same _ _ _ hcn
            have HR2 := Lib.hid (HRn.out.head (.slice av (j + 1) cv))
            have HO2 := Lib.hid hown2
            have HC2 := Lib.hid hc2
            clear hown hcv hown' hgrow hown2 hc2 hkeep
            go_wp2
            go_roundw
            case rel =>
              refine ⟨j + 1, by omega, by go_num, .slice av (j + 1) cv, HR2, HC2.out, ?_, ?_, below_store hBn _⟩
              · rw [List.range_succ, List.map_append, List.map_singleton, hf]; exact HO2.out
              · have : (wn.setCell ⟨w.heap.size, i, none⟩ (.slice av (j + 1) cv)).heap.size = wn.heap.size := by simp [World.setCell]
                rw [this]; omega
            case measure => simp [intOf]; omega
          | false =>
            have hf : fM h i j = 1 := by unfold fM; rw [hb]; rfl
            have hfr := HR.out.2.2.1 i hli
            go_wp2_with (at_builtin; refine wpList_append_own _ rfl _ _ 22 rfl Br 3 i0 (.int .i64 0) 1 8 Try.underlying22 hi hz0 hz1 hz2 rfl (by decide) v j _ rfl (hown.alloc _) ⟨wr.heap.size, 0, none⟩ 1 1 [.int .i64 (1)] rfl rfl ?c1 ?c2 ?c3 ?c4 ?c5 ?_)
            case c1 =>
              intro z u hz
              have hz1 : z < 1 := by
                by_cases q : z < 1
                · exact q
                · rw [List.getElem?_eq_none (by simp; omega)] at hz; exact absurd hz (by simp)
              obtain rfl : z = 0 := by omega
              rw [← hz]; show World.cell? _ ⟨_, 0 + 0, none⟩ = _; rw [cells_at (new_at _ _)]; rfl
            case c2 => intro u hu; simp at hu; subst hu; rfl
            case c3 => unfold maxLen; omega
            case c4 => omega
            case c5 => first | omega | (simp; omega)
            intro v' wn hown' hgrow _
            obtain ⟨av, cv, rfl⟩ := own_slice hown'
            obtain ⟨hkeep, hsz2⟩ := keepA hown hgrow hsz
            have HRn := Lib.hid (HR.out.keep hAz HBk.out hsz2 hkeep)
            have hfn := HRn.out.2.2.1 i hli
            have hcn : wn.cell? ⟨w.heap.size, i, none⟩ = some v := by simp only [World.cell?] at hcv ⊢; rw [hkeep _ hAz]; exact hcv
            have hBn := below_app hB hown hgrow hsz (Nat.le_of_lt hAz)
            have hzn := HRn.out.2.1
            have hown2 := ownsRow_setCell_below hown' (a := ⟨w.heap.size, i, none⟩) hAz (.slice av (j + 1) cv)
            have hc2 : (wn.setCell ⟨w.heap.size, i, none⟩ (.slice av (j + 1) cv)).cell? ⟨w.heap.size, i, none⟩ = some (.slice av (j + 1) cv) := World.cell?_setCell_same _ _ _ hcn
            have HR2 := Lib.hid (HRn.out.head (.slice av (j + 1) cv))
            have HO2 := Lib.hid hown2
            have HC2 := Lib.hid hc2
            clear hown hcv hown' hgrow hown2 hc2 hkeep
            go_wp2
            go_roundw
            case rel =>
              refine ⟨j + 1, by omega, by go_num, .slice av (j + 1) cv, HR2, HC2.out, ?_, ?_, below_store hBn _⟩
              · rw [List.range_succ, List.map_append, List.map_singleton, hf]; exact HO2.out
              · have : (wn.setCell ⟨w.heap.size, i, none⟩ (.slice av (j + 1) cv)).heap.size = wn.heap.size := by simp [World.setCell]
                rw [this]; omega
            case measure => simp [intOf]; omega
        · obtain rfl : j = n := by omega
          obtain ⟨g, cp, rfl, hg1, hg2, hg3, hg4, hg5⟩ := row_block hown (by omega)
          have HN := Lib.hid (HR.out.next hli hcv (by omega) hg2 hg3 hg4 (fun r hr => by have := HBk.out r hr; omega) hg5)
          have HC1 := Lib.hid (fun (q : i + 1 < j) => HR.out.2.2.2.2.1 (i + 1) (by omega) q)
          clear hown hcv hg5
          go_wp2
          go_roundw
          case rel => exact ⟨i + 1, by omega, by go_num, _, _, HN, HC1, hB⟩
          case measure => simp [intOf]; omega
    · have hin : n = i := by omega
      subst hin
      have HM := Lib.hid HR.out.mat
      clear HR HC0
      have HOK := Lib.hid (fun k (hk : k ≤ n - 1) => el_ok (n - 1 - k) k (by rw [show k + (n - 1 - k) = n - 1 by omega]; exact hok))
      have HM0 := Lib.hid (HM.out.congr (g := ent (elTo n h 0).M) (fun i j hi hj => by
        show fM h i j = ent ((List.range n).map fun i => (List.range n).map fun j => if (gn h i).testBit j then -1 else 1) i j
        rw [ent_tab n _ hi hj]; rfl))
      have hn1 : (n : Int) - 1 = ((n - 1 : Nat) : Int) := by omega
      have HN1 := Lib.hid hn1
      clear HM hn1 hok
      go_wp2
      refine wp_onExit (k := 4) (det_k w n h _ hn h2 HOK _ _ _ HM0 hB _ _ _ _ _ _ _ _ _ _ _ _ _ _ _ _ _ _ _ _ _ _ _ _ _ _ _ _ _ _ _ _ _ _ _ _ _ _ _ _ _ _ _ _ _ _ _ _ _ _ _ _ _ _ _ _ _ _ _ _ _ _ _ _ _ _ _ _ _ _ _ _ _ _ _ _ _ _ _ _ _ _ _ _ _ _ _ _ _ _ _ _ _ _ _ _ _ _ _ _ _ _ _ _ _ _ _ _ _ _ _ _ _ _ _ _ _ _ _ _ _ _ _ _ _ _ _ _ _ _ _ _ _ _ _ _ _ _ _ _ _ _ _ ?_)
      intro v2 v9 v10 v11 v12 v13 v45 v46 v47 v48 v49 v50 v51 v52 v53 v54 v55 v56 v57 v58 v59 v60 v61 v62 v63 v64 v65 v66 v67 v68 v69 v70 v71 v72 v73 v74 v75 v76 v77 v78 v79 v80 v81 v82 v83 v84 v85 v86 v87 v88 v89 v90 v91 v92 v93 v94 v95 v96 v97 v98 v99 v100 v101 v102 v103 v104 v105 v106 v107 v108 v109 v110 v111 v112 v113 v114 v115 v116 v117 v118 v119 v120 v121 v122 v123 v124 v125 v126 v127 v128 v129 v130 v131 v132 v133 v134 v135 v136 v137 blk2 cap2 w5 HM5 hB5
      obtain ⟨m1, m2, m3, m4, m5, m6⟩ := HM5.out
      have c_a := (m3 (n - 1) (by omega)).1
      obtain ⟨_, s_k, _, p_k, _⟩ := m4 (n - 1) (by omega)
      have c_e := (m5 (n - 1) (n - 1) (by omega) (by omega)).1
      rcases el_big (n - 1) (HOK.out (n - 1) (by omega)) with ⟨b1, _, _, _, b5⟩ | hbad
      · have bb := b1 (n - 1) (n - 1) (by omega) (by omega)
        have hsgn : -1 ≤ (elTo n h (n - 1)).sign ∧ (elTo n h (n - 1)).sign ≤ 1 := by rcases b5 with b5 | b5 <;> rw [b5] <;> decide
        clear m1 m2 m3 m4 m5 m6 b1 b5 HM0 hB
        obtain ⟨x, hx⟩ : ∃ x, ent (elTo n h (n - 1)).M (n - 1) (n - 1) = x := ⟨_, rfl⟩
        obtain ⟨y, hy⟩ : ∃ y, (elTo n h (n - 1)).sign = y := ⟨_, rfl⟩
        rw [hx] at c_e bb
        rw [hy] at hsgn
        rw [hy]
        have HX := Lib.hid hx
        have HY := Lib.hid hy
        clear hx hy
        obtain ⟨P, hP⟩ : ∃ P, y * x = P := ⟨_, rfl⟩
        have y1 := mul_le3 (A := 1) (B := 100000000) hsgn.1 hsgn.2 bb.1 bb.2 (by omega)
        rw [hP] at y1
        have wP : IntKind.i64.wrap P = P := wrap_i64j _ (by omega) (by omega)
        have hn1 : IntKind.i64.wrap ((n : Int) - 1) = (n : Int) - 1 := wrap_i64j _ (by omega) (by omega)
        have hn2 : ((n : Int) - 1).toNat = n - 1 := by omega
        have hn3 : (0 : Int) ≤ (n : Int) - 1 := by omega
        have hn4 : (n : Int) - 1 < (n : Int) := by omega
        go_wp2
        go_ret
        rw [HX.out, HY.out, hP]
        exact ⟨rfl, hB5⟩
      · omega

theorem Det_go (w : World) (a : Option Addr) (n cap0 : Nat) (h : List Nat) (hs : Sl w a n cap0 (ints h)) (h2 : 2 ≤ n) (hn : n ≤ 12) (hh : ∀ x ∈ h, x < 65536) (hG : ∀ i, i < n → gn h i < 2 ^ n) (hok : (elTo n h (n - 1)).ok = true) :
    Calls Try.prog 14 #[.slice a n cap0] w fun e w' => e = .returned (.tuple #[.int .i64 ((elTo n h (n - 1)).sign * ent (elTo n h (n - 1)).M (n - 1) (n - 1)), .int .i64 0]) ∧ Below w.heap.size w w' := by
  have HOK := Lib.hid hok
  clear hok
  go_enter Try.func14, Try.ntmps14
  go_wp2_with fail
  refine (sgvalid_go _ a n cap0 h 12 hs (by omega) hn (by omega) hG).mono ?_
  rintro e w1 ⟨rfl, hb1⟩
  go_wp2_with fail
  refine (det_go _ a n cap0 h (hs.mono hb1) h2 hn hh HOK.out).mono ?_
  rintro e w2 ⟨rfl, hb2⟩
  go_wp2
  go_ret2
  exact ⟨rfl, btr hb1 hb2⟩
end Go.Proofs.Ytiapngmallfelaa
