/- Chapter 9, walks: the closures of Best and Check. -/
import Derived.Test.YtcmakddnjmeklaaWi
namespace Go.Proofs.Ytcmakddnjmeklaa
open Go.RowKit

/-- A boxed number. -/
def BoxI (w : World) (p : Nat) (z : Int) : Prop := w.heap[p]? = some (.cells #[.int .i64 z] 3 (0, 0))
theorem BoxI.cell {w : World} {p : Nat} {z : Int} (h : BoxI w p z) : p < w.heap.size ∧ w.cell? ⟨p, 0, none⟩ = some (.int .i64 z) := ⟨lt_of_block h, by rw [cells_at h]; rfl⟩
/-- A boxed slice. -/
def BoxS (w : World) (p : Nat) (y : Option Addr) (m d : Nat) : Prop := w.heap[p]? = some (.cells #[.slice y m d] 26 (0, 0))
theorem BoxS.cell {w : World} {p : Nat} {y : Option Addr} {m d : Nat} (h : BoxS w p y m d) : p < w.heap.size ∧ w.cell? ⟨p, 0, none⟩ = some (.slice y m d) := ⟨lt_of_block h, by rw [cells_at h]; rfl⟩
theorem bsn_bound {b S z : Int} (hb1 : 1 ≤ b) (hb4 : b ≤ 4) (hS1 : 1 ≤ S) (hS2 : S ≤ 12) (hz : -1000000000000 ≤ z ∧ z ≤ 1000000000000) : (1 ≤ b * S ∧ b * S ≤ 48) ∧ -48000000000000 ≤ b * S * z ∧ b * S * z ≤ 48000000000000 := by
  have h1 := Int.mul_le_mul hb4 hS2 (by omega) (by omega)
  have h2 := Int.mul_le_mul hb1 hS1 (by omega) (by omega)
  have h3 := mul_le3 (A := 48) (B := 1000000000000) (show -48 ≤ b * S by omega) (by omega) hz.1 hz.2 (by omega)
  exact ⟨⟨by omega, by omega⟩, by omega, by omega⟩
set_option maxRecDepth 100000 in
set_option maxHeartbeats 1000000 in
theorem best1_go (w : World) (a b : Int) (pw pp ps n c k q m d s : Nat) (x y z : Option Addr) (X : Ac) (l : List Int) (dv : Int) (hw : BoxW w pw a b x n c) (hpp : BoxP w pp y m d dv) (hps : BoxI w ps s) (h1 : Sl w z k q X.o) (hl : Sl w y m d l) (hs : s < m)
    (hv1 : vAc k X = true) (hk : k ≤ 4) (hkm : k ≤ m) (ha : 1 ≤ a) (hab : a < b) (hb : b ≤ 4) (hlb : ∀ e ∈ l, -1000000000000 ≤ e ∧ e ≤ 1000000000000) (hd : 0 ≤ dv ∧ dv ≤ 1000000000) :
    Calls Try.prog 52 #[av X.g z k q, .pointer (some ⟨pw, 0, none⟩), .pointer (some ⟨pp, 0, none⟩), .pointer (some ⟨ps, 0, none⟩)] w fun e w' => e = .returned (.bool (tel a b X (nth l) dv == b * isum X.o * nth l s)) ∧ Below w.heap.size w w' := by
  obtain ⟨_, _, _, hor1, s11, s12⟩ := vAc_at hv1
  have HO1 := Lib.hid hor1
  obtain ⟨g1, o1⟩ := X
  have hls := hlb _ (nth_mem (l := l) (k := s) (by rw [hl.len]; exact hs))
  have hb0 := bal (Below.refl w.heap.size w) (.cells #[.int .i64 g1, .slice z k q] 50)
  have HB0 := Lib.hid hb0
  have HX1 := Lib.hid (new_at w (.cells #[.int .i64 g1, .slice z k q] 50))
  have HS1 := Lib.hid (h1.mono hb0)
  have HL := Lib.hid (hl.mono hb0)
  have HW0 := Lib.hid (persist hw hb0)
  have HP0 := Lib.hid (persist hpp hb0)
  have HI0 := Lib.hid (persist hps hb0)
  have HV1 := Lib.hid hv1
  have HLB := Lib.hid hlb
  have s11 : 1 ≤ isum o1 := s11
  have s12 : isum o1 ≤ 3 * k := s12
  obtain ⟨bl, ol, rfl, hbl, hcl⟩ := HL.out.at (by omega)
  have hcs := hcl s hs
  have hmd := hl.cap
  unfold maxLen at hmd
  obtain ⟨⟨b1, b2⟩, b3, b4⟩ := bsn_bound (b := b) (S := isum o1) (by omega) hb s11 (by omega) hls
  clear hw hpp hps h1 hl hv1 hlb hor1 hb0 hcl hls
  generalize hWe : w.alloc (.cells #[.int .i64 g1, .slice z k q] 50) = W at *
  have HWW := Lib.hid hWe
  clear hWe
  generalize hzz : nth l s = zz at *
  have HZZ := Lib.hid hzz
  clear hzz
  have HSX := Lib.hid (fun (w' : World) (hb : Below W.heap.size W w') =>
    (show w'.cell? ⟨pw, 0, none⟩ = some (.int .i64 a) ∧ w'.cell? ⟨pw, 1, none⟩ = some (.int .i64 b) ∧ w'.cell? ⟨pw, 2, none⟩ = some (.slice x n c) ∧ w'.cell? ⟨pp, 0, none⟩ = some (.slice (some ⟨bl, ol, none⟩) m d) ∧ w'.cell? ⟨pp, 1, none⟩ = some (.int .i64 dv) ∧ w'.cell? ⟨ps, 0, none⟩ = some (.int .i64 s) ∧ w'.cell? ⟨w.heap.size, 0, none⟩ = some (.int .i64 g1) ∧ w'.cell? ⟨w.heap.size, 1, none⟩ = some (.slice z k q) ∧ w'.cell? ⟨bl, ol + s, none⟩ = some (.int .i64 zz) from
      have e1 := BoxW.cells (persist HW0.out hb)
      have e2 := BoxP.cells (persist HP0.out hb)
      have e3 := persist HX1.out hb
      have e4 := BoxI.cell (persist HI0.out hb)
      ⟨e1.2.1, e1.2.2.1, e1.2.2.2, e2.2.1, e2.2.2, e4.2, by rw [cells_at e3]; rfl, by rw [cells_at e3]; rfl, ((bcell hb).1 _ _ hbl).trans hcs⟩))
  have hC : Below W.heap.size W W.drew := (Below.refl _ _).drew
  have w1 : IntKind.i64.wrap (b * isum o1) = b * isum o1 := wrap_i64j _ (by omega) (by omega)
  have w2 : IntKind.i64.wrap (b * isum o1 * zz) = b * isum o1 * zz := wrap_i64j _ (by omega) (by omega)
  have hs0 : (0 : Int) ≤ (s : Int) := by omega
  have hsm : (s : Int) < (m : Int) := by omega
  go_enter Try.func52, Try.ntmps52
  go_wp2
  rw [HWW.out]
  go_region_held3 (fun w' => w'.cell? ⟨pw, 0, none⟩ = some (.int .i64 a) ∧ w'.cell? ⟨pw, 1, none⟩ = some (.int .i64 b) ∧ w'.cell? ⟨pw, 2, none⟩ = some (.slice x n c) ∧ w'.cell? ⟨pp, 0, none⟩ = some (.slice (some ⟨bl, ol, none⟩) m d) ∧ w'.cell? ⟨pp, 1, none⟩ = some (.int .i64 dv) ∧ w'.cell? ⟨ps, 0, none⟩ = some (.int .i64 s) ∧ w'.cell? ⟨w.heap.size, 0, none⟩ = some (.int .i64 g1) ∧ w'.cell? ⟨w.heap.size, 1, none⟩ = some (.slice z k q) ∧ w'.cell? ⟨bl, ol + s, none⟩ = some (.int .i64 zz))
    ((exact HSX.out _ hC))
    (first
      | ((with_reducible refine (told_go _ a b g1 x z _ n c k q m d o1 l dv (HS1.out.mono hC) (HL.out.mono hC) HV1.out hk hkm ha hab hb HLB.out hd).mono ?_); rintro e w' ⟨rfl, hb9⟩; replace hC := btr hC hb9; clear hb9)
      | ((with_reducible refine (sum_go _ g1 z k q o1 (HS1.out.mono hC) (by omega) HO1.out).mono ?_); rintro e w' ⟨rfl, hb9⟩; replace hC := btr hC hb9; clear hb9))
  all_goals go_wp2
  all_goals go_ret
  all_goals exact ⟨rfl, btr HB0.out hC⟩
set_option maxRecDepth 100000 in
set_option maxHeartbeats 1000000 in
theorem check1_go (w : World) (a b : Int) (pw pp py ps n c k q m d s : Nat) (x y z : Option Addr) (X : Ac) (l : List Int) (dv : Int) (hw : BoxW w pw a b x n c) (hpp : BoxP w pp y m d dv) (hpy : BoxS w py y m d) (hps : BoxI w ps s) (h1 : Sl w z k q X.o) (hl : Sl w y m d l) (hs : s < m)
    (hv1 : vAc k X = true) (hk : k ≤ 4) (hkm : k ≤ m) (ha : 1 ≤ a) (hab : a < b) (hb : b ≤ 4) (hlb : ∀ e ∈ l, -1000000000000 ≤ e ∧ e ≤ 1000000000000) (hd : 0 ≤ dv ∧ dv ≤ 1000000000) :
    Calls Try.prog 62 #[av X.g z k q, .pointer (some ⟨pw, 0, none⟩), .pointer (some ⟨pp, 0, none⟩), .pointer (some ⟨py, 0, none⟩), .pointer (some ⟨ps, 0, none⟩)] w fun e w' => e = .returned (.bool (decide (tel a b X (nth l) dv ≤ b * isum X.o * nth l s))) ∧ Below w.heap.size w w' := by
  obtain ⟨_, _, _, hor1, s11, s12⟩ := vAc_at hv1
  have HO1 := Lib.hid hor1
  obtain ⟨g1, o1⟩ := X
  have hls := hlb _ (nth_mem (l := l) (k := s) (by rw [hl.len]; exact hs))
  have hb0 := bal (Below.refl w.heap.size w) (.cells #[.int .i64 g1, .slice z k q] 50)
  have HB0 := Lib.hid hb0
  have HX1 := Lib.hid (new_at w (.cells #[.int .i64 g1, .slice z k q] 50))
  have HS1 := Lib.hid (h1.mono hb0)
  have HL := Lib.hid (hl.mono hb0)
  have HW0 := Lib.hid (persist hw hb0)
  have HP0 := Lib.hid (persist hpp hb0)
  have HY0 := Lib.hid (persist hpy hb0)
  have HI0 := Lib.hid (persist hps hb0)
  have HV1 := Lib.hid hv1
  have HLB := Lib.hid hlb
  have s11 : 1 ≤ isum o1 := s11
  have s12 : isum o1 ≤ 3 * k := s12
  obtain ⟨bl, ol, rfl, hbl, hcl⟩ := HL.out.at (by omega)
  have hcs := hcl s hs
  have hmd := hl.cap
  unfold maxLen at hmd
  obtain ⟨⟨b1, b2⟩, b3, b4⟩ := bsn_bound (b := b) (S := isum o1) (by omega) hb s11 (by omega) hls
  clear hw hpp hps hpy h1 hl hv1 hlb hor1 hb0 hcl hls
  generalize hWe : w.alloc (.cells #[.int .i64 g1, .slice z k q] 50) = W at *
  have HWW := Lib.hid hWe
  clear hWe
  generalize hzz : nth l s = zz at *
  have HZZ := Lib.hid hzz
  clear hzz
  have HSX := Lib.hid (fun (w' : World) (hb : Below W.heap.size W w') =>
    (show w'.cell? ⟨pw, 0, none⟩ = some (.int .i64 a) ∧ w'.cell? ⟨pw, 1, none⟩ = some (.int .i64 b) ∧ w'.cell? ⟨pw, 2, none⟩ = some (.slice x n c) ∧ w'.cell? ⟨pp, 0, none⟩ = some (.slice (some ⟨bl, ol, none⟩) m d) ∧ w'.cell? ⟨pp, 1, none⟩ = some (.int .i64 dv) ∧ w'.cell? ⟨py, 0, none⟩ = some (.slice (some ⟨bl, ol, none⟩) m d) ∧ w'.cell? ⟨ps, 0, none⟩ = some (.int .i64 s) ∧ w'.cell? ⟨w.heap.size, 0, none⟩ = some (.int .i64 g1) ∧ w'.cell? ⟨w.heap.size, 1, none⟩ = some (.slice z k q) ∧ w'.cell? ⟨bl, ol + s, none⟩ = some (.int .i64 zz) from
      have e1 := BoxW.cells (persist HW0.out hb)
      have e2 := BoxP.cells (persist HP0.out hb)
      have e3 := persist HX1.out hb
      have e4 := BoxI.cell (persist HI0.out hb)
      have e5 := BoxS.cell (persist HY0.out hb)
      ⟨e1.2.1, e1.2.2.1, e1.2.2.2, e2.2.1, e2.2.2, e5.2, e4.2, by rw [cells_at e3]; rfl, by rw [cells_at e3]; rfl, ((bcell hb).1 _ _ hbl).trans hcs⟩))
  have hC : Below W.heap.size W W.drew := (Below.refl _ _).drew
  have w1 : IntKind.i64.wrap (b * isum o1) = b * isum o1 := wrap_i64j _ (by omega) (by omega)
  have w2 : IntKind.i64.wrap (b * isum o1 * zz) = b * isum o1 * zz := wrap_i64j _ (by omega) (by omega)
  have hs0 : (0 : Int) ≤ (s : Int) := by omega
  have hsm : (s : Int) < (m : Int) := by omega
  go_enter Try.func62, Try.ntmps62
  go_wp2
  rw [HWW.out]
  go_region_held3 (fun w' => w'.cell? ⟨pw, 0, none⟩ = some (.int .i64 a) ∧ w'.cell? ⟨pw, 1, none⟩ = some (.int .i64 b) ∧ w'.cell? ⟨pw, 2, none⟩ = some (.slice x n c) ∧ w'.cell? ⟨pp, 0, none⟩ = some (.slice (some ⟨bl, ol, none⟩) m d) ∧ w'.cell? ⟨pp, 1, none⟩ = some (.int .i64 dv) ∧ w'.cell? ⟨py, 0, none⟩ = some (.slice (some ⟨bl, ol, none⟩) m d) ∧ w'.cell? ⟨ps, 0, none⟩ = some (.int .i64 s) ∧ w'.cell? ⟨w.heap.size, 0, none⟩ = some (.int .i64 g1) ∧ w'.cell? ⟨w.heap.size, 1, none⟩ = some (.slice z k q) ∧ w'.cell? ⟨bl, ol + s, none⟩ = some (.int .i64 zz))
    ((exact HSX.out _ hC))
    (first
      | ((with_reducible refine (told_go _ a b g1 x z _ n c k q m d o1 l dv (HS1.out.mono hC) (HL.out.mono hC) HV1.out hk hkm ha hab hb HLB.out hd).mono ?_); rintro e w' ⟨rfl, hb9⟩; replace hC := btr hC hb9; clear hb9)
      | ((with_reducible refine (sum_go _ g1 z k q o1 (HS1.out.mono hC) (by omega) HO1.out).mono ?_); rintro e w' ⟨rfl, hb9⟩; replace hC := btr hC hb9; clear hb9))
  all_goals go_wp2
  all_goals go_ret
  all_goals exact ⟨rfl, btr HB0.out hC⟩
end Go.Proofs.Ytcmakddnjmeklaa
