/- Chapter 9, walks: without, det. -/
import Derived.Test.YtcmakddnjmeklaaZm
namespace Go.Proofs.Ytcmakddnjmeklaa
open Go.RowKit

theorem nth_drop (l : List Int) (k i : Nat) : nth (l.drop k) i = nth l (k + i) := by simp [nth, List.getD_eq_getElem?_getD]
theorem Sl.drop_far {w : World} {b off n c : Nat} {l : List Int} (h : Sl w (some ⟨b, off, none⟩) n c l) {k : Nat} (hk : k ≤ n) (hn : 1 ≤ n) : Sl w (some ⟨b, off + k, none⟩) (n - k) (c - k) (l.drop k) := by
  obtain ⟨hb, hc⟩ := h.cells hn
  have h1 := h.cap
  have h2 := h.len
  refine ⟨by rw [List.length_drop]; omega, by omega, by omega, .inr (.inr ⟨b, off + k, rfl, hb, fun i hi => ?_⟩)⟩
  rw [nth_drop, Nat.add_assoc]; exact hc _ (by omega)
theorem Sl.drop_all {w : World} {a : Addr} {n : Nat} {l : List Int} (h : Sl w (some a) n n l) : Sl w (some a) 0 0 (l.drop n) := by
  have h2 := h.len
  rw [List.drop_of_length_le (by omega)]
  exact ⟨rfl, Nat.le_refl _, by unfold maxLen; omega, .inr (.inl ⟨rfl, rfl, _, rfl⟩)⟩

/-- The rows but row i, each without its element j. -/
def dropRow (M : List (List Int)) (i j : Nat) : List (List Int) := (M.eraseIdx i).map fun r => r.take j ++ r.drop (j + 1)
def dropTo (M : List (List Int)) (i j k : Nat) : List (List Int) := ((M.take k).eraseIdx i).map fun r => r.take j ++ r.drop (j + 1)
theorem dropTo_hit {M : List (List Int)} {i j k : Nat} (hk : k < M.length) (hne : k ≠ i) : dropTo M i j (k + 1) = dropTo M i j k ++ [(rw_ M k).take j ++ (rw_ M k).drop (j + 1)] := by
  unfold dropTo
  have e : rw_ M k = M[k] := by simp [rw_, hk]
  rw [List.take_succ_eq_append_getElem hk, e]
  by_cases h : i < k
  · rw [List.eraseIdx_append_of_lt_length (by simp; omega), List.map_append]; rfl
  · rw [List.eraseIdx_append_of_length_le (by simp; omega), List.map_append, List.eraseIdx_of_length_le (l := M.take k) (by simp; omega)]
    rw [List.eraseIdx_of_length_le (by simp; omega)]; rfl
theorem dropTo_miss {M : List (List Int)} {i j : Nat} (hk : i < M.length) : dropTo M i j (i + 1) = dropTo M i j i := by
  unfold dropTo
  rw [List.take_succ_eq_append_getElem hk, List.eraseIdx_append_of_length_le (by simp; omega), List.eraseIdx_of_length_le (l := M.take i) (by simp; omega)]
  congr 1
  have : (M.take i).length = i := by simp; omega
  rw [this, Nat.sub_self]; simp
theorem dropTo_len {M : List (List Int)} {i j k : Nat} (hk : k ≤ M.length) : (dropTo M i j k).length = if i < k then k - 1 else k := by
  unfold dropTo
  rw [List.length_map, List.length_eraseIdx]
  have : (M.take k).length = k := by simp; omega
  rw [this]
theorem dropTo_end (M : List (List Int)) (i j : Nat) : dropTo M i j M.length = dropRow M i j := by unfold dropTo dropRow; rw [List.take_length]

def GivesRw (w : World) (M : List (List Int)) (e : Ending) (w' : World) : Prop := ∃ a n c, e = .returned (.slice a n c) ∧ RwOwn w' w.heap.size w'.heap.size (.slice a n c) M ∧ Below w.heap.size w w'

set_option maxHeartbeats 1000000 in
set_option maxRecDepth 100000 in
theorem without_go (w : World) (x : Option Addr) (n c i j L : Nat) (M : List (List Int)) (hM : RwSl w x n c M) (hn : n ≤ 4) (hL : ∀ k, k < n → (rw_ M k).length = L) (hj : j < L) (h2 : ∀ k, k < n → k ≠ i → 2 ≤ L) (hL16 : L ≤ 16) :
    Calls Try.prog 87 #[.slice x n c, .int .i64 i, .int .i64 j] w (GivesRw w (dropRow M i j)) := by
  have HM := Lib.hid hM
  have HL := Lib.hid hL
  have H2 := Lib.hid h2
  have HN := Lib.hid hM.1
  have hcap := hM.2.cap
  unfold maxLen at hcap
  clear hM hL h2
  go_enter Try.func87, Try.ntmps87
  go_wp2
  go_loopw [7, 12] (fun v t wr => ∃ k : Nat, k ≤ n ∧ t = .int .i64 k ∧ Hid (RwOwn wr w.heap.size wr.heap.size v (dropTo M i j k)) ∧ Below w.heap.size w wr) (fun _ t _ => n - (intOf t).toNat)
  case atStart => exact ⟨0, by omega, rfl, Lib.hid (RwOwn.nil _ _), Below.refl _ _⟩
  case round =>
    obtain ⟨k, hk, rfl, HO, hB⟩ := hrel
    by_cases hl : k < n
    · obtain ⟨b, off, rfl, hb, hc⟩ := (HM.out.mono hB).at (by omega)
      obtain ⟨z, m, q, eo, hS⟩ := hc k hl
      have hm : m = L := by rw [← hS.len]; exact HL.out k hl
      subst hm
      have HNL := Lib.hid HN.out
      by_cases hki : k = i
      · subst hki
        have t1 : ((k : Int) != (k : Int)) = false := by simp
        have HO2 := Lib.hid (show RwOwn wr w.heap.size wr.heap.size u7 (dropTo M k j (k + 1)) by rw [dropTo_miss (by rw [HN.out]; exact hl)]; exact HO.out)
        clear hc hS
        go_wp2
        go_roundw
        case rel => go_light; exact ⟨k + 1, by omega, by go_num, HO2, hB⟩
        case measure => simp [intOf]; omega
      · have t1 : ((k : Int) != (i : Int)) = true := by simp; omega
        have h2 := H2.out k hl hki
        obtain ⟨b2, off2, rfl, hb2, _⟩ := hS.at (by omega)
        have hcc := hS.cap
        have htk := Lib.hid (hS.take j (by omega))
        obtain ⟨va, vc, rfl, _⟩ := HO.out.sl
        have HS := Lib.hid hS
        clear hc hS
        by_cases hq : q = j + 1
        · obtain rfl : m = q := by omega
          have HS0 := Lib.hid HS.out.drop_all
          rw [show (rw_ M k).drop m = (rw_ M k).drop (j + 1) by rw [hq]] at HS0
          unfold maxLen at hcc
          have hb0 : Below wr.heap.size wr (wr.alloc (.cells #[.slice (some ⟨b2, off2, none⟩) j m, .slice (some ⟨b2, off2, none⟩) 0 0] 26)).drew := (bal (Below.refl wr.heap.size wr) _).drew
          have HPX := Lib.hid (show (wr.alloc (.cells #[.slice (some ⟨b2, off2, none⟩) j m, .slice (some ⟨b2, off2, none⟩) 0 0] 26)).drew.heap[wr.heap.size]? = some (.cells #[.slice (some ⟨b2, off2, none⟩) j m, .slice (some ⟨b2, off2, none⟩) 0 0] 26 (0, 0)) from new_at wr _)
          have HT1 := Lib.hid (htk.out.mono hb0)
          have HT2 := Lib.hid ((HS0.out).mono hb0)
          obtain ⟨E, D, hT⟩ := (HO.out.mono hb0).wide hb0.size
          have hTT := Lib.hid hT
          have hown := hT.1.1
          have HB0 := Lib.hid hb0
          have hdl : (dropTo M i j k).length ≤ k := by rw [dropTo_len (by rw [HN.out]; omega)]; split <;> omega
          have hwz := hB.size
          have hj0 : (0 : Int) ≤ (j : Int) := by omega
          have hj1 : (j : Int) ≤ (m : Int) := by omega
          have hjm : j ≤ m := by omega
          have hj2 : (j : Int) + 1 ≤ (m : Int) := by omega
          have hj3 : (0 : Int) ≤ (j : Int) + 1 := by omega
          have hjq : j ≤ m := by omega
          have w1 : IntKind.i64.wrap ((j : Int) + 1) = (m : Int) := by rw [wrap_i64j _ (by omega) (by omega)]; omega
          have hm0 : (0 : Int) ≤ (m : Int) := by omega
          clear hT hb0
          generalize hdg : (dropTo M i j k).length = dl at *
          have HDG := Lib.hid hdg
          clear hdg
          have HQ := Lib.hid hq
          clear hq
          go_wp2
          go_region_held3 (fun _ => True) (trivial) (first
            | (go_at_call 92; refine (concat_go _ wr.heap.size j m 0 0 _ _ _ _ HPX.out HT1.out HT2.out (by have := HQ.out; omega) (by omega)).mono ?_; rintro e w2 ⟨a2, n2, c2, rfl, hE, hb2⟩)
            | (refine step_app1 rfl _ _ 103 rfl Try.underlying103 infoSl rfl (by decide) w.heap.size (.slice va dl vc) dl _ rfl ((own_mono hown hb2).alloc _) w2.heap.size #[.slice a2 n2 c2] rfl (new_at _ _) rfl (by simp [Value.oneCell']) (by omega) (by omega) (by have := hb2.size; simp at this; simp; omega) ?_; intro v' wn hown' hgrow))
          have hn2 : n2 = ((rw_ M k).take j ++ (rw_ M k).drop (j + 1)).length := by have := hE.1; simpa using this.symm
          subst hn2
          have hN := RwTr.snoc (o := .cells #[.slice a2 ((rw_ M k).take j ++ (rw_ M k).drop (j + 1)).length c2] 26) hTT.out (by have := HB0.out.size; omega) hb2 hE (by rw [HDG.out]; exact hown') hgrow
          rw [← dropTo_hit (by rw [HN.out]; exact hl) hki] at hN
          have HNN := Lib.hid hN
          have HBN := Lib.hid ((bal (btr (btr hB HB0.out) hb2) _).grown hgrow (by have := hb2.size; simp at this; simp; omega) (fun j hj => (hown.lt j hj).1))
          clear hN hown' hgrow hE hown hb2 hB
          go_wp2
          go_roundw
          case rel => go_light; exact ⟨k + 1, by omega, by go_num, HNN, HBN.out⟩
          case measure => simp [intOf]; omega
        · have hqq : j + 1 < q := by omega
          unfold maxLen at hcc
          have hmq : (m : Int) ≤ (q : Int) := by omega
          have hb0 : Below wr.heap.size wr (wr.alloc (.cells #[.slice (some ⟨b2, off2, none⟩) j q, .slice (some ⟨b2, off2 + (j + 1), none⟩) (m - (j + 1)) (q - (j + 1))] 26)).drew := (bal (Below.refl wr.heap.size wr) _).drew
          have HPX := Lib.hid (show (wr.alloc (.cells #[.slice (some ⟨b2, off2, none⟩) j q, .slice (some ⟨b2, off2 + (j + 1), none⟩) (m - (j + 1)) (q - (j + 1))] 26)).drew.heap[wr.heap.size]? = some (.cells #[.slice (some ⟨b2, off2, none⟩) j q, .slice (some ⟨b2, off2 + (j + 1), none⟩) (m - (j + 1)) (q - (j + 1))] 26 (0, 0)) from new_at wr _)
          have HT1 := Lib.hid (htk.out.mono hb0)
          have HT2 := Lib.hid ((HS.out.drop_far (k := j + 1) (by omega) (by omega)).mono hb0)
          obtain ⟨E, D, hT⟩ := (HO.out.mono hb0).wide hb0.size
          have hTT := Lib.hid hT
          have hown := hT.1.1
          have HB0 := Lib.hid hb0
          have hdl : (dropTo M i j k).length ≤ k := by rw [dropTo_len (by rw [HN.out]; omega)]; split <;> omega
          have hwz := hB.size
          have hj0 : (0 : Int) ≤ (j : Int) := by omega
          have hj1 : (j : Int) ≤ (m : Int) := by omega
          have hjm : j ≤ m := by omega
          have hj2 : (j : Int) + 1 ≤ (m : Int) := by omega
          have hj3 : (0 : Int) ≤ (j : Int) + 1 := by omega
          have hjq : j ≤ q := by omega
          have w1 : IntKind.i64.wrap ((j : Int) + 1) = (j : Int) + 1 := wrap_i64j _ (by omega) (by omega)
          clear hT hb0
          generalize hdg : (dropTo M i j k).length = dl at *
          have HDG := Lib.hid hdg
          clear hdg
          go_wp2
          go_region_held3 (fun _ => True) (trivial) (first
            | (go_at_call 92; refine (concat_go _ wr.heap.size j q (m - (j + 1)) (q - (j + 1)) _ _ _ _ HPX.out HT1.out HT2.out (by omega) (by omega)).mono ?_; rintro e w2 ⟨a2, n2, c2, rfl, hE, hb2⟩)
            | (refine step_app1 rfl _ _ 103 rfl Try.underlying103 infoSl rfl (by decide) w.heap.size (.slice va dl vc) dl _ rfl ((own_mono hown hb2).alloc _) w2.heap.size #[.slice a2 n2 c2] rfl (new_at _ _) rfl (by simp [Value.oneCell']) (by omega) (by omega) (by have := hb2.size; simp at this; simp; omega) ?_; intro v' wn hown' hgrow))
          have hn2 : n2 = ((rw_ M k).take j ++ (rw_ M k).drop (j + 1)).length := by have := hE.1; simpa using this.symm
          subst hn2
          have hN := RwTr.snoc (o := .cells #[.slice a2 ((rw_ M k).take j ++ (rw_ M k).drop (j + 1)).length c2] 26) hTT.out (by have := HB0.out.size; omega) hb2 hE (by rw [HDG.out]; exact hown') hgrow
          rw [← dropTo_hit (by rw [HN.out]; exact hl) hki] at hN
          have HNN := Lib.hid hN
          have HBN := Lib.hid ((bal (btr (btr hB HB0.out) hb2) _).grown hgrow (by have := hb2.size; simp at this; simp; omega) (fun j hj => (hown.lt j hj).1))
          clear hN hown' hgrow hE hown hb2 hB
          go_wp2
          go_roundw
          case rel => go_light; exact ⟨k + 1, by omega, by go_num, HNN, HBN.out⟩
          case measure => simp [intOf]; omega
    · obtain rfl : k = n := by omega
      have hO := HO.out
      rw [show dropTo M i j k = dropRow M i j by rw [← dropTo_end, HN.out]] at hO
      obtain ⟨va, vc, rfl, _⟩ := hO.sl
      have HO2 := Lib.hid hO
      clear hO
      go_wp2
      go_ret
      exact ⟨_, _, _, rfl, HO2.out, hB⟩

/-! ### det -/
def sgn (j : Nat) : Int := if j % 2 = 0 then 1 else -1
def lapl (f : Nat → Int) (r : List Int) : Nat → Int
  | 0 => 0
  | j + 1 => lapl f r j + sgn j * nth r j * f j
def detL : Nat → List (List Int) → Int
  | 0, _ => 1
  | n + 1, M => lapl (fun j => detL n (dropRow M 0 j)) (rw_ M 0) (n + 1)
/-- n rows of n numbers from -500 to 500. -/
def Sq (n : Nat) (M : List (List Int)) : Prop := M.length = n ∧ ∀ k, k < n → (rw_ M k).length = n ∧ ∀ j, j < n → -500 ≤ nth (rw_ M k) j ∧ nth (rw_ M k) j ≤ 500
def dB : Nat → Int
  | 0 => 1
  | n + 1 => 500 * (n + 1) * dB n
theorem sgn_succ (j : Nat) : sgn (j + 1) = -sgn j := by
  unfold sgn
  by_cases h : j % 2 = 0
  · rw [if_pos h, if_neg (by omega)]
  · rw [if_neg h, if_pos (by omega)]; rfl
theorem sgn_or (j : Nat) : sgn j = 1 ∨ sgn j = -1 := by unfold sgn; split <;> simp
theorem rw_drop0 (M : List (List Int)) (j k : Nat) (hk : k + 1 < M.length) : rw_ (dropRow M 0 j) k = (rw_ M (k + 1)).take j ++ (rw_ M (k + 1)).drop (j + 1) := by
  unfold rw_ dropRow
  rw [List.getD_eq_getElem?_getD, List.getElem?_map, List.getElem?_eraseIdx_of_ge (by omega), List.getD_eq_getElem?_getD]
  rw [List.getElem?_eq_getElem hk]; rfl
theorem nth_app (a b : List Int) (i : Nat) : nth (a ++ b) i = if i < a.length then nth a i else nth b (i - a.length) := by
  unfold nth
  rw [List.getD_eq_getElem?_getD, List.getD_eq_getElem?_getD, List.getD_eq_getElem?_getD]
  split
  · rw [List.getElem?_append_left (by omega)]
  · rw [List.getElem?_append_right (by omega)]
theorem nth_take {l : List Int} {j i : Nat} (h : i < j) : nth (l.take j) i = nth l i := by
  unfold nth
  rw [List.getD_eq_getElem?_getD, List.getD_eq_getElem?_getD, List.getElem?_take_of_lt h]
theorem sq_drop {n : Nat} {M : List (List Int)} (h : Sq (n + 1) M) {j : Nat} (hj : j < n + 1) : Sq n (dropRow M 0 j) := by
  obtain ⟨h1, h2⟩ := h
  refine ⟨by unfold dropRow; simp [h1], fun k hk => ?_⟩
  obtain ⟨h3, h4⟩ := h2 (k + 1) (by omega)
  rw [rw_drop0 M j k (by omega)]
  refine ⟨by simp [h3]; omega, fun i hi => ?_⟩
  rw [nth_app]
  have hl : ((rw_ M (k + 1)).take j).length = j := by simp; omega
  rw [hl]
  split
  · rw [nth_take (by omega)]; exact h4 i (by omega)
  · rw [nth_drop]; exact h4 _ (by omega)
theorem dB_pos : ∀ n, 1 ≤ dB n := by
  intro n; induction n with
  | zero => exact Int.le_refl _
  | succ n ih =>
    show 1 ≤ 500 * ((n : Int) + 1) * dB n
    have : 1 * 1 ≤ 500 * ((n : Int) + 1) * dB n := Int.mul_le_mul (by omega) ih (by omega) (by omega)
    omega
theorem sgn_mul (j : Nat) (x : Int) {B : Int} (h1 : -B ≤ x) (h2 : x ≤ B) : -B ≤ sgn j * x ∧ sgn j * x ≤ B := by
  rcases sgn_or j with h | h <;> rw [h] <;> constructor <;> omega
theorem lapl_bound {f : Nat → Int} {r : List Int} {D : Int} {m : Nat} (_hD : 0 ≤ D) (hr : ∀ j, j < m → -500 ≤ nth r j ∧ nth r j ≤ 500) (hf : ∀ j, j < m → -D ≤ f j ∧ f j ≤ D) :
    ∀ j, j ≤ m → -(500 * j * D) ≤ lapl f r j ∧ lapl f r j ≤ 500 * j * D := by
  intro j; induction j with
  | zero => intro _; simp [lapl]
  | succ j ih =>
    intro hj
    have h1 := ih (by omega)
    obtain ⟨r1, r2⟩ := hr j (by omega)
    obtain ⟨f1, f2⟩ := hf j (by omega)
    have h2 := sgn_mul j (nth r j) (B := 500) (by omega) (by omega)
    have h3 := mul_le3 (A := 500) (B := D) h2.1 h2.2 f1 f2 (by omega)
    show -(500 * ((j : Int) + 1) * D) ≤ lapl f r j + sgn j * nth r j * f j ∧ lapl f r j + sgn j * nth r j * f j ≤ 500 * ((j : Int) + 1) * D
    have e : 500 * ((j : Int) + 1) * D = 500 * (j : Int) * D + 500 * D := by rw [Int.mul_add, Int.add_mul, Int.mul_one]
    rw [e]
    omega
theorem detL_bound : ∀ n M, Sq n M → -dB n ≤ detL n M ∧ detL n M ≤ dB n := by
  intro n; induction n with
  | zero => intro M _; show -(1 : Int) ≤ 1 ∧ (1 : Int) ≤ 1; decide
  | succ n ih =>
    intro M h
    have := lapl_bound (f := fun j => detL n (dropRow M 0 j)) (r := rw_ M 0) (D := dB n) (m := n + 1) (by have := dB_pos n; omega) (fun j hj => (h.2 0 (by omega)).2 j hj) (fun j hj => ih _ (sq_drop h hj)) (n + 1) (Nat.le_refl _)
    exact this

set_option maxHeartbeats 1000000 in
theorem det_go (n : Nat) : ∀ (w : World) (x : Option Addr) (c : Nat) (M : List (List Int)), RwSl w x n c M → Sq n M → n ≤ 4 →
    Calls Try.prog 73 #[.slice x n c] w fun e w' => e = .returned (.int .i64 (detL n M)) ∧ Below w.heap.size w w' := by
  induction n with
  | zero =>
    intro w x c M hM _ _
    clear hM
    go_enter Try.func73, Try.ntmps73
    go_wp2_with fail
    go_ret
    exact ⟨rfl, Below.refl _ _⟩
  | succ n ih =>
    intro w x c M hM hS hn
    have HI := Lib.hid ih
    obtain ⟨b, off, rfl, hb, hc⟩ := hM.at (by omega)
    obtain ⟨z, m, q, eo, hR⟩ := hc 0 (by omega)
    have hm : m = n + 1 := by rw [← hR.len]; exact (hS.2 0 (by omega)).1
    subst hm
    have HB := Lib.hid (lapl_bound (f := fun j => detL n (dropRow M 0 j)) (r := rw_ M 0) (D := dB n) (m := n + 1) (by have := dB_pos n; omega) (fun j hj => (hS.2 0 (by omega)).2 j hj) (fun j hj => detL_bound n _ (sq_drop hS hj)))
    have HSQ := Lib.hid (fun j (hj : j < n + 1) => sq_drop hS hj)
    have HROW := Lib.hid (fun j (hj : j < n + 1) => (hS.2 0 (by omega)).2 j hj)
    have HLEN := Lib.hid (fun k (hk : k < n + 1) => (hS.2 k hk).1)
    have HML := Lib.hid hS.1
    have HD := Lib.hid (show detL (n + 1) M = lapl (fun j => detL n (dropRow M 0 j)) (rw_ M 0) (n + 1) from rfl)
    have HDB := Lib.hid (fun M => detL_bound n M)
    have HDN : 1 ≤ dB n ∧ dB n ≤ 1000000000 := by
      have : n = 0 ∨ n = 1 ∨ n = 2 ∨ n = 3 := by omega
      rcases this with rfl | rfl | rfl | rfl <;> decide
    have HM := Lib.hid hM
    have HR := Lib.hid hR
    have hcap := hM.2.cap
    have hcap2 := hR.cap
    unfold maxLen at hcap hcap2
    rw [Nat.add_zero] at eo
    clear ih hM hS hc hR
    obtain ⟨N, hN⟩ : ∃ N, N = n + 1 := ⟨_, rfl⟩
    rw [← hN] at HB HSQ HROW HLEN HML HD HM HR hcap hcap2 eo hn ⊢
    have hN0 : 0 < N := by omega
    have HNN := Lib.hid hN
    have t0 : ((N : Int) == 0) = false := by simp; omega
    clear hN
    obtain ⟨F, hF⟩ : ∃ F : Nat → Int, F = fun j => detL n (dropRow M 0 j) := ⟨_, rfl⟩
    rw [← hF] at HB HD
    have HF := Lib.hid (fun j => congrFun hF j)
    clear hF
    generalize rw_ M 0 = r at *
    go_enter Try.func73, Try.ntmps73
    go_wp2_with fail
    go_loopw [3, 4, 14] (fun s g t wr => ∃ j : Nat, j ≤ N ∧ t = .int .i64 j ∧ s = .int .i64 (lapl F r j) ∧ g = .int .i64 (sgn j) ∧ Below w.heap.size w wr) (fun _ _ t _ => N - (intOf t).toNat)
    case atStart => exact ⟨0, by omega, rfl, rfl, rfl, Below.refl _ _⟩
    case round =>
      obtain ⟨j, hj, rfl, rfl, rfl, hB⟩ := hrel
      by_cases hl : j < N
      · obtain ⟨b2, off2, rfl, hb2, hc2⟩ := (HR.out.mono hB).at (by omega)
        have hcj := hc2 j hl
        have hx := HROW.out j hl
        have hg := sgn_mul j (nth r j) (B := 500) (by omega) (by omega)
        have hLB := HB.out j hj
        have hLB2 := HB.out (j + 1) (by omega)
        have hLS := Lib.hid (show lapl F r (j + 1) = lapl F r j + sgn j * nth r j * F j from rfl)
        have hfb := HDB.out _ (HSQ.out j hl)
        have hFj := HF.out j
        rw [← hFj] at hfb
        have HFJ := Lib.hid hFj
        have hsg := sgn_or j
        have hSS := Lib.hid (sgn_succ j)
        have hbz := Nat.lt_of_lt_of_le hb hB.size
        have hjj : (j : Int) ≤ 4 := by omega
        have hbig : 500 * (j : Int) * dB n ≤ 2000 * 1000000000 := by
          have := Int.mul_le_mul (show 500 * (j : Int) ≤ 2000 by omega) HDN.2 (by omega) (by omega)
          omega
        have h3 := mul_le3 (A := 500) (B := 1000000000) hg.1 hg.2 (show -1000000000 ≤ F j by omega) (by omega) (by omega)
        clear hc2 hLB2
        generalize lapl F r j = s0 at *
        generalize sgn j = g0 at *
        generalize nth r j = x0 at *
        have hg1 : -1 ≤ g0 ∧ g0 ≤ 1 := by omega
        clear hsg hFj
        generalize hp : g0 * x0 = p at *
        generalize F j = f0 at *
        generalize hq : p * f0 = q at *
        go_wp2_with fail
        refine (without_go _ _ N c 0 j N M (HM.out.mono hB) hn (fun k hk => HLEN.out k hk) hl (fun k hk h0 => by omega) (by omega)).mono ?_
        rintro e w2 ⟨a2, n2, c2, rfl, hO, hb2'⟩
        obtain ⟨a3, c3, e3, hsl⟩ := hO.sl
        injection e3 with e4 e5 e6
        have hlen : (dropRow M 0 j).length = n := (HSQ.out j hl).1
        subst e4 e5 e6
        rw [hlen] at hsl ⊢
        have HSL := Lib.hid hsl
        have HB2 := Lib.hid (btr hB hb2')
        clear hO hsl hb2' hB hlen
        go_wp2_with fail
        refine (HI.out _ _ _ _ HSL.out (HSQ.out j hl) (by have := HNN.out; omega)).mono ?_
        rintro e w3 ⟨rfl, hb3⟩
        rw [← HFJ.out]
        have HB3 := Lib.hid (btr HB2.out hb3)
        clear hb3
        go_wp2
        go_roundw
        case rel =>
          go_light
          exact ⟨j + 1, by omega, by go_num, by rw [hLS.out], by rw [hSS.out], HB3.out⟩
        case measure => go_light; simp [intOf]; omega
      · obtain rfl : j = N := by omega
        go_wp2
        go_ret
        rw [HD.out]
        exact ⟨rfl, hB⟩
end Go.Proofs.Ytcmakddnjmeklaa
