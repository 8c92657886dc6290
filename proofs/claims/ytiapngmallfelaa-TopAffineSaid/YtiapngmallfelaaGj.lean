/- Walks: arcs: Free. The plain law of TopAffine. -/
import Derived.Test.YtiapngmallfelaaGi
namespace Go.Proofs.Ytiapngmallfelaa
open Go.RowKit
set_option linter.unusedSimpArgs false
set_option maxHeartbeats 1000000 in
theorem a3Free_some (w : World) (a : Option Addr) (n cap : Nat) (L : List Nat) (hs : Sl w a n cap (ints L)) (hin : (ints L).all (inB 13) = true) (hr : risB (ints L) = true) (hL : ∀ x ∈ L, x < 13) (hn : n ≤ 16) (hc : arc0 L n = false) :
    Calls Try.prog 28 #[.int .i64 3, .slice a n cap] w fun e w' => e = .returned (.tuple #[.slice none 0 0, .int .i64 5]) ∧ Below w.heap.size w w' := by
  have HSE := Lib.hid (a3set_go w a n cap _ hs hin hr)
  have HA := Lib.hid (fun (w' : World) (pk : Nat) (hP : PlaneAt w' pk 3) (hb : Below w.heap.size w w') => a3arc_go w' pk hP a n cap L (hs.mono hb) hL hn)
  rw [hc] at HA
  clear hs hin hr hL hc
  go_enter Try.func28, Try.ntmps28
  go_wp2_with fail
  refine HSE.out.mono ?_
  rintro e w' ⟨pk, rfl, hP, hb⟩
  have HP := Lib.hid hP
  have HB := Lib.hid hb
  clear hP hb
  go_wp2_with fail
  refine (HA.out _ pk HP.out HB.out).mono ?_
  rintro e w2 ⟨rfl, hb⟩
  have HB2 := Lib.hid (btr HB.out hb)
  clear hb
  go_wp2
  go_ret2
  exact ⟨rfl, HB2.out⟩
set_option maxHeartbeats 1000000 in
theorem a3Free_none (w : World) (a : Option Addr) (n cap : Nat) (L : List Nat) (hs : Sl w a n cap (ints L)) (hin : (ints L).all (inB 13) = true) (hr : risB (ints L) = true) (hL : ∀ x ∈ L, x < 13) (hn : n ≤ 16) (hc : arc0 L n = true) :
    Calls Try.prog 28 #[.int .i64 3, .slice a n cap] w fun e w' => GivesSlE w (ints (freeT (fun q => blk L q n) 13)) 0 e w' := by
  have HSE := Lib.hid (a3set_go w a n cap _ hs hin hr)
  have HA := Lib.hid (fun (w' : World) (pk : Nat) (hP : PlaneAt w' pk 3) (hb : Below w.heap.size w w') => a3arc_go w' pk hP a n cap L (hs.mono hb) hL hn)
  have HF := Lib.hid (fun (w' : World) (pk : Nat) (hP : PlaneAt w' pk 3) (hb : Below w.heap.size w w') => a3free_go w' pk hP a n cap L (hs.mono hb) hL hn)
  rw [hc] at HA
  clear hs hin hr hL hc
  go_enter Try.func28, Try.ntmps28
  go_wp2_with fail
  refine HSE.out.mono ?_
  rintro e w' ⟨pk, rfl, hP, hb⟩
  have HP := Lib.hid hP
  have HB := Lib.hid hb
  clear hP hb
  go_wp2_with fail
  refine (HA.out _ pk HP.out HB.out).mono ?_
  rintro e w2 ⟨rfl, hb⟩
  have HB2 := Lib.hid (btr HB.out hb)
  have HP2 := Lib.hid (HP.out.mono hb)
  clear hb
  go_wp2_with fail
  refine (HF.out _ pk HP2.out HB2.out).mono ?_
  rintro e w3 ⟨fa, fn, fc, rfl, hown, hb⟩
  have HO := Lib.hid (own_base hown HB2.out.size)
  have HB3 := Lib.hid (btr HB2.out hb)
  clear hown hb
  go_wp2
  go_ret2
  exact ⟨fa, fn, fc, rfl, HO.out, HB3.out⟩
/-! ### the plain law -/
theorem pt4 : ∀ x, x < 9 → ptP 3 (4 + x) = (1, x / 3, x % 3) := by decide
theorem str4 : ∀ a, a < 9 → ∀ b, b < 9 → ∀ c, c < 9 → a ≠ b → b ≠ c → a ≠ c → (dotN 3 (crossN 3 (1, a / 3, a % 3) (1, b / 3, b % 3)) (1, c / 3, c % 3) == 0) = (thdN 2 a b == c) := by
  have h : ((List.range 9).all fun a => (List.range 9).all fun b => (List.range 9).all fun c => a == b || b == c || a == c || ((dotN 3 (crossN 3 (1, a / 3, a % 3) (1, b / 3, b % 3)) (1, c / 3, c % 3) == 0) == (thdN 2 a b == c))) = true := by kernel_rfl
  intro a ha b hb c hc h1 h2 h3
  have h4 := List.all_eq_true.1 (List.all_eq_true.1 (List.all_eq_true.1 h a (List.mem_range.2 ha)) b (List.mem_range.2 hb)) c (List.mem_range.2 hc)
  simpa [h1, h2, h3] using h4
theorem strAff {a b c : Nat} (ha : a < 9) (hb : b < 9) (hc : c < 9) (h1 : a ≠ b) (h2 : b ≠ c) (h3 : a ≠ c) : strB (4 + a) (4 + b) (4 + c) = (thdN 2 a b == c) := by
  unfold strB
  rw [pt4 a ha, pt4 b hb, pt4 c hc]
  exact str4 a ha b hb c hc h1 h2 h3
theorem strSame : ∀ a, a < 9 → ∀ b, b < 9 → strB (4 + a) (4 + b) (4 + b) = true := by
  have h : ((List.range 9).all fun a => (List.range 9).all fun b => strB (4 + a) (4 + b) (4 + b)) = true := by kernel_rfl
  intro a ha b hb
  exact List.all_eq_true.1 (List.all_eq_true.1 h a (List.mem_range.2 ha)) b (List.mem_range.2 hb)
def pts4 (L : List Nat) : List Nat := L.map fun x => 4 + x
theorem gn_pts4 {L : List Nat} {i : Nat} (h : i < L.length) : gn (pts4 L) i = 4 + gn L i := by simp [gn, pts4, h]
theorem gn_mem {L : List Nat} {i : Nat} (h : i < L.length) : gn L i ∈ L := by rw [gn_of_lt h]; exact List.getElem_mem _
theorem rise_lt {L : List Nat} (hr : risB (ints L) = true) {i j : Nat} (hij : i < j) (hj : j < L.length) : gn L i < gn L j := by
  induction j with
  | zero => omega
  | succ j ih =>
    have h := ris_at hr (i := j + 1) (by omega) (by simpa [ints] using hj)
    rw [nth_ints, nth_ints, show j + 1 - 1 = j from rfl] at h
    by_cases e : i = j
    · subst e; omega
    · have := ih (by omega) (by omega); omega
theorem cJ_zero {L : List Nat} {i : Nat} : ∀ m, cJ L i m = 0 ↔ ∀ t, t < m → hitB L (gn L i) (gn L (i + 1 + t)) = false
  | 0 => ⟨fun _ t h => by omega, fun _ => rfl⟩
  | m + 1 => by
    have ih := cJ_zero (L := L) (i := i) m
    have he : cJ L i (m + 1) = cJ L i m + if hitB L (gn L i) (gn L (i + 1 + m)) then 1 else 0 := rfl
    constructor
    · intro h t ht
      rw [he] at h
      by_cases e : t = m
      · subst e
        cases hh : hitB L (gn L i) (gn L (i + 1 + t)) with
        | false => rfl
        | true => rw [hh] at h; simp at h
      · exact ih.1 (by omega) t (by omega)
    · intro h
      rw [he, ih.2 fun t ht => h t (by omega), h m (by omega)]
      rfl
theorem cI_zero {L : List Nat} : ∀ n, cI L n = 0 ↔ ∀ i j, i < n → i < j → j < L.length → hitB L (gn L i) (gn L j) = false
  | 0 => ⟨fun _ i j h => by omega, fun _ => rfl⟩
  | n + 1 => by
    have ih := cI_zero (L := L) n
    have he : cI L (n + 1) = cI L n + cJ L n (L.length - (n + 1)) := rfl
    constructor
    · intro h i j hi hij hj
      rw [he] at h
      by_cases e : i = n
      · subst e
        have h2 := (cJ_zero _).1 (show cJ L i (L.length - (i + 1)) = 0 by omega) (j - (i + 1)) (by omega)
        rwa [show i + 1 + (j - (i + 1)) = j by omega] at h2
      · exact ih.1 (by omega) i j (by omega) hij hj
    · intro h
      rw [he, ih.2 fun i j h1 h2 h3 => h i j (by omega) h2 h3, (cJ_zero _).2 fun t ht => h n (n + 1 + t) (by omega) (by omega) (by omega)]
theorem arc2_true {L : List Nat} {i j : Nat} : ∀ m, arc2 L i j m = true ↔ ∀ k, k < m → strB (gn L k) (gn L j) (gn L i) = false
  | 0 => ⟨fun _ t h => by omega, fun _ => rfl⟩
  | m + 1 => by
    have ih := arc2_true (L := L) (i := i) (j := j) m
    have he : arc2 L i j (m + 1) = (arc2 L i j m && !strB (gn L m) (gn L j) (gn L i)) := rfl
    rw [he, Bool.and_eq_true, ih]
    constructor
    · rintro ⟨h1, h2⟩ k hk
      by_cases e : k = m
      · subst e; simpa using h2
      · exact h1 k (by omega)
    · intro h
      exact ⟨fun k hk => h k (by omega), by rw [h m (by omega)]; rfl⟩
theorem arc1_true {L : List Nat} {i : Nat} : ∀ m, arc1 L i m = true ↔ ∀ j k, j < m → k < j → strB (gn L k) (gn L j) (gn L i) = false
  | 0 => ⟨fun _ t k h => by omega, fun _ => rfl⟩
  | m + 1 => by
    have ih := arc1_true (L := L) (i := i) m
    have he : arc1 L i (m + 1) = (arc1 L i m && arc2 L i m m) := rfl
    rw [he, Bool.and_eq_true, ih, arc2_true]
    constructor
    · rintro ⟨h1, h2⟩ j k hj hk
      by_cases e : j = m
      · subst e; exact h2 k hk
      · exact h1 j k (by omega) hk
    · intro h
      exact ⟨fun j k hj hk => h j k (by omega) hk, fun k hk => h m k (by omega) hk⟩
theorem arc0_true {L : List Nat} : ∀ m, arc0 L m = true ↔ ∀ i j k, i < m → j < i → k < j → strB (gn L k) (gn L j) (gn L i) = false
  | 0 => ⟨fun _ t k _ h => by omega, fun _ => rfl⟩
  | m + 1 => by
    have ih := arc0_true (L := L) m
    have he : arc0 L (m + 1) = (arc0 L m && arc1 L m m) := rfl
    rw [he, Bool.and_eq_true, ih, arc1_true]
    constructor
    · rintro ⟨h1, h2⟩ i j k hi hj hk
      by_cases e : i = m
      · subst e; exact h2 j k hj hk
      · exact h1 i j k (by omega) hj hk
    · intro h
      exact ⟨fun i j k hi hj hk => h i j k (by omega) hj hk, fun j k hj hk => h m j k (by omega) hj hk⟩
theorem hit_iff {L : List Nat} {x y : Nat} : hitB L x y = true ↔ y < thdN 2 x y ∧ thdN 2 x y ∈ L := by
  unfold hitB ints
  simp
  intro _
  constructor
  · rintro ⟨a, ha, he⟩
    have e : a = thdN 2 x y := by omega
    rw [← e]; exact ha
  · intro h
    exact ⟨_, h, rfl⟩
theorem cap_arc {L : List Nat} (hL : ∀ x ∈ L, x < 9) (hr : risB (ints L) = true) : arc0 (pts4 L) L.length = (cI L L.length == 0) := by
  rw [Bool.eq_iff_iff, arc0_true, beq_iff_eq, cI_zero]
  have h9 : ∀ {i}, i < L.length → gn L i < 9 := fun h => hL _ (gn_mem h)
  constructor
  · intro h i j hi hij hj
    cases hh : hitB L (gn L i) (gn L j) with
    | false => rfl
    | true =>
      obtain ⟨h1, h2⟩ := hit_iff.1 hh
      obtain ⟨r, hrl, he⟩ := List.getElem_of_mem h2
      have he2 : gn L r = thdN 2 (gn L i) (gn L j) := by rw [gn_of_lt hrl]; exact he
      have hjr : j < r := by
        rcases Nat.lt_trichotomy j r with h | h | h
        · exact h
        · subst h; omega
        · have := rise_lt hr h hj; omega
      have h3 := h r j i hrl hjr hij
      rw [gn_pts4 hrl, gn_pts4 hj, gn_pts4 hi, strAff (h9 hi) (h9 hj) (h9 hrl) (Nat.ne_of_lt (rise_lt hr hij hj)) (Nat.ne_of_lt (rise_lt hr hjr hrl)) (Nat.ne_of_lt (rise_lt hr (by omega) hrl)), he2] at h3
      simp at h3
  · intro h i j k hi hji hkj
    have hj : j < L.length := by omega
    have hk : k < L.length := by omega
    rw [gn_pts4 hi, gn_pts4 hj, gn_pts4 hk, strAff (h9 hk) (h9 hj) (h9 hi) (Nat.ne_of_lt (rise_lt hr hkj hj)) (Nat.ne_of_lt (rise_lt hr hji hi)) (Nat.ne_of_lt (rise_lt hr (by omega) hi))]
    rw [beq_eq_false_iff_ne]
    intro he
    have h2 := h k j hk hkj hj
    have h3 := hit_iff (L := L) (x := gn L k) (y := gn L j)
    rw [he, h2] at h3
    have := h3.2 ⟨rise_lt hr hji hi, gn_mem hi⟩
    cases this
theorem mkJ_iff {L : List Nat} {i x : Nat} : ∀ m, mkJ L i m x = true ↔ ∃ k, k < m ∧ x = thdN 2 (gn L i) (gn L k)
  | 0 => ⟨fun h => (by cases h), fun ⟨k, h, _⟩ => by omega⟩
  | m + 1 => by
    have ih := mkJ_iff (L := L) (i := i) (x := x) m
    have he : mkJ L i (m + 1) x = (x == thdN 2 (gn L i) (gn L m) || mkJ L i m x) := rfl
    rw [he, Bool.or_eq_true, ih, beq_iff_eq]
    constructor
    · rintro (h | ⟨k, h1, h2⟩)
      · exact ⟨m, by omega, h⟩
      · exact ⟨k, by omega, h2⟩
    · rintro ⟨k, h1, h2⟩
      by_cases e : k = m
      · subst e; exact .inl h2
      · exact .inr ⟨k, by omega, h2⟩
theorem mkI_iff {L : List Nat} {x : Nat} : ∀ m, mkI L m x = true ↔ ∃ i, i < m ∧ (x = gn L i ∨ ∃ k, k < i ∧ x = thdN 2 (gn L i) (gn L k))
  | 0 => ⟨fun h => (by cases h), fun ⟨k, h, _⟩ => by omega⟩
  | m + 1 => by
    have ih := mkI_iff (L := L) (x := x) m
    have he : mkI L (m + 1) x = (mkJ L m m x || (x == gn L m || mkI L m x)) := rfl
    rw [he, Bool.or_eq_true, Bool.or_eq_true, ih, beq_iff_eq, mkJ_iff]
    constructor
    · rintro (h | h | ⟨i, h1, h2⟩)
      · exact ⟨m, by omega, .inr h⟩
      · exact ⟨m, by omega, .inl h⟩
      · exact ⟨i, by omega, h2⟩
    · rintro ⟨i, h1, h2⟩
      by_cases e : i = m
      · subst e
        rcases h2 with h2 | h2
        · exact .inr (.inl h2)
        · exact .inl h2
      · exact .inr (.inr ⟨i, by omega, h2⟩)
theorem inn_iff {L : List Nat} {q i : Nat} : ∀ m, inn L q i m = true ↔ ∃ k, k < m ∧ strB (gn L i) (gn L k) q = true
  | 0 => ⟨fun h => (by cases h), fun ⟨k, h, _⟩ => by omega⟩
  | m + 1 => by
    have ih := inn_iff (L := L) (q := q) (i := i) m
    have he : inn L q i (m + 1) = (inn L q i m || strB (gn L i) (gn L m) q) := rfl
    rw [he, Bool.or_eq_true, ih]
    constructor
    · rintro (⟨k, h1, h2⟩ | h)
      · exact ⟨k, by omega, h2⟩
      · exact ⟨m, by omega, h⟩
    · rintro ⟨k, h1, h2⟩
      by_cases e : k = m
      · subst e; exact .inr h2
      · exact .inl ⟨k, by omega, h2⟩
theorem blk_iff {L : List Nat} {q : Nat} : ∀ m, blk L q m = true ↔ ∃ i, i < m ∧ (gn L i = q ∨ ∃ k, k < i ∧ strB (gn L i) (gn L k) q = true)
  | 0 => ⟨fun h => (by cases h), fun ⟨k, h, _⟩ => by omega⟩
  | m + 1 => by
    have ih := blk_iff (L := L) (q := q) m
    have he : blk L q (m + 1) = (blk L q m || (gn L m == q || inn L q m m)) := rfl
    rw [he, Bool.or_eq_true, Bool.or_eq_true, ih, beq_iff_eq, inn_iff]
    constructor
    · rintro (⟨i, h1, h2⟩ | h | h)
      · exact ⟨i, by omega, h2⟩
      · exact ⟨m, by omega, .inl h⟩
      · exact ⟨m, by omega, .inr h⟩
    · rintro ⟨i, h1, h2⟩
      by_cases e : i = m
      · subst e
        rcases h2 with h2 | h2
        · exact .inr (.inl h2)
        · exact .inr (.inr h2)
      · exact .inl ⟨i, by omega, h2⟩
theorem blk_aff {L : List Nat} (hL : ∀ x ∈ L, x < 9) (hr : risB (ints L) = true) {c : Nat} (hc : c < 9) : blk (pts4 L) (4 + c) L.length = mkI L L.length c := by
  have h9 : ∀ {i}, i < L.length → gn L i < 9 := fun h => hL _ (gn_mem h)
  rw [Bool.eq_iff_iff, blk_iff, mkI_iff]
  constructor
  · rintro ⟨i, hi, h⟩
    by_cases hcL : ∃ r, r < L.length ∧ gn L r = c
    · obtain ⟨r, h1, h2⟩ := hcL
      exact ⟨r, h1, .inl h2.symm⟩
    have hne : ∀ r, r < L.length → gn L r ≠ c := fun r h1 h2 => hcL ⟨r, h1, h2⟩
    rcases h with h | ⟨k, hk, h⟩
    · rw [gn_pts4 hi] at h
      exact absurd (by omega) (hne i hi)
    · have hkl : k < L.length := by omega
      rw [gn_pts4 hi, gn_pts4 hkl, strAff (h9 hi) (h9 hkl) hc (Nat.ne_of_gt (rise_lt hr hk hi)) (hne k hkl) (hne i hi), beq_iff_eq] at h
      exact ⟨i, hi, .inr ⟨k, hk, h.symm⟩⟩
  · rintro ⟨i, hi, h⟩
    by_cases hcL : ∃ r, r < L.length ∧ gn L r = c
    · obtain ⟨r, h1, h2⟩ := hcL
      exact ⟨r, h1, .inl (by rw [gn_pts4 h1, h2])⟩
    have hne : ∀ r, r < L.length → gn L r ≠ c := fun r h1 h2 => hcL ⟨r, h1, h2⟩
    rcases h with h | ⟨k, hk, h⟩
    · exact absurd h.symm (hne i hi)
    · have hkl : k < L.length := by omega
      refine ⟨i, hi, .inr ⟨k, hk, ?_⟩⟩
      rw [gn_pts4 hi, gn_pts4 hkl, strAff (h9 hi) (h9 hkl) hc (Nat.ne_of_gt (rise_lt hr hk hi)) (hne k hkl) (hne i hi), beq_iff_eq]
      exact h.symm
def nearF (M : List Nat) : List Nat := (M.filter fun x => decide (4 ≤ x)).map fun x => x - 4
theorem near_freeT (f : Nat → Bool) : ∀ k, nearF (freeT f (4 + k)) = freeT (fun c => f (4 + c)) k
  | 0 => by
    unfold nearF freeT
    simp
    omega
  | k + 1 => by
    have ih := near_freeT f k
    cases hf : f (4 + k) with
    | true => rw [show 4 + (k + 1) = (4 + k) + 1 from rfl, freeT_yes hf, freeT_yes (f := fun c => f (4 + c)) hf, ih]
    | false =>
      rw [show 4 + (k + 1) = (4 + k) + 1 from rfl, freeT_no hf, freeT_no (f := fun c => f (4 + c)) hf, ← ih]
      unfold nearF
      rw [List.filter_append, List.map_append]
      simp
theorem freeT_congr {f g : Nat → Bool} : ∀ k, (∀ c, c < k → f c = g c) → freeT f k = freeT g k
  | 0, _ => rfl
  | k + 1, h => by
    have ih := freeT_congr k fun c hc => h c (by omega)
    have hk := h k (by omega)
    cases hg : g k with
    | true => rw [freeT_yes hg, freeT_yes (hk.trans hg), ih]
    | false => rw [freeT_no hg, freeT_no (hk.trans hg), ih]
theorem near_law {L : List Nat} (hL : ∀ x ∈ L, x < 9) (hr : risB (ints L) = true) : nearF (freeT (fun q => blk (pts4 L) q L.length) 13) = freeT (mkI L L.length) 9 := by
  rw [show (13 : Nat) = 4 + 9 from rfl, near_freeT]
  exact freeT_congr 9 fun c hc => blk_aff hL hr hc
end Go.Proofs.Ytiapngmallfelaa
