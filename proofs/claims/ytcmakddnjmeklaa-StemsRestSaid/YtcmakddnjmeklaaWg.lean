/- Chapter 9, plain: the better plan, the best plan. -/
import Derived.Test.YtcmakddnjmeklaaWc
namespace Go.Proofs.Ytcmakddnjmeklaa
open Go.RowKit

/-! ### the greatest, the first of them -/
def bIx (mo : Nat → Nat → Bool) (own : Nat) : Nat → Nat
  | 0 => own
  | k + 1 => if mo k (bIx mo own k) then k else bIx mo own k
def fIx (mo : Nat → Nat → Bool) (own : Nat) : Nat → Bool
  | 0 => false
  | k + 1 => fIx mo own k || mo k (bIx mo own k)
def rIx (mo : Nat → Nat → Bool) : Nat → Nat
  | 0 => 0
  | k + 1 => if mo k (rIx mo k) then k else rIx mo k
section
variable {T S : Nat → Int} {mo : Nat → Nat → Bool} {n : Nat}
theorem le_tr (hS : ∀ i, i < n → 0 < S i) {i j k : Nat} (hi : i < n) (hj : j < n) (hk : k < n) (h1 : T i * S j ≤ T j * S i) (h2 : T j * S k ≤ T k * S j) : T i * S k ≤ T k * S i := by
  have q1 := Int.mul_le_mul_of_nonneg_right h1 (Int.le_of_lt (hS k hk))
  have q2 := Int.mul_le_mul_of_nonneg_right h2 (Int.le_of_lt (hS i hi))
  refine Int.le_of_mul_le_mul_right ?_ (hS j hj)
  grind
theorem lt_tr1 (hS : ∀ i, i < n → 0 < S i) {i j k : Nat} (hi : i < n) (hj : j < n) (hk : k < n) (h1 : T i * S j < T j * S i) (h2 : T j * S k ≤ T k * S j) : T i * S k < T k * S i := by
  have q1 := Int.mul_lt_mul_of_pos_right h1 (hS k hk)
  have q2 := Int.mul_le_mul_of_nonneg_right h2 (Int.le_of_lt (hS i hi))
  refine Int.lt_of_mul_lt_mul_right (a := S j) ?_ (Int.le_of_lt (hS j hj))
  grind
theorem lt_tr2 (hS : ∀ i, i < n → 0 < S i) {i j k : Nat} (hi : i < n) (hj : j < n) (hk : k < n) (h1 : T i * S j ≤ T j * S i) (h2 : T j * S k < T k * S j) : T i * S k < T k * S i := by
  have q1 := Int.mul_le_mul_of_nonneg_right h1 (Int.le_of_lt (hS k hk))
  have q2 := Int.mul_lt_mul_of_pos_right h2 (hS i hi)
  refine Int.lt_of_mul_lt_mul_right (a := S j) ?_ (Int.le_of_lt (hS j hj))
  grind
theorem bIx_inv (hS : ∀ i, i < n → 0 < S i) (hmo : ∀ i j, mo i j = decide (T j * S i < T i * S j)) {own : Nat} (ho : own < n) : ∀ k, k ≤ n →
    (bIx mo own k = own ∧ fIx mo own k = false ∧ ∀ i, i < k → T i * S own ≤ T own * S i) ∨
    (bIx mo own k < k ∧ fIx mo own k = true ∧ T own * S (bIx mo own k) < T (bIx mo own k) * S own ∧ (∀ i, i < k → T i * S (bIx mo own k) ≤ T (bIx mo own k) * S i) ∧ ∀ i, i < bIx mo own k → T i * S (bIx mo own k) < T (bIx mo own k) * S i) := by
  intro k; induction k with
  | zero => intro _; exact .inl ⟨rfl, rfl, fun i hi => by omega⟩
  | succ k ih =>
    intro hk
    have e1 : bIx mo own (k + 1) = if mo k (bIx mo own k) then k else bIx mo own k := rfl
    have e2 : fIx mo own (k + 1) = (fIx mo own k || mo k (bIx mo own k)) := rfl
    rcases ih (by omega) with ⟨h1, h2, h3⟩ | ⟨h1, h2, h3, h4, h5⟩
    · rw [e1, e2, h1, h2, hmo]
      by_cases q : T own * S k < T k * S own
      · rw [decide_eq_true q, if_pos rfl]
        refine .inr ⟨by omega, rfl, q, fun i hi => ?_, fun i hi => ?_⟩
        · by_cases e : i = k
          · subst e; exact Int.le_refl _
          · exact Int.le_of_lt (lt_tr2 hS (by omega) ho (by omega) (h3 i (by omega)) q)
        · exact lt_tr2 hS (by omega) ho (by omega) (h3 i (by omega)) q
      · rw [decide_eq_false q, if_neg (by simp)]
        refine .inl ⟨rfl, rfl, fun i hi => ?_⟩
        by_cases e : i = k
        · subst e; omega
        · exact h3 i (by omega)
    · have hb : bIx mo own k < n := by omega
      rw [e1, e2, h2, hmo]
      generalize bIx mo own k = b at *
      by_cases q : T b * S k < T k * S b
      · rw [decide_eq_true q, if_pos rfl]
        refine .inr ⟨by omega, rfl, lt_tr1 hS ho hb (by omega) h3 (Int.le_of_lt q), fun i hi => ?_, fun i hi => ?_⟩
        · by_cases e : i = k
          · subst e; exact Int.le_refl _
          · exact Int.le_of_lt (lt_tr2 hS (by omega) hb (by omega) (h4 i (by omega)) q)
        · exact lt_tr2 hS (by omega) hb (by omega) (h4 i (by omega)) q
      · rw [decide_eq_false q, if_neg (by simp)]
        refine .inr ⟨by omega, rfl, h3, fun i hi => ?_, h5⟩
        by_cases e : i = k
        · subst e; omega
        · exact h4 i (by omega)
theorem rIx_inv (hS : ∀ i, i < n → 0 < S i) (hmo : ∀ i j, mo i j = decide (T j * S i < T i * S j)) (hn : 0 < n) : ∀ k, k ≤ n →
    rIx mo k < n ∧ (∀ i, i < k → T i * S (rIx mo k) ≤ T (rIx mo k) * S i) ∧ (rIx mo k < k ∨ rIx mo k = 0) ∧ ∀ i, i < rIx mo k → T i * S (rIx mo k) < T (rIx mo k) * S i := by
  intro k; induction k with
  | zero => intro _; exact ⟨hn, fun i hi => by omega, .inr rfl, fun i hi => absurd hi (by show ¬ i < 0; omega)⟩
  | succ k ih =>
    intro hk
    have e1 : rIx mo (k + 1) = if mo k (rIx mo k) then k else rIx mo k := rfl
    obtain ⟨h1, h2, h3, h4⟩ := ih (by omega)
    rw [e1, hmo]
    generalize rIx mo k = r at *
    by_cases q : T r * S k < T k * S r
    · rw [decide_eq_true q, if_pos rfl]
      refine ⟨by omega, fun i hi => ?_, .inl (by omega), fun i hi => ?_⟩
      · by_cases e : i = k
        · subst e; exact Int.le_refl _
        · exact Int.le_of_lt (lt_tr2 hS (by omega) h1 (by omega) (h2 i (by omega)) q)
      · exact lt_tr2 hS (by omega) h1 (by omega) (h2 i (by omega)) q
    · rw [decide_eq_false q, if_neg (by simp)]
      refine ⟨h1, fun i hi => ?_, by omega, h4⟩
      by_cases e : i = k
      · subst e; omega
      · exact h2 i (by omega)
/-- The program's choice is the reference's. -/
theorem bIx_rIx (hS : ∀ i, i < n → 0 < S i) (hmo : ∀ i j, mo i j = decide (T j * S i < T i * S j)) {own : Nat} (ho : own < n) : bIx mo own n = if mo (rIx mo n) own then rIx mo n else own := by
  obtain ⟨r1, r2, r3, r4⟩ := rIx_inv hS hmo (by omega) n (Nat.le_refl _)
  rcases bIx_inv hS hmo ho n (Nat.le_refl _) with ⟨h1, _, h3⟩ | ⟨h1, _, h3, h4, h5⟩
  · rw [h1, hmo, decide_eq_false (by have := h3 _ r1; omega), if_neg (by simp)]
  · generalize bIx mo own n = b at *
    generalize rIx mo n = r at *
    have e : b = r := by
      rcases Nat.lt_trichotomy b r with q | q | q
      · have := r4 b q; have := h4 r r1; omega
      · exact q
      · have := h5 r q; have := r2 b h1; omega
    subst e
    rw [hmo, decide_eq_true h3, if_pos rfl]
end

/-! ### the next plan -/
def tlW (W : Wd) (p : List Int) (x : Ac) : Int := tel W.a W.b x (nth (wNs W.a W.b (planActs W.acts p))) (wD W.a W.b (planActs W.acts p))
def moW (W : Wd) (p : List Int) (s i j : Nat) : Bool := decide (tlW W p (ac (acl W.acts s) j) * isum (ac (acl W.acts s) i).o < tlW W p (ac (acl W.acts s) i) * isum (ac (acl W.acts s) j).o)
def nextP (W : Wd) (p : List Int) : List Int := (List.range W.acts.length).map fun s => (bIx (moW W p s) (nth p s).toNat (acl W.acts s).length : Int)
def foundP (W : Wd) (p : List Int) : Bool := (List.range W.acts.length).any fun s => fIx (moW W p s) (nth p s).toNat (acl W.acts s).length
theorem tel_congr {a b : Int} {x : Ac} {u v : Nat → Int} {d : Int} (h : ∀ k, k < x.o.length → u k = v k) : tel a b x u d = tel a b x v d := by
  unfold tel
  rw [sumN_congr fun k hk => by rw [h k hk]]
theorem plan_parts {W : Wd} {p : List Int} (h : isPlanB W p = true) : vWd W = true ∧ p.length = W.acts.length ∧ (∀ s, s < W.acts.length → 0 ≤ nth p s ∧ nth p s < (acl W.acts s).length) ∧ (1 ≤ W.acts.length ∧ W.acts.length ≤ 4 ∧ 1 ≤ W.a ∧ W.a < W.b ∧ W.b ≤ 4) ∧
    ∀ s, s < W.acts.length → 1 ≤ (acl W.acts s).length ∧ (acl W.acts s).length ≤ 3 ∧ ∀ i, i < (acl W.acts s).length → vAc W.acts.length (ac (acl W.acts s) i) = true := by
  unfold isPlanB at h
  rw [Bool.and_eq_true] at h
  have h2 := planOk_at h.2
  have h3 := vWd_parts h.1
  exact ⟨h.1, h2.1, h2.2, h3.1, h3.2⟩
theorem tlW_eq {W : Wd} {p : List Int} {x : Ac} (hx : vAc W.acts.length x = true) : tlW W p x = tel W.a W.b x (wN W.a W.b (planActs W.acts p)) (wD W.a W.b (planActs W.acts p)) := by
  obtain ⟨_, _, h3, _⟩ := vAc_at hx
  exact tel_congr fun k hk => wNs_at (by rw [planActs_len]; omega)
theorem tl_own {W : Wd} {p : List Int} (h : isPlanB W p = true) {s : Nat} (hs : s < W.acts.length) : tlW W p (pact W.acts p s) = W.b * isum (pact W.acts p s).o * wN W.a W.b (planActs W.acts p) s := by
  have hX := okX_plan h
  have hl := planActs_len W.acts p
  have hv := hX.2.2.2.2.2 s (by rw [hl]; exact hs)
  rw [planActs_at hs, hl] at hv
  rw [tlW_eq hv]
  have := worth_eq hX (s := s) (by rw [hl]; exact hs)
  rw [planActs_at hs] at this
  exact this.symm
theorem okX_b {W : Wd} {p : List Int} (h : isPlanB W p = true) : 0 < W.b := by have := (plan_parts h).2.2.2.1; omega
theorem S_pos {W : Wd} {p : List Int} (h : isPlanB W p = true) {s i : Nat} (hs : s < W.acts.length) (hi : i < (acl W.acts s).length) : 0 < isum (ac (acl W.acts s) i).o := by
  have := vAc_at (((plan_parts h).2.2.2.2 s hs).2.2 i hi)
  omega
theorem mo_eq (W : Wd) (p : List Int) (s : Nat) : ∀ i j, moW W p s i j = decide ((fun i => tlW W p (ac (acl W.acts s) i)) j * (fun i => isum (ac (acl W.acts s) i).o) i < (fun i => tlW W p (ac (acl W.acts s) i)) i * (fun i => isum (ac (acl W.acts s) i).o) j) := fun _ _ => rfl
theorem next_inv {W : Wd} {p : List Int} (h : isPlanB W p = true) {s : Nat} (hs : s < W.acts.length) :
    (bIx (moW W p s) (nth p s).toNat (acl W.acts s).length = (nth p s).toNat ∧ fIx (moW W p s) (nth p s).toNat (acl W.acts s).length = false ∧ ∀ i, i < (acl W.acts s).length → tlW W p (ac (acl W.acts s) i) * isum (ac (acl W.acts s) (nth p s).toNat).o ≤ tlW W p (ac (acl W.acts s) (nth p s).toNat) * isum (ac (acl W.acts s) i).o) ∨
    (bIx (moW W p s) (nth p s).toNat (acl W.acts s).length < (acl W.acts s).length ∧ fIx (moW W p s) (nth p s).toNat (acl W.acts s).length = true ∧
      tlW W p (ac (acl W.acts s) (nth p s).toNat) * isum (ac (acl W.acts s) (bIx (moW W p s) (nth p s).toNat (acl W.acts s).length)).o < tlW W p (ac (acl W.acts s) (bIx (moW W p s) (nth p s).toNat (acl W.acts s).length)) * isum (ac (acl W.acts s) (nth p s).toNat).o ∧
      (∀ i, i < (acl W.acts s).length → tlW W p (ac (acl W.acts s) i) * isum (ac (acl W.acts s) (bIx (moW W p s) (nth p s).toNat (acl W.acts s).length)).o ≤ tlW W p (ac (acl W.acts s) (bIx (moW W p s) (nth p s).toNat (acl W.acts s).length)) * isum (ac (acl W.acts s) i).o) ∧
      ∀ i, i < bIx (moW W p s) (nth p s).toNat (acl W.acts s).length → tlW W p (ac (acl W.acts s) i) * isum (ac (acl W.acts s) (bIx (moW W p s) (nth p s).toNat (acl W.acts s).length)).o < tlW W p (ac (acl W.acts s) (bIx (moW W p s) (nth p s).toNat (acl W.acts s).length)) * isum (ac (acl W.acts s) i).o) :=
  bIx_inv (T := fun i => tlW W p (ac (acl W.acts s) i)) (S := fun i => isum (ac (acl W.acts s) i).o) (mo := moW W p s) (n := (acl W.acts s).length) (fun _ hi => S_pos h hs hi) (mo_eq W p s) (own := (nth p s).toNat)
    (by have := (plan_parts h).2.2.1 s hs; omega) (acl W.acts s).length (Nat.le_refl _)
theorem nextP_at {W : Wd} {p : List Int} {s : Nat} (hs : s < W.acts.length) : nth (nextP W p) s = (bIx (moW W p s) (nth p s).toNat (acl W.acts s).length : Int) := by simp [nth, nextP, hs]
theorem nextP_len {W : Wd} {p : List Int} : (nextP W p).length = W.acts.length := by simp [nextP]
theorem next_lt {W : Wd} {p : List Int} (h : isPlanB W p = true) {s : Nat} (hs : s < W.acts.length) : bIx (moW W p s) (nth p s).toNat (acl W.acts s).length < (acl W.acts s).length := by
  have ho := (plan_parts h).2.2.1 s hs
  rcases next_inv h hs with ⟨h1, _⟩ | ⟨h1, _⟩ <;> omega
theorem next_plan {W : Wd} {p : List Int} (h : isPlanB W p = true) : isPlanB W (nextP W p) = true := by
  unfold isPlanB
  rw [(plan_parts h).1, Bool.true_and]
  refine planOk_yes nextP_len fun s hs => ?_
  rw [nextP_at hs]
  have := next_lt h hs
  omega
theorem next_pact {W : Wd} {p : List Int} {s : Nat} (hs : s < W.acts.length) : pact W.acts (nextP W p) s = ac (acl W.acts s) (bIx (moW W p s) (nth p s).toNat (acl W.acts s).length) := by
  unfold pact; rw [nextP_at hs]; rfl
/-- The next plan is told at least as much in each state. -/
theorem next_tel {W : Wd} {p : List Int} (h : isPlanB W p = true) {s : Nat} (hs : s < W.acts.length) :
    W.b * isum (pact W.acts (nextP W p) s).o * wN W.a W.b (planActs W.acts p) s ≤ tlW W p (pact W.acts (nextP W p) s) ∧
    (fIx (moW W p s) (nth p s).toNat (acl W.acts s).length = true → W.b * isum (pact W.acts (nextP W p) s).o * wN W.a W.b (planActs W.acts p) s < tlW W p (pact W.acts (nextP W p) s)) := by
  have ho := (plan_parts h).2.2.1 s hs
  have h0 := tl_own h hs
  have hSo := S_pos h hs (i := (nth p s).toNat) (by omega)
  rw [show pact W.acts p s = ac (acl W.acts s) (nth p s).toNat from rfl] at h0
  rw [next_pact hs]
  have hb := okX_b h
  rcases next_inv h hs with ⟨h1, h2, h3⟩ | ⟨h1, h2, h3, _⟩
  · rw [h1, h2, h0]
    exact ⟨Int.le_refl _, fun e => by cases e⟩
  · have hSb := S_pos h hs h1
    generalize bIx (moW W p s) (nth p s).toNat (acl W.acts s).length = b at *
    simp only [h0] at h3
    have h4 : (W.b * isum (ac (acl W.acts s) b).o * wN W.a W.b (planActs W.acts p) s) * isum (ac (acl W.acts s) (nth p s).toNat).o < tlW W p (ac (acl W.acts s) b) * isum (ac (acl W.acts s) (nth p s).toNat).o := by grind
    have h5 := Int.lt_of_mul_lt_mul_right h4 (Int.le_of_lt hSo)
    exact ⟨Int.le_of_lt h5, fun _ => h5⟩
/-- Plans compared: the second one's worth is in no state less. -/
def wLe (W : Wd) (p q : List Int) : Prop := ∀ s, s < W.acts.length → wN W.a W.b (planActs W.acts p) s * wD W.a W.b (planActs W.acts q) ≤ wN W.a W.b (planActs W.acts q) s * wD W.a W.b (planActs W.acts p)
def wLt (W : Wd) (p q : List Int) : Prop := wLe W p q ∧ ∃ s, s < W.acts.length ∧ wN W.a W.b (planActs W.acts p) s * wD W.a W.b (planActs W.acts q) < wN W.a W.b (planActs W.acts q) s * wD W.a W.b (planActs W.acts p)
theorem next_ge {W : Wd} {p : List Int} (h : isPlanB W p = true) : wLe W p (nextP W p) := by
  intro s hs
  have h2 := next_plan h
  have hX := okX_plan h
  have hX2 := okX_plan h2
  have hl := planActs_len W.acts (nextP W p)
  refine worth_ge hX2 (v := wN W.a W.b (planActs W.acts p)) (wD_pos hX).1 (fun t ht => ?_) s (by rw [hl]; exact hs)
  rw [hl] at ht
  rw [planActs_at ht]
  have := (next_tel h ht).1
  have hv := hX2.2.2.2.2.2 t (by rw [hl]; exact ht)
  rw [planActs_at ht, hl] at hv
  rwa [tlW_eq hv] at this
theorem next_gt {W : Wd} {p : List Int} (h : isPlanB W p = true) (hf : foundP W p = true) : wLt W p (nextP W p) := by
  refine ⟨next_ge h, ?_⟩
  unfold foundP at hf
  rw [List.any_eq_true] at hf
  obtain ⟨s, hs, hf⟩ := hf
  have hs := List.mem_range.1 hs
  have h2 := next_plan h
  have hX := okX_plan h
  have hX2 := okX_plan h2
  have hl := planActs_len W.acts (nextP W p)
  have key : ∀ t, t < W.acts.length → tlW W p (pact W.acts (nextP W p) t) = tel W.a W.b (pact W.acts (nextP W p) t) (wN W.a W.b (planActs W.acts p)) (wD W.a W.b (planActs W.acts p)) := fun t ht => by
    have hv := hX2.2.2.2.2.2 t (by rw [hl]; exact ht)
    rw [planActs_at ht, hl] at hv
    exact tlW_eq hv
  refine ⟨s, hs, worth_gt hX2 (v := wN W.a W.b (planActs W.acts p)) (wD_pos hX).1 (fun t ht => ?_) (by rw [hl]; exact hs) ?_⟩
  · rw [hl] at ht
    rw [planActs_at ht, ← key t ht]
    exact (next_tel h ht).1
  · rw [planActs_at hs, ← key s hs]
    exact (next_tel h hs).2 hf
/-- No act is told more than the plan's worth. -/
def Opt (W : Wd) (p : List Int) : Prop := ∀ s, s < W.acts.length → ∀ i, i < (acl W.acts s).length → tlW W p (ac (acl W.acts s) i) ≤ W.b * isum (ac (acl W.acts s) i).o * wN W.a W.b (planActs W.acts p) s
theorem next_no {W : Wd} {p : List Int} (h : isPlanB W p = true) (hf : foundP W p = false) : nextP W p = p ∧ Opt W p := by
  unfold foundP at hf
  rw [List.any_eq_false] at hf
  have hk : ∀ s, s < W.acts.length → bIx (moW W p s) (nth p s).toNat (acl W.acts s).length = (nth p s).toNat ∧ ∀ i, i < (acl W.acts s).length → tlW W p (ac (acl W.acts s) i) * isum (ac (acl W.acts s) (nth p s).toNat).o ≤ tlW W p (ac (acl W.acts s) (nth p s).toNat) * isum (ac (acl W.acts s) i).o := by
    intro s hs
    have q := hf s (List.mem_range.2 hs)
    rcases next_inv h hs with ⟨h1, _, h3⟩ | ⟨_, h2, _⟩
    · exact ⟨h1, h3⟩
    · exact absurd h2 q
  constructor
  · refine List.ext_getElem (by rw [nextP_len, (plan_parts h).2.1]) fun s h1 h2 => ?_
    rw [nextP_len] at h1
    have e := nextP_at (W := W) (p := p) h1
    rw [(hk s h1).1, nth_of_lt (by rw [nextP_len]; exact h1)] at e
    rw [e]
    have ho := (plan_parts h).2.2.1 s h1
    rw [← nth_of_lt h2]
    omega
  · intro s hs i hi
    have ho := (plan_parts h).2.2.1 s hs
    have h0 := tl_own h hs
    rw [show pact W.acts p s = ac (acl W.acts s) (nth p s).toNat from rfl] at h0
    have h3 := (hk s hs).2 i hi
    rw [h0] at h3
    refine Int.le_of_mul_le_mul_right (a := isum (ac (acl W.acts s) (nth p s).toNat).o) ?_ (S_pos h hs (by omega))
    grind
theorem opt_ge {W : Wd} {p q : List Int} (h : isPlanB W p = true) (hq : isPlanB W q = true) (ho : Opt W p) : wLe W q p := by
  intro s hs
  have hX := okX_plan h
  have hX2 := okX_plan hq
  have hl := planActs_len W.acts q
  refine worth_le hX2 (v := wN W.a W.b (planActs W.acts p)) (wD_pos hX).1 (fun t ht => ?_) s (by rw [hl]; exact hs)
  rw [hl] at ht
  have hv := hX2.2.2.2.2.2 t (by rw [hl]; exact ht)
  rw [planActs_at ht] at hv ⊢
  rw [hl] at hv
  have hpt := (plan_parts hq).2.2.1 t ht
  have := ho t ht (nth q t).toNat (by omega)
  rw [show ac (acl W.acts t) (nth q t).toNat = pact W.acts q t from rfl, tlW_eq hv] at this
  exact this
theorem opt_found {W : Wd} {p : List Int} (h : isPlanB W p = true) (ho : Opt W p) : foundP W p = false := by
  rw [Bool.eq_false_iff]
  intro hf
  have h1 := next_gt h hf
  have h2 := opt_ge h (next_plan h) ho
  obtain ⟨_, s, hs, h3⟩ := h1
  have := h2 s hs
  omega
/-! ### all plans, and how many are better -/
def allP : List (List Ac) → List (List Int)
  | [] => [[]]
  | l :: A => (List.range l.length).flatMap fun (a : Nat) => (allP A).map fun (p : List Int) => Int.ofNat a :: p
theorem allP_mem : ∀ {A : List (List Ac)} {p : List Int}, p ∈ allP A ↔ planOk A p = true := by
  intro A; induction A with
  | nil =>
    intro p
    cases p with
    | nil => simp [allP, planOk]
    | cons z p => simp [allP, planOk]
  | cons l A ih =>
    intro p
    constructor
    · intro h
      simp only [allP, List.mem_flatMap, List.mem_map, List.mem_range] at h
      obtain ⟨a, ha, q, hq, rfl⟩ := h
      have hq := planOk_at (ih.1 hq)
      refine planOk_yes (by simp [hq.1]) fun s hs => ?_
      cases s with
      | zero => exact ⟨by show (0 : Int) ≤ Int.ofNat a; simp, by show Int.ofNat a < (l.length : Int); simpa using ha⟩
      | succ s => exact hq.2 s (by simpa using hs)
    · intro h
      obtain ⟨h1, h2⟩ := planOk_at h
      cases p with
      | nil => simp at h1
      | cons z p =>
        have h0 := h2 0 (by simp)
        have e0 : nth (z :: p) 0 = z := rfl
        have e1 : acl (l :: A) 0 = l := rfl
        rw [e0, e1] at h0
        simp only [allP, List.mem_flatMap, List.mem_map, List.mem_range]
        refine ⟨z.toNat, by omega, p, ih.2 (planOk_yes (by simpa using h1) fun s hs => h2 (s + 1) (by simpa using hs)), ?_⟩
        rw [show Int.ofNat z.toNat = z from Int.toNat_of_nonneg h0.1]
theorem count_lt {α : Type} {f g : α → Bool} : ∀ {l : List α}, (∀ x ∈ l, g x = true → f x = true) → (∃ x ∈ l, f x = true ∧ g x = false) → l.countP g < l.countP f := by
  intro l; induction l with
  | nil => intro _ h; obtain ⟨x, hx, _⟩ := h; cases hx
  | cons y l ih =>
    intro h1 h2
    have hle : l.countP g ≤ l.countP f := List.countP_mono_left fun x hx => h1 x (by simp [hx])
    rw [List.countP_cons, List.countP_cons]
    obtain ⟨x, hx, hf, hg⟩ := h2
    rcases List.mem_cons.1 hx with rfl | hx
    · rw [hf, hg]; simp; omega
    · have := ih (fun x hx => h1 x (by simp [hx])) ⟨x, hx, hf, hg⟩
      have h3 := h1 y (by simp)
      cases hgy : g y <;> cases hfy : f y <;> simp_all <;> omega
open Classical in
noncomputable def mu (W : Wd) (p : List Int) : Nat := (allP W.acts).countP fun q => decide (wLt W p q)
theorem wLe_tr {W : Wd} {p q r : List Int} (hp : isPlanB W p = true) (hq : isPlanB W q = true) (hr : isPlanB W r = true) (h1 : wLe W p q) (h2 : wLe W q r) : wLe W p r := by
  intro s hs
  have d1 := (wD_pos (okX_plan hp)).1
  have d2 := (wD_pos (okX_plan hq)).1
  have d3 := (wD_pos (okX_plan hr)).1
  have q1 := Int.mul_le_mul_of_nonneg_right (h1 s hs) (Int.le_of_lt d3)
  have q2 := Int.mul_le_mul_of_nonneg_right (h2 s hs) (Int.le_of_lt d1)
  refine Int.le_of_mul_le_mul_right ?_ d2
  grind
theorem wLt_tr {W : Wd} {p q r : List Int} (hp : isPlanB W p = true) (hq : isPlanB W q = true) (hr : isPlanB W r = true) (h1 : wLt W p q) (h2 : wLe W q r) : wLt W p r := by
  refine ⟨wLe_tr hp hq hr h1.1 h2, ?_⟩
  obtain ⟨_, s, hs, h3⟩ := h1
  refine ⟨s, hs, ?_⟩
  have d1 := (wD_pos (okX_plan hp)).1
  have d2 := (wD_pos (okX_plan hq)).1
  have d3 := (wD_pos (okX_plan hr)).1
  have q1 := Int.mul_lt_mul_of_pos_right h3 d3
  have q2 := Int.mul_le_mul_of_nonneg_right (h2 s hs) (Int.le_of_lt d1)
  refine Int.lt_of_mul_lt_mul_right (a := wD W.a W.b (planActs W.acts q)) ?_ (Int.le_of_lt d2)
  grind
theorem mu_lt {W : Wd} {p q : List Int} (hp : isPlanB W p = true) (hq : isPlanB W q = true) (h : wLt W p q) : mu W q < mu W p := by
  classical
  refine count_lt (fun r hr hl => ?_) ⟨q, ?_, ?_, ?_⟩
  · have hl := of_decide_eq_true hl
    have hrp : isPlanB W r = true := by unfold isPlanB; rw [(plan_parts hp).1, Bool.true_and]; exact allP_mem.1 hr
    exact decide_eq_true (wLt_tr hp hq hrp h hl.1)
  · refine allP_mem.2 ?_
    unfold isPlanB at hq
    rw [Bool.and_eq_true] at hq
    exact hq.2
  · exact decide_eq_true h
  · refine decide_eq_false fun hl => ?_
    obtain ⟨_, s, _, h3⟩ := hl
    omega
end Go.Proofs.Ytcmakddnjmeklaa
