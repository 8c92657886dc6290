/- Chapter 9, plain: the states that are reached, and those that come again. -/
import Derived.Test.YtcmakddnjmeklaaVb
namespace Go.Proofs.Ytcmakddnjmeklaa
open Go.RowKit

/-- Each element of x is one of y. -/
def SubB (x y : Nat) : Prop := ∀ i, x.testBit i = true → y.testBit i = true
theorem SubB.refl (x : Nat) : SubB x x := fun _ h => h
theorem SubB.trans {x y z : Nat} (h : SubB x y) (k : SubB y z) : SubB x z := fun i hi => k i (h i hi)
theorem sub_or (x y : Nat) : SubB x (x ||| y) := fun i h => by rw [Nat.testBit_or, h]; rfl
theorem SubB.le {x y : Nat} (h : SubB x y) : x ≤ y := by
  have e : x ||| y = y := Nat.eq_of_testBit_eq fun i => by
    rw [Nat.testBit_or]
    cases hx : x.testBit i with
    | false => simp
    | true => rw [h i hx]; rfl
  rw [← e]; exact Nat.left_le_or
theorem bit_lt {x n i : Nat} (hx : x < 2 ^ n) (h : x.testBit i = true) : i < n := by
  refine Nat.not_le.1 fun hle => ?_
  rw [Nat.testBit_lt_two_pow (Nat.lt_of_lt_of_le hx (Nat.pow_le_pow_right (by omega) hle))] at h
  cases h
theorem rk_sub {o : List Int} {s : Nat} {x : Nat} : ∀ k, SubB x (rk o s k x)
  | 0 => SubB.refl x
  | k + 1 => by
    have ih := rk_sub (o := o) (s := s) (x := x) k
    show SubB x (if _ then _ else _)
    split
    · exact ih.trans (sub_or _ _)
    · exact ih
theorem rs_sub {A : Nat → List Int} {n : Nat} {x : Nat} : ∀ s, SubB x (rs A n s x)
  | 0 => SubB.refl x
  | s + 1 => (rs_sub s).trans (rk_sub n)
theorem rr_sub {A : Nat → List Int} {n : Nat} {x : Nat} : ∀ r, SubB x (rr A n r x)
  | 0 => SubB.refl x
  | r + 1 => (rr_sub r).trans (rs_sub n)
/-- T holds what is reached from what it holds. -/
def ClosedB (A : Nat → List Int) (n : Nat) (T : Nat → Prop) : Prop := ∀ u v, u < n → v < n → T u → 0 < nth (A u) v → T v
theorem rk_in {A : Nat → List Int} {n s : Nat} {T : Nat → Prop} (hc : ClosedB A n T) (hs : s < n) {x : Nat} (hx : ∀ i, x.testBit i = true → T i) : ∀ k, k ≤ n → ∀ i, (rk (A s) s k x).testBit i = true → T i
  | 0, _ => hx
  | k + 1, hk => by
    have ih := rk_in hc hs hx k (by omega)
    intro i hi
    have e : rk (A s) s (k + 1) x = if (rk (A s) s k x).testBit s && decide (0 < nth (A s) k) then rk (A s) s k x ||| 2 ^ k else rk (A s) s k x := rfl
    rw [e] at hi
    split at hi
    · rename_i hq
      rw [Bool.and_eq_true] at hq
      rw [Nat.testBit_or, Bool.or_eq_true] at hi
      rcases hi with hi | hi
      · exact ih i hi
      · rw [Nat.testBit_two_pow] at hi
        have : k = i := by simpa using hi
        subst this
        exact hc s k hs (by omega) (ih s hq.1) (by simpa using hq.2)
    · exact ih i hi
theorem rs_in {A : Nat → List Int} {n : Nat} {T : Nat → Prop} (hc : ClosedB A n T) {x : Nat} (hx : ∀ i, x.testBit i = true → T i) : ∀ s, s ≤ n → ∀ i, (rs A n s x).testBit i = true → T i
  | 0, _ => hx
  | s + 1, hs => rk_in hc (by omega) (rs_in hc hx s (by omega)) n (Nat.le_refl _)
theorem rr_in {A : Nat → List Int} {n : Nat} {T : Nat → Prop} (hc : ClosedB A n T) {x : Nat} (hx : ∀ i, x.testBit i = true → T i) : ∀ r i, (rr A n r x).testBit i = true → T i
  | 0 => hx
  | r + 1 => rs_in hc (rr_in hc hx r) n (Nat.le_refl _)
theorem rk_has {o : List Int} {s v : Nat} {x : Nat} (hx : x.testBit s = true) (hv : 0 < nth o v) : ∀ k, v < k → (rk o s k x).testBit v = true
  | 0, h => by omega
  | k + 1, h => by
    show (if _ then _ else _ : Nat).testBit v = true
    have hs := rk_sub (o := o) (s := s) (x := x) k s hx
    by_cases e : v = k
    · subst e
      rw [hs, decide_eq_true hv]
      simp [Nat.testBit_or]
    · have ih := rk_has hx hv k (by omega)
      split
      · exact sub_or _ _ v ih
      · exact ih
theorem rs_has {A : Nat → List Int} {n u v : Nat} {x : Nat} (hx : x.testBit u = true) (hv : 0 < nth (A u) v) (hvn : v < n) : ∀ s, u < s → (rs A n s x).testBit v = true
  | 0, h => by omega
  | s + 1, h => by
    by_cases e : u = s
    · subst e
      exact rk_has (rs_sub u u hx) hv n hvn
    · exact rk_sub n v (rs_has hx hv hvn s (by omega))
/-- How many elements below n. -/
def cntB (x : Nat) : Nat → Nat
  | 0 => 0
  | n + 1 => cntB x n + (if x.testBit n then 1 else 0)
theorem cntB_le (x : Nat) : ∀ n, cntB x n ≤ n
  | 0 => Nat.le_refl _
  | n + 1 => by have := cntB_le x n; show cntB x n + _ ≤ _; split <;> omega
theorem bit_le {x y n : Nat} (h : SubB x y) : (if x.testBit n = true then 1 else 0 : Nat) ≤ (if y.testBit n = true then 1 else 0) := by
  by_cases hx : x.testBit n = true
  · rw [if_pos hx, if_pos (h n hx)]; exact Nat.le_refl _
  · rw [if_neg hx]; exact Nat.zero_le _
theorem cntB_sub {x y : Nat} (h : SubB x y) : ∀ n, cntB x n ≤ cntB y n
  | 0 => Nat.le_refl _
  | n + 1 => Nat.add_le_add (cntB_sub h n) (bit_le h)
theorem cntB_lt {x y : Nat} (h : SubB x y) {i : Nat} (hx : x.testBit i = false) (hy : y.testBit i = true) : ∀ n, i < n → cntB x n < cntB y n
  | 0, hn => by omega
  | n + 1, hn => by
    have ih := cntB_sub h n
    have hb := bit_le (n := n) h
    show cntB x n + (if x.testBit n = true then 1 else 0) < cntB y n + (if y.testBit n = true then 1 else 0)
    by_cases e : i = n
    · subst e
      rw [if_neg (by rw [hx]; simp), if_pos hy]; omega
    · have ih2 := cntB_lt h hx hy n (by omega)
      omega
theorem cntB_pos {x i : Nat} (hi : x.testBit i = true) : ∀ n, i < n → 1 ≤ cntB x n
  | 0, h => by omega
  | n + 1, h => by
    show 1 ≤ cntB x n + _
    by_cases e : i = n
    · subst e; rw [hi]; simp
    · have := cntB_pos hi n (by omega); omega
theorem sub_ne {x y n : Nat} (h : SubB x y) (hy : y < 2 ^ n) (hne : x ≠ y) : ∃ i, i < n ∧ x.testBit i = false ∧ y.testBit i = true := by
  refine Classical.byContradiction fun hn => hne (Nat.eq_of_testBit_eq fun i => ?_)
  cases hx : x.testBit i with
  | true => exact (h i hx).symm
  | false =>
    cases hq : y.testBit i with
    | false => rfl
    | true => exact (hn ⟨i, bit_lt hy hq, hx, hq⟩).elim
theorem rr_grow {A : Nat → List Int} {n f : Nat} (hf : f < n) : ∀ r, rs A n n (rr A n r (2 ^ f)) = rr A n r (2 ^ f) ∨ r + 1 ≤ cntB (rr A n r (2 ^ f)) n
  | 0 => .inr (cntB_pos (x := 2 ^ f) (i := f) (by simp) n hf)
  | r + 1 => by
    rcases rr_grow (A := A) hf r with h | h
    · left
      show rs A n n (rs A n n _) = rs A n n _
      rw [h, h]
    · by_cases e : rs A n n (rr A n r (2 ^ f)) = rr A n r (2 ^ f)
      · left
        show rs A n n (rs A n n _) = rs A n n _
        rw [e, e]
      · right
        have hlt := rs_lt (A := A) (rr_lt (A := A) (n := n) (x := 2 ^ f) (Nat.pow_lt_pow_right (by omega) hf) r) n
        obtain ⟨i, h1, h2, h3⟩ := sub_ne (rs_sub (A := A) (n := n) n) hlt (fun e2 => e e2.symm)
        have := cntB_lt (rs_sub (A := A) (n := n) n) h2 h3 n h1
        show r + 1 + 1 ≤ cntB (rs A n n (rr A n r (2 ^ f))) n
        omega
theorem rch_fix {A : Nat → List Int} {n f : Nat} (hf : f < n) : rs A n n (rchN A n f) = rchN A n f := by
  rcases rr_grow (A := A) hf n with h | h
  · exact h
  · have := cntB_le (rr A n n (2 ^ f)) n
    omega
theorem rch_closed {A : Nat → List Int} {n f : Nat} (hf : f < n) : ClosedB A n fun i => (rchN A n f).testBit i = true := by
  intro u v hu hv hT hp
  have := rs_has (A := A) (n := n) hT hp hv n hu
  rwa [rch_fix hf] at this
theorem rch_self {A : Nat → List Int} {n f : Nat} : (rchN A n f).testBit f = true := rr_sub n f (by simp)
theorem rch_in {A : Nat → List Int} {n f : Nat} {T : Nat → Prop} (hc : ClosedB A n T) (hf : T f) {i : Nat} (h : (rchN A n f).testBit i = true) : T i :=
  rr_in hc (fun j hj => by rw [Nat.testBit_two_pow] at hj; have : f = j := by simpa using hj
                           subst this; exact hf) n i h
/-- What is reached from what is reached is reached. -/
theorem rch_sub {A : Nat → List Int} {n f k : Nat} (hf : f < n) (h : (rchN A n f).testBit k = true) : SubB (rchN A n k) (rchN A n f) := fun _ hi => rch_in (rch_closed hf) h hi
/-! ### again -/
theorem backB_at {W : Wd} {p : List Int} {s : Nat} : ∀ n, backB W p s n = true ↔ ∀ k, k < n → (rch W p s).testBit k = true → (rch W p k).testBit s = true
  | 0 => ⟨fun _ k hk => by omega, fun _ => rfl⟩
  | n + 1 => by
    have ih := backB_at (W := W) (p := p) (s := s) n
    show (backB W p s n && _) = true ↔ _
    rw [Bool.and_eq_true, ih]
    constructor
    · rintro ⟨h1, h2⟩ k hk hr
      by_cases e : k = n
      · subst e
        rw [hr] at h2
        simpa using h2
      · exact h1 k (by omega) hr
    · intro h
      refine ⟨fun k hk => h k (by omega), ?_⟩
      cases hq : (rch W p s).testBit n with
      | false => rfl
      | true => simpa using h n (by omega) hq
theorem agS_bit {W : Wd} {p : List Int} {f : Nat} : ∀ s i, (agS W p f s).testBit i = true ↔ i < s ∧ (rch W p f).testBit i = true ∧ backB W p i W.acts.length = true
  | 0, i => by simp [agS]
  | s + 1, i => by
    have ih := agS_bit (W := W) (p := p) (f := f) s i
    have e : agS W p f (s + 1) = if (rch W p f).testBit s && backB W p s W.acts.length then agS W p f s ||| 2 ^ s else agS W p f s := rfl
    rw [e]
    split
    · rename_i hq
      rw [Bool.and_eq_true] at hq
      rw [Nat.testBit_or, Bool.or_eq_true, ih, Nat.testBit_two_pow]
      constructor
      · rintro (⟨h1, h2⟩ | h)
        · exact ⟨by omega, h2⟩
        · have : s = i := by simpa using h
          subst this; exact ⟨by omega, hq⟩
      · rintro ⟨h1, h2⟩
        by_cases e : i = s
        · right; simp [e]
        · left; exact ⟨by omega, h2⟩
    · rename_i hq
      rw [ih]
      constructor
      · rintro ⟨h1, h2⟩; exact ⟨by omega, h2⟩
      · rintro ⟨h1, h2⟩
        refine ⟨?_, h2⟩
        by_cases e : i = s
        · subst e; rw [h2.1, h2.2] at hq; exact (hq rfl).elim
        · omega
theorem ag_bit {W : Wd} {p : List Int} {f i : Nat} : (agSet W p f).testBit i = true ↔ i < W.acts.length ∧ (rch W p f).testBit i = true ∧ ∀ k, k < W.acts.length → (rch W p i).testBit k = true → (rch W p k).testBit i = true := by
  unfold agSet
  rw [agS_bit, backB_at]
theorem ag_nonempty {W : Wd} {p : List Int} {f : Nat} (hf : f < W.acts.length) : ∃ i, (agSet W p f).testBit i = true := by
  have key : ∀ m s, rch W p s = m → s < W.acts.length → (rch W p f).testBit s = true → ∃ i, (agSet W p f).testBit i = true := by
    intro m
    induction m using Nat.strongRecOn with
    | ind m ih =>
      intro s hm hs hfs
      by_cases hb : ∀ k, k < W.acts.length → (rch W p s).testBit k = true → (rch W p k).testBit s = true
      · exact ⟨s, ag_bit.2 ⟨hs, hfs, hb⟩⟩
      · have ⟨k, hk⟩ := Classical.not_forall.1 hb
        have ⟨hkn, hk2⟩ := Classical.not_imp.1 hk
        have ⟨hr, hns⟩ := Classical.not_imp.1 hk2
        have hsub : SubB (rch W p k) (rch W p s) := rch_sub hs hr
        have hne : rch W p k ≠ rch W p s := fun e => hns (by rw [e]; exact rch_self)
        have hlt : rch W p k < m := by have := hsub.le; omega
        exact ih _ hlt k rfl hkn (rch_sub (A := podds W p) hf hfs k hr)
  exact key _ f rfl hf rch_self
theorem agOk_at {W : Wd} {p : List Int} {f : Nat} (h : agOk W p f = true) {s : Nat} (hs : s < W.acts.length) (hb : (agSet W p f).testBit s = true) : rch W p s = agSet W p f := by
  unfold agOk at h
  rw [List.all_eq_true] at h
  have := h s (List.mem_range.2 hs)
  rw [hb] at this
  simpa using this
/-- The states that come again are closed, and each of them reaches all. -/
theorem ag_closed {W : Wd} {p : List Int} {f : Nat} (h : agOk W p f = true) : ClosedB (podds W p) W.acts.length fun i => (agSet W p f).testBit i = true := by
  intro u v hu hv hT hp
  have e := agOk_at h hu hT
  have := rch_closed (A := podds W p) hu u v hu hv rch_self hp
  have e2 : rchN (podds W p) W.acts.length u = rch W p u := rfl
  rw [e2, e] at this
  exact this
theorem ag_all {W : Wd} {p : List Int} {f : Nat} (h : agOk W p f = true) {T : Nat → Prop} (hc : ClosedB (podds W p) W.acts.length T) {s : Nat} (hs : s < W.acts.length) (hb : (agSet W p f).testBit s = true) (hT : T s) {i : Nat} (hi : (agSet W p f).testBit i = true) : T i := by
  have e := agOk_at h hs hb
  rw [← e] at hi
  exact rch_in (A := podds W p) hc hT hi
theorem ag_in {W : Wd} {p : List Int} {f i : Nat} (h : (agSet W p f).testBit i = true) : i < W.acts.length ∧ (rch W p f).testBit i = true := ⟨(ag_bit.1 h).1, (ag_bit.1 h).2.1⟩
/-- The reference's condition. -/
theorem agOk_iff {W : Wd} {p : List Int} {f : Nat} (hf : f < W.acts.length) : agOk W p f = true ↔ ∀ s i, (agSet W p f).testBit s = true → (agSet W p f).testBit i = true → (rch W p s).testBit i = true := by
  constructor
  · intro h s i hs hi
    rw [agOk_at h (ag_in hs).1 hs]; exact hi
  · intro h
    refine agOk_yes fun s hs hb => Nat.eq_of_testBit_eq fun i => ?_
    have hbb := ag_bit.1 hb
    cases hq : (agSet W p f).testBit i with
    | true => exact h s i hb hq
    | false =>
      cases hr : (rch W p s).testBit i with
      | false => rfl
      | true =>
        have hin : i < W.acts.length := bit_lt (rchN_lt (A := podds W p) hs) hr
        have hsi : (rch W p i).testBit s = true := hbb.2.2 i hin hr
        have : (agSet W p f).testBit i = true := ag_bit.2 ⟨hin, rch_sub (A := podds W p) hf hbb.2.1 i hr, fun k hk hik => by
          have hsk : (rch W p s).testBit k = true := rch_sub (A := podds W p) hs hr k hik
          have hks := hbb.2.2 k hk hsk
          exact rch_sub (A := podds W p) hk hks i hr⟩
        rw [hq] at this
        cases this
end Go.Proofs.Ytcmakddnjmeklaa
