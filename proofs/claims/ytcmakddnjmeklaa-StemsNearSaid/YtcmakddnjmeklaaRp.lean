/- Chapter 9, plain: what an act is told, as a fraction; the first best plan is the first of all plans. -/
import Derived.Test.YtcmakddnjmeklaaRa
namespace Go.Proofs.Ytcmakddnjmeklaa
open Go.RowKit

theorem sumQ_num {o : List Int} {v : Nat → Rat} {N : Nat → Int} {D : Int} (hD : 0 < D) : ∀ k, (∀ i, i < k → v i = (N i : Rat) / (D : Rat)) → sumQ o v k * (D : Rat) = ((sumN (fun i => nth o i * N i) k : Int) : Rat) := by
  intro k; induction k with
  | zero => intro _; simp [sumQ, sumN]
  | succ k ih =>
    intro hv
    have h1 := ih fun i hi => hv i (by omega)
    have h2 := hv k (by omega)
    have h0 := ratD_ne hD
    show (sumQ o v k + ((nth o k : Int) : Rat) * v k) * (D : Rat) = ((sumN (fun i => nth o i * N i) k + nth o k * N k : Int) : Rat)
    rw [Rat.intCast_add, ← h1, Rat.intCast_mul, h2]
    generalize sumQ o v k = s
    generalize ((nth o k : Int) : Rat) = t
    generalize (N k : Rat) = u
    generalize (D : Rat) = e at *
    grind
theorem actQ_tel {a b : Int} {x : Ac} {v : Nat → Rat} {N : Nat → Int} {D : Int} (hD : 0 < D) (hc : 0 < b * isum x.o) (hv : ∀ i, i < x.o.length → v i = (N i : Rat) / (D : Rat)) :
    actQ a b x v = ((tel a b x N D : Int) : Rat) / ((b * isum x.o * D : Int) : Rat) := by
  have h1 := sumQ_num (o := x.o) hD x.o.length hv
  have h0 := ratD_ne hD
  have h2 := ratD_ne hc
  unfold actQ tel
  rw [Rat.intCast_add, Rat.intCast_mul (b * isum x.o * D), Rat.intCast_mul (b * isum x.o) D, Rat.intCast_mul a, ← h1]
  generalize sumQ x.o v x.o.length = s
  generalize (a : Rat) = t
  generalize (x.g : Rat) = g
  generalize ((b * isum x.o : Int) : Rat) = c at *
  generalize (D : Rat) = e at *
  grind
theorem frq_lt {N1 D1 N2 D2 : Int} (d1 : 0 < D1) (d2 : 0 < D2) : ((toFr ((N1 : Rat) / (D1 : Rat))).n * (toFr ((N2 : Rat) / (D2 : Rat))).d < (toFr ((N2 : Rat) / (D2 : Rat))).n * (toFr ((N1 : Rat) / (D1 : Rat))).d) ↔ N1 * D2 < N2 * D1 := by
  have e1 := frq_mul (a := N1) d1
  have e2 := frq_mul (a := N2) d2
  have p1 := frq_pos ((N1 : Rat) / (D1 : Rat))
  have p2 := frq_pos ((N2 : Rat) / (D2 : Rat))
  generalize toFr ((N1 : Rat) / (D1 : Rat)) = x at *
  generalize toFr ((N2 : Rat) / (D2 : Rat)) = y at *
  have hD : 0 < D1 * D2 := Int.mul_pos d1 d2
  have hd : 0 < x.d * y.d := Int.mul_pos (by omega) (by omega)
  have k1 : (x.n * y.d) * (D1 * D2) = (N1 * D2) * (x.d * y.d) := by grind
  have k2 : (y.n * x.d) * (D1 * D2) = (N2 * D1) * (x.d * y.d) := by grind
  constructor
  · intro h
    have := Int.mul_lt_mul_of_pos_right h hD
    rw [k1, k2] at this
    exact Int.lt_of_mul_lt_mul_right this (Int.le_of_lt hd)
  · intro h
    have := Int.mul_lt_mul_of_pos_right h hd
    rw [← k1, ← k2] at this
    exact Int.lt_of_mul_lt_mul_right this (Int.le_of_lt hD)
/-- The worth of a plan, as rationals. -/
def wV (W : Wd) (p : List Int) (i : Nat) : Rat := (nth (wNs W.a W.b (planActs W.acts p)) i : Rat) / (wD W.a W.b (planActs W.acts p) : Rat)
def actF (W : Wd) (p : List Int) (s i : Nat) : Fr := toFr (actQ W.a W.b (ac (acl W.acts s) i) (wV W p))
theorem wV_fr {W : Wd} {p : List Int} {i : Nat} (hi : i < W.acts.length) : fr (worthF W p) i = toFr (wV W p i) := by
  unfold worthF wV
  rw [fracsL_at (by rw [wNs_len, planActs_len]; exact hi)]
theorem wV_ov {W : Wd} {p : List Int} (h : isPlanB W p = true) {i : Nat} (hi : i < W.acts.length) : Ov (wV W p i) (wD W.a W.b (planActs W.acts p)) 200000000 := by
  have hX := okX_plan h
  have hl := planActs_len W.acts p
  have hd := wD_pos hX
  have h36 := wN_36 hX (s := i) (by rw [hl]; exact hi)
  refine ⟨_, rfl, ?_, ?_⟩ <;> rw [wNs_at (by rw [hl]; exact hi)] <;> omega
theorem moW_act {W : Wd} {p : List Int} (h : isPlanB W p = true) {s i j : Nat} (hs : s < W.acts.length) (hi : i < (acl W.acts s).length) (hj : j < (acl W.acts s).length) :
    moW W p s i j = decide ((actF W p s j).n * (actF W p s i).d < (actF W p s i).n * (actF W p s j).d) := by
  have hd := (wD_pos (okX_plan h)).1
  have hb := okX_b h
  have hSi := S_pos h hs hi
  have hSj := S_pos h hs hj
  have hci : 0 < W.b * isum (ac (acl W.acts s) i).o := Int.mul_pos hb hSi
  have hcj : 0 < W.b * isum (ac (acl W.acts s) j).o := Int.mul_pos hb hSj
  unfold actF
  rw [actQ_tel (v := wV W p) (N := nth (wNs W.a W.b (planActs W.acts p))) hd hci (fun _ _ => rfl), actQ_tel (v := wV W p) (N := nth (wNs W.a W.b (planActs W.acts p))) hd hcj (fun _ _ => rfl)]
  unfold moW tlW
  refine decide_eq_decide.2 (Iff.trans ?_ (frq_lt (Int.mul_pos hcj hd) (Int.mul_pos hci hd)).symm)
  generalize tel W.a W.b (ac (acl W.acts s) i) _ _ = Ti
  generalize tel W.a W.b (ac (acl W.acts s) j) _ _ = Tj
  generalize isum (ac (acl W.acts s) i).o = Si at *
  generalize isum (ac (acl W.acts s) j).o = Sj at *
  generalize wD W.a W.b (planActs W.acts p) = D at *
  have hbD : 0 < W.b * D := Int.mul_pos hb hd
  rw [show Tj * (W.b * Si * D) = Tj * Si * (W.b * D) by grind, show Ti * (W.b * Sj * D) = Ti * Sj * (W.b * D) by grind]
  exact ⟨fun h => Int.mul_lt_mul_of_pos_right h hbD, fun h => Int.lt_of_mul_lt_mul_right h (Int.le_of_lt hbD)⟩
/-! ### the first best plan -/
def hitAll (h : Nat → Nat → Bool) (n : Nat) (q : List Int) : Bool := (List.range n).all fun s => h s (nth q s).toNat
theorem find_congr' {α : Type} {p q : α → Bool} : ∀ {l : List α}, (∀ x ∈ l, p x = q x) → l.find? p = l.find? q
  | [], _ => rfl
  | x :: l, h => by
    rw [List.find?_cons, List.find?_cons, h x (by simp), find_congr' (l := l) fun y hy => h y (by simp [hy])]
theorem some_range {α : Type} {f : Nat → Option α} {i : Nat} {y : α} : ∀ {n : Nat}, i < n → f i = some y → (∀ j, j < i → f j = none) → (List.range n).findSome? f = some y
  | 0, h, _, _ => by omega
  | n + 1, h, h1, h2 => by
    rw [List.range_succ, List.findSome?_append]
    by_cases q : i < n
    · rw [some_range q h1 h2]; rfl
    · obtain rfl : i = n := by omega
      rw [List.findSome?_eq_none_iff.2 fun j hj => h2 j (List.mem_range.1 hj)]
      simp [h1]
theorem hitAll_cons {h : Nat → Nat → Bool} {n a : Nat} {q : List Int} : hitAll h (n + 1) (Int.ofNat a :: q) = (h 0 a && hitAll (fun s i => h (s + 1) i) n q) := by
  unfold hitAll
  rw [List.range_succ_eq_map, List.all_cons, List.all_map]
  rfl
theorem find_allP : ∀ {A : List (List Ac)} {h : Nat → Nat → Bool}, (∀ s, s < A.length → ∃ i, i < (acl A s).length ∧ h s i = true ∧ ∀ j, j < i → h s j = false) →
    (allP A).find? (hitAll h A.length) = some ((List.range A.length).map fun s => firstIx (h s) (acl A s).length)
  | [], h, _ => by simp [allP, hitAll]
  | l :: A, h, hh => by
    obtain ⟨i, hi, hi2, hi3⟩ := hh 0 (by simp)
    have hi : i < l.length := by simpa [acl] using hi
    have ih := find_allP (A := A) (h := fun s i => h (s + 1) i) fun s hs => by have := hh (s + 1) (by simpa using hs); simpa [acl] using this
    have key : ∀ a : Nat, ((allP A).map fun (p : List Int) => Int.ofNat a :: p).find? (hitAll h (A.length + 1)) = if h 0 a = true then some (Int.ofNat a :: (List.range A.length).map fun s => firstIx (h (s + 1)) (acl A s).length) else none := by
      intro a
      rw [List.find?_map]
      by_cases q : h 0 a = true
      · rw [if_pos q]
        have e : (hitAll h (A.length + 1)) ∘ (fun (p : List Int) => Int.ofNat a :: p) = hitAll (fun s i => h (s + 1) i) A.length := by
          funext p
          show hitAll h (A.length + 1) (Int.ofNat a :: p) = _
          rw [hitAll_cons, q, Bool.true_and]
        rw [e, ih]; rfl
      · rw [if_neg q]
        rw [List.find?_eq_none.2 fun x _ => by
          show ¬ hitAll h (A.length + 1) (Int.ofNat a :: x) = true
          rw [hitAll_cons, Bool.eq_false_iff.2 q, Bool.false_and]; simp]
        rfl
    show ((List.range l.length).flatMap fun (a : Nat) => (allP A).map fun (p : List Int) => Int.ofNat a :: p).find? (hitAll h (A.length + 1)) = _
    rw [List.find?_flatMap]
    rw [some_range (i := i) (y := Int.ofNat i :: (List.range A.length).map fun s => firstIx (h (s + 1)) (acl A s).length) hi (by rw [key, if_pos hi2]) (fun j hj => by rw [key, if_neg (by rw [hi3 j hj]; simp)])]
    rw [List.length_cons, List.range_succ_eq_map, List.map_cons, List.map_map]
    congr 1
    have e0 : firstIx (h 0) (acl (l :: A) 0).length = Int.ofNat i := firstIx_hit (by simpa [acl] using hi) hi2 hi3
    rw [e0]
    rfl
theorem best_hit {W : Wd} {p q : List Int} (h : isPlanB W p = true) (ho : Opt W p) (hq : isPlanB W q = true) : isBestB W q = hitAll (hitB W p) W.acts.length q := by
  rw [Bool.eq_iff_iff]
  constructor
  · intro hb
    have hw := isBest_same h ho hq hb
    unfold hitAll
    rw [List.all_eq_true]
    intro s hs
    have hs := List.mem_range.1 hs
    have hX := okX_plan h
    have hX2 := okX_plan hq
    have hl := planActs_len W.acts p
    have hl2 := planActs_len W.acts q
    have hv := vAc_pact hq hs
    have h1 := tl_own hq hs
    unfold hitB
    rw [beq_iff_eq]
    have hvk : ∀ k, k < W.acts.length → wN W.a W.b (planActs W.acts q) k * wD W.a W.b (planActs W.acts p) = wN W.a W.b (planActs W.acts p) k * wD W.a W.b (planActs W.acts q) := by
      intro k hk
      have e1 := (fr_ltW h hq hk hk)
      have e2 := (fr_ltW hq h hk hk)
      rw [hw] at e1 e2
      have := fun h => (Int.lt_irrefl _ (e1.2 h))
      have := fun h => (Int.lt_irrefl _ (e2.2 h))
      omega
    have hol := (vAc_at hv).2.2.1
    have h2 := tel_scale (a := W.a) (b := W.b) (x := pact W.acts q s) (l := wN W.a W.b (planActs W.acts q)) (N := wN W.a W.b (planActs W.acts p)) (d := wD W.a W.b (planActs W.acts q)) (D := wD W.a W.b (planActs W.acts p)) fun k hk => hvk k (by omega)
    rw [← tlW_eq hv, ← tlW_eq hv, h1] at h2
    have h3 := hvk s hs
    have hd := (wD_pos hX2).1
    show tlW W p (pact W.acts q s) = _
    refine Int.eq_of_mul_eq_mul_right (a := wD W.a W.b (planActs W.acts q)) (by omega) ?_
    rw [← h2]
    show _ = W.b * isum (pact W.acts q s).o * wN W.a W.b (planActs W.acts p) s * _
    grind
  · intro hb
    have hw : worthF W q = worthF W p := by
      refine same_worth h hq fun s hs => ?_
      unfold hitAll at hb
      rw [List.all_eq_true] at hb
      have := hb s (List.mem_range.2 hs)
      unfold hitB at this
      rwa [beq_iff_eq] at this
    have hp := isBest_opt h ho
    unfold isBestB rowOk at hp ⊢
    rw [hw]; exact hp
theorem first_find {W : Wd} {p : List Int} (h : isPlanB W p = true) (ho : Opt W p) : (allP W.acts).find? (isBestB W) = some (firstP W p) := by
  rw [find_congr' (q := hitAll (hitB W p) W.acts.length) fun q hq => best_hit h ho (mem_plan (plan_parts h).1 hq)]
  exact find_allP fun s hs => by
    obtain ⟨i, _, h1, h2, _, h3⟩ := first_hit h hs
    exact ⟨i, h1, h2, h3⟩
theorem best_found {W : Wd} {p : List Int} (h : isPlanB W p = true) : isBestB W p = !foundP W p := by
  cases hf : foundP W p with
  | false => exact isBest_opt h (next_no h hf).2
  | true =>
    obtain ⟨s, hs, hlt⟩ := chain_gt h hf
    show isBestB W p = false
    unfold isBestB
    rw [List.all_eq_false]
    refine ⟨nextP W p, plan_mem (next_plan h), ?_⟩
    unfold rowOk
    rw [Bool.not_eq_true, List.all_eq_false]
    refine ⟨s, List.mem_range.2 hs, ?_⟩
    unfold notLess
    rw [hlt]; simp
theorem rIx_lt {mo : Nat → Nat → Bool} {n : Nat} (hn : 0 < n) : ∀ k, k ≤ n → rIx mo k < n
  | 0, _ => hn
  | k + 1, h => by
    have := rIx_lt (mo := mo) hn k (by omega)
    show (if mo k (rIx mo k) then k else rIx mo k) < n
    split <;> omega
theorem next_rIx {W : Wd} {p : List Int} (h : isPlanB W p = true) {s : Nat} (hs : s < W.acts.length) : nth (nextP W p) s = ((if moW W p s (rIx (moW W p s) (acl W.acts s).length) (nth p s).toNat then rIx (moW W p s) (acl W.acts s).length else (nth p s).toNat : Nat) : Int) := by
  rw [nextP_at hs, bIx_rIx (T := fun i => tlW W p (ac (acl W.acts s) i)) (S := fun i => isum (ac (acl W.acts s) i).o) (mo := moW W p s) (n := (acl W.acts s).length) (fun _ hi => S_pos h hs hi) (mo_eq W p s) (by have := (plan_parts h).2.2.1 s hs; omega)]
def FrBig (x : Fr) : Prop := 1 ≤ x.d ∧ x.d ≤ 260000000 ∧ -10000000000 ≤ x.n ∧ x.n ≤ 10000000000
theorem actF_big {W : Wd} {p : List Int} (h : isPlanB W p = true) {s i : Nat} (hs : s < W.acts.length) (hi : i < (acl W.acts s).length) : FrBig (actF W p s i) := by
  obtain ⟨_, _, _, ⟨hn1, hn4, ha1, hab, hb4⟩, hv⟩ := plan_parts h
  have hva := vAc_at ((hv s hs).2.2 i hi)
  have hd := wD_pos (okX_plan h)
  have hS := S_pos h hs hi
  have hc : 0 < W.b * isum (ac (acl W.acts s) i).o := Int.mul_pos (by omega) hS
  have hcb := mul_le3 (A := 4) (B := 12) (show -4 ≤ W.b by omega) hb4 (show -12 ≤ isum (ac (acl W.acts s) i).o by omega) (by omega) (by omega)
  have ho := ov_act (v := wV W p) (D := wD W.a W.b (planActs W.acts p)) (Z := 200000000) hd.1 (by omega) (show 1 ≤ W.a ∧ W.a ≤ 3 by omega) hc ⟨hva.1, hva.2.1⟩ hva.2.2.2.1 fun k hk => wV_ov h (by omega)
  have hb := ov_bd ho (Int.mul_pos hd.1 hc)
  have hdc : wD W.a W.b (planActs W.acts p) * (W.b * isum (ac (acl W.acts s) i).o) ≤ 5308416 * 48 := Int.mul_le_mul hd.2 (by omega) (by omega) (by omega)
  have h1 := frd_pos (actQ W.a W.b (ac (acl W.acts s) i) (wV W p))
  have hl : ((ac (acl W.acts s) i).o.length : Int) ≤ 4 := by omega
  show 1 ≤ ((actQ W.a W.b (ac (acl W.acts s) i) (wV W p)).den : Int) ∧ ((actQ W.a W.b (ac (acl W.acts s) i) (wV W p)).den : Int) ≤ 260000000 ∧ -10000000000 ≤ (actQ W.a W.b (ac (acl W.acts s) i) (wV W p)).num ∧ (actQ W.a W.b (ac (acl W.acts s) i) (wV W p)).num ≤ 10000000000
  omega
theorem ractW_go (w : World) (x : Option Addr) (n c : Nat) (l : Option Addr) (m d : Nat) (W : Wd) (p : List Int) (h : isPlanB W p = true) (s i : Nat) (hs : s < W.acts.length) (hi : i < (acl W.acts s).length) (z : Option Addr) (k q : Nat) (g : Int) (f : Fr)
    (hg : (ac (acl W.acts s) i).g = g) (hf : actF W p s i = f) (ho : Sl w z k q (ac (acl W.acts s) i).o) (hF : FrSl w l m d (worthF W p)) :
    Calls Try.prog 58 #[wv W.a W.b x n c, .agg #[.int .i64 g, .slice z k q], .slice l m d] w fun e w' => e = .returned (.agg #[.int .i64 f.n, .int .i64 f.d]) ∧ Below w.heap.size w w' := by
  obtain ⟨_, _, _, ⟨hn1, hn4, ha1, hab, hb4⟩, hv⟩ := plan_parts h
  have hva := vAc_at ((hv s hs).2.2 i hi)
  have hd := wD_pos (okX_plan h)
  have hol := ho.len
  have hfl := hF.1
  rw [worthF_len] at hfl
  subst hg hf
  exact ract_go w x n c W.a W.b _ z k q _ l m d _ (wV W p) (wD W.a W.b (planActs W.acts p)) 200000000 _ (by omega) (by omega) ⟨hva.1, hva.2.1⟩ ho (by omega) (by omega) hva.2.2.2.1 (by omega) hF (fun j hj => wV_fr (by omega)) ⟨hd.1, hd.2⟩ (by omega) (fun j hj => wV_ov h (by omega)) rfl
set_option maxHeartbeats 400000 in
theorem lessB_go (w : World) (x y : Fr) (hx : FrBig x) (hy : FrBig y) :
    Calls Try.prog 26 #[.agg #[.int .i64 x.n, .int .i64 x.d], .agg #[.int .i64 y.n, .int .i64 y.d]] w fun e w' => e = .returned (.bool (decide (x.n * y.d < y.n * x.d))) ∧ Below w.heap.size w w' := by
  obtain ⟨x1, x2, x3, x4⟩ := hx
  obtain ⟨y1, y2, y3, y4⟩ := hy
  have m1 := mul_le3 (A := 10000000000) (B := 260000000) x3 x4 (show -260000000 ≤ y.d by omega) y2 (by omega)
  have m2 := mul_le3 (A := 10000000000) (B := 260000000) y3 y4 (show -260000000 ≤ x.d by omega) x2 (by omega)
  generalize x.n = xn at *
  generalize x.d = xd at *
  generalize y.n = yn at *
  generalize y.d = yd at *
  have HB := Lib.hid (bal (bal (Below.refl w.heap.size w) (.cells #[.int .i64 xn, .int .i64 xd] 53)) (.cells #[.int .i64 yn, .int .i64 yd] 53))
  generalize hp : xn * yd = p at *
  generalize hq : yn * xd = q at *
  go_enter Try.func26, Try.ntmps26
  go_wp2
  go_ret
  exact ⟨rfl, HB.out⟩
end Go.Proofs.Ytcmakddnjmeklaa
