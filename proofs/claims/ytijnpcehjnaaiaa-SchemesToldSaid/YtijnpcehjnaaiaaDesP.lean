/- The graph without a node that was made alone: plain counting. -/
import Derived.Test.YtijnpcehjnaaiaaTwP
import Derived.Test.YtijnpcehjnaaiaaLAlone
namespace Go.Proofs.Ytijnpcehjnaaiaa
open Go.RowKit

def b1 (b : Bool) : Nat := if b then 1 else 0
def up (v r : Nat) : Nat := if r < v then r else r + 1
theorem up_lo {v r : Nat} (h : r < v) : up v r = r := if_pos h
theorem up_hi {v r : Nat} (h : v ≤ r) : up v r = r + 1 := if_neg (by omega)
theorem up_ne (v r : Nat) : up v r ≠ v := by unfold up; split <;> omega
theorem up_lt {v r n : Nat} (h : r + 1 < n + 1) : up v r < n + 1 := by unfold up; split <;> omega
theorem up_mono {v r s : Nat} (h : s < r) : up v s < up v r := by unfold up; split <;> split <;> omega

/-- One sum without the term v. -/
theorem sum1_up (f : Nat → Nat) (v d : Nat) : sumTo (v + d + 1) f = sumTo (v + d) (fun r => f (up v r)) + f v := by
  induction d with
  | zero =>
    show sumTo v f + f v = _
    rw [sumTo_congr (f := f) (g := fun r => f (up v r)) fun j hj => by rw [up_lo hj]]; rfl
  | succ d ih =>
    show sumTo (v + d + 1) f + f (v + d + 1) = sumTo (v + d) (fun r => f (up v r)) + f (up v (v + d)) + f v
    rw [ih, up_hi (by omega)]; omega
/-- Pairs without v. -/
theorem sum2_up (h : Nat → Nat → Nat) (hs : ∀ a b, h a b = h b a) (v d : Nat) :
    sumTo (v + d + 1) (fun j => sumTo j fun k => h j k) = sumTo (v + d) (fun s => sumTo s fun t => h (up v s) (up v t)) + sumTo (v + d) (fun r => h (up v r) v) := by
  induction d with
  | zero =>
    show sumTo v _ + sumTo v (fun k => h v k) = _
    congr 1
    · refine sumTo_congr fun j hj => sumTo_congr fun k hk => ?_
      rw [up_lo hj, up_lo (show k < v by omega)]
    · exact sumTo_congr fun j hj => by rw [up_lo (show j < v from hj), hs]
  | succ d ih =>
    show sumTo (v + d + 1) (fun j => sumTo j fun k => h j k) + sumTo (v + d + 1) (fun k => h (v + d + 1) k) = sumTo (v + d) (fun s => sumTo s fun t => h (up v s) (up v t)) + sumTo (v + d) (fun t => h (up v (v + d)) (up v t)) + (sumTo (v + d) (fun r => h (up v r) v) + h (up v (v + d)) v)
    rw [ih, sum1_up, up_hi (show v ≤ v + d by omega)]; omega
/-- Sets of three without v. -/
theorem sum3_up (f : Nat → Nat → Nat → Nat) (h1 : ∀ a b c, f a b c = f a c b) (h2 : ∀ a b c, f a b c = f b a c) (v d : Nat) :
    sumTo (v + d + 1) (fun i => sumTo i fun j => sumTo j fun k => f i j k) = sumTo (v + d) (fun r => sumTo r fun s => sumTo s fun t => f (up v r) (up v s) (up v t)) + sumTo (v + d) (fun r => sumTo r fun s => f (up v r) (up v s) v) := by
  induction d with
  | zero =>
    show sumTo v _ + sumTo v (fun j => sumTo j fun k => f v j k) = _
    congr 1
    · refine sumTo_congr fun i hi => sumTo_congr fun j hj => sumTo_congr fun k hk => ?_
      rw [up_lo hi, up_lo (show j < v by omega), up_lo (show k < v by omega)]
    · refine sumTo_congr fun j hj => sumTo_congr fun k hk => ?_
      rw [up_lo (show j < v from hj), up_lo (show k < v by omega), h2, h1]
  | succ d ih =>
    show sumTo (v + d + 1) (fun i => sumTo i fun j => sumTo j fun k => f i j k) + sumTo (v + d + 1) (fun j => sumTo j fun k => f (v + d + 1) j k) =
      sumTo (v + d) (fun r => sumTo r fun s => sumTo s fun t => f (up v r) (up v s) (up v t)) + sumTo (v + d) (fun s => sumTo s fun t => f (up v (v + d)) (up v s) (up v t)) +
      (sumTo (v + d) (fun r => sumTo r fun s => f (up v r) (up v s) v) + sumTo (v + d) (fun s => f (up v (v + d)) (up v s) v))
    rw [ih, sum2_up (fun j k => f (v + d + 1) j k) (fun a b => h1 _ _ _), up_hi (show v ≤ v + d by omega)]; omega

/-- A symmetric table without a diagonal is twice its half. -/
theorem sum_dbl (h : Nat → Nat → Nat) (hs : ∀ a b, h a b = h b a) (h0 : ∀ a, h a a = 0) : ∀ m, sumTo m (fun r => sumTo m fun c => h r c) = 2 * sumTo m (fun r => sumTo r fun c => h r c) := by
  intro m; induction m with
  | zero => rfl
  | succ m ih =>
    have e : sumTo m (fun r => sumTo (m + 1) fun c => h r c) = sumTo m (fun r => sumTo m fun c => h r c) + sumTo m (fun r => h r m) := by
      rw [← sumTo_add]; rfl
    show sumTo m (fun r => sumTo (m + 1) fun c => h r c) + (sumTo m (fun c => h m c) + h m m) = 2 * (sumTo m (fun r => sumTo r fun c => h r c) + sumTo m (fun c => h m c))
    rw [e, ih, h0, sumTo_congr (f := fun r => h r m) (g := fun c => h m c) fun j _ => hs j m]; omega

theorem sum_xor (p q : Nat → Bool) (n : Nat) : sumTo n (fun c => b1 (p c)) + sumTo n (fun c => b1 (q c)) = sumTo n (fun c => b1 (p c != q c)) + 2 * sumTo n (fun c => b1 (p c && q c)) := by
  induction n with
  | zero => rfl
  | succ n ih =>
    have e : b1 (p n) + b1 (q n) = b1 (p n != q n) + 2 * b1 (p n && q n) := by cases p n <;> cases q n <;> rfl
    simp only [sumTo]
    omega
theorem sum_not (p : Nat → Bool) (n : Nat) : sumTo n (fun c => b1 (p c)) + sumTo n (fun c => b1 (!p c)) = n := by
  induction n with
  | zero => rfl
  | succ n ih =>
    have e : b1 (p n) + b1 (!p n) = 1 := by cases p n <;> rfl
    simp only [sumTo]
    omega
theorem sum_flip (p : Nat → Bool) (b : Bool) (n : Nat) : sumTo n (fun c => b1 (p c != b)) = if b then n - sumTo n (fun c => b1 (p c)) else sumTo n (fun c => b1 (p c)) := by
  cases b with
  | false => simp
  | true =>
    have := sum_not p n
    simp only [Bool.bne_true, if_true]
    omega
theorem bt_b1 (x j : Nat) : bt x j = b1 (x.testBit j) := bt_test x j

/-! ### the bits of a set without v -/
theorem drop_bit (x v c : Nat) : (dropBit x v).testBit c = x.testBit (up v c) := by
  unfold dropBit
  rw [Nat.testBit_or, Nat.testBit_and, Nat.testBit_two_pow_sub_one]
  by_cases h : c < v
  · rw [up_lo h]
    have e : (x / 2 ^ (v + 1) * 2 ^ v).testBit c = false := by
      rw [Nat.testBit_mul_two_pow]; simp; omega
    rw [e]; simp [h]
  · rw [up_hi (by omega)]
    have e : (x / 2 ^ (v + 1) * 2 ^ v).testBit c = x.testBit (c + 1) := by
      rw [Nat.testBit_mul_two_pow, Nat.testBit_div_two_pow, show c - v + (v + 1) = c + 1 by omega]
      simp; omega
    rw [e]; simp [h]
theorem alone_length {G : List Nat} {v : Nat} : ∀ k, (aloneTo G v k).length = if v < k then k - 1 else k := by
  intro k; induction k with
  | zero => rfl
  | succ k ih =>
    by_cases e : k = v
    · rw [alone_miss e, ih]; subst e; simp
    · rw [alone_hit e, List.length_append, ih]
      by_cases h : v < k
      · rw [if_pos h, if_pos (by omega)]; simp; omega
      · rw [if_neg h, if_neg (by omega)]; simp
theorem alone_gn {G : List Nat} {v : Nat} : ∀ k r, r < (aloneTo G v k).length → gn (aloneTo G v k) r = dropBit (gn (swL G (gn G v)) (up v r)) v := by
  intro k; induction k with
  | zero => intro r h; simp [aloneTo] at h
  | succ k ih =>
    intro r h
    by_cases e : k = v
    · rw [alone_miss e] at h ⊢; exact ih r h
    · rw [alone_hit e] at h ⊢
      have hl := alone_length (G := G) (v := v) k
      by_cases q : r < (aloneTo G v k).length
      · rw [← ih r q]; unfold gn; simp only [List.getD_eq_getElem?_getD]; rw [List.getElem?_append_left q]
      · have hr : r = (aloneTo G v k).length := by simp at h; omega
        have hu : up v r = k := by
          rw [hr, hl]; unfold up
          by_cases h2 : v < k
          · rw [if_pos h2]; split <;> omega
          · rw [if_neg h2]; split <;> omega
        rw [hu]; subst hr; simp [gn]
theorem aloneL_len {G : List Nat} {v : Nat} (hv : v < G.length) : (aloneL G v).length + 1 = G.length := by
  unfold aloneL; rw [alone_length, if_pos hv]; omega
theorem alone_row {G : List Nat} (hG : Gr G) {v i j : Nat} (hv : v < G.length) (hi : i < G.length) (hj : j < G.length) : (gn (swL G (gn G v)) i).testBit j = oddT G i j v := by
  rw [sw_bit hG hi hj]; unfold oddT
  have e1 := (hG.2.2 v hv).2.2 i hi
  have e2 := (hG.2.2 v hv).2.2 j hj
  rw [e1, e2]
  cases (gn G i).testBit j <;> cases (gn G i).testBit v <;> cases (gn G j).testBit v <;> rfl
theorem alone_bit {G : List Nat} (hG : Gr G) {v r c : Nat} (hv : v < G.length) (hr : r + 1 < G.length) (hc : c + 1 < G.length) : (gn (aloneL G v) r).testBit c = oddT G (up v r) (up v c) v := by
  have hl := aloneL_len hv
  unfold aloneL at *
  rw [alone_gn _ _ (by omega), drop_bit]
  exact alone_row hG hv (by unfold up; split <;> omega) (by unfold up; split <;> omega)
theorem oddT_diag {G : List Nat} (hG : Gr G) {i v : Nat} (hi : i < G.length) : oddT G i i v = false := by
  unfold oddT; rw [(hG.2.2 i hi).2.1]; cases (gn G i).testBit v <;> rfl
theorem oddT_sw1 {G : List Nat} (hG : Gr G) {i j v : Nat} (hi : i < G.length) (hj : j < G.length) : oddT G i j v = oddT G j i v := by
  unfold oddT; rw [(hG.2.2 i hi).2.2 j hj]
  cases (gn G j).testBit i <;> cases (gn G i).testBit v <;> cases (gn G j).testBit v <;> rfl
theorem oddT_sw2 {G : List Nat} (hG : Gr G) {i j k : Nat} (hj : j < G.length) (hk : k < G.length) : oddT G i j k = oddT G i k j := by
  unfold oddT; rw [(hG.2.2 j hj).2.2 k hk]
  cases (gn G k).testBit j <;> cases (gn G i).testBit j <;> cases (gn G i).testBit k <;> rfl
theorem drop_lt {x v n : Nat} (hx : x < 2 ^ (n + 1)) (hv : v ≤ n) : dropBit x v < 2 ^ n := by
  apply Nat.lt_pow_two_of_testBit
  intro c hc
  rw [drop_bit, up_hi (by omega)]
  exact Nat.testBit_lt_two_pow (Nat.lt_of_lt_of_le hx (Nat.pow_le_pow_right (by omega) (by omega)))
theorem alone_gr {G : List Nat} (hG : Gr G) {v : Nat} (hv : v < G.length) (h2 : 2 ≤ G.length) : Gr (aloneL G v) := by
  have hl := aloneL_len hv
  refine ⟨by omega, by have := hG.2.1; omega, fun r hr => ⟨?_, ?_, fun c hc => ?_⟩⟩
  · have e : gn (aloneL G v) r = dropBit (gn (swL G (gn G v)) (up v r)) v := alone_gn _ _ hr
    rw [e]
    refine drop_lt ?_ (by omega)
    rw [hl]
    exact sw_lt hG (by unfold up; split <;> omega)
  · rw [alone_bit hG hv (by omega) (by omega)]
    exact oddT_diag hG (by unfold up; split <;> omega)
  · rw [alone_bit hG hv (by omega) (by omega), alone_bit hG hv (by omega) (by omega)]
    exact oddT_sw1 hG (by unfold up; split <;> omega) (by unfold up; split <;> omega)

/-! ### the counts -/
def oT (G : List Nat) (i j k : Nat) : Nat := if oddT G i j k then 1 else 0
/-- How many odd sets of three hold v. -/
def withN (G : List Nat) (v : Nat) : Nat := sumTo G.length fun i => sumTo i fun j => if i ≠ v ∧ j ≠ v then oT G i j v else 0
/-- A table on the nodes, beyond which it is nothing: symmetric everywhere. -/
def cut (n : Nat) (f : Nat → Nat → Nat) (i j : Nat) : Nat := if i < n ∧ j < n then f i j else 0
theorem cut_in {n i j : Nat} {f : Nat → Nat → Nat} (h : i < n) (h' : j < n) : cut n f i j = f i j := if_pos ⟨h, h'⟩
theorem cut_sym {n : Nat} {f : Nat → Nat → Nat} (hf : ∀ a b, a < n → b < n → f a b = f b a) (a b : Nat) : cut n f a b = cut n f b a := by
  unfold cut
  by_cases h : a < n ∧ b < n
  · rw [if_pos h, if_pos ⟨h.2, h.1⟩, hf a b h.1 h.2]
  · rw [if_neg h, if_neg (fun q => h ⟨q.2, q.1⟩)]
def fW (G : List Nat) (v i j : Nat) : Nat := if i ≠ v ∧ j ≠ v then oT G i j v else 0
def fU (G : List Nat) (v r c : Nat) : Nat := oT G (up v r) (up v c) v
theorem fW_sym {G : List Nat} (hG : Gr G) (v : Nat) (a b : Nat) (ha : a < G.length) (hb : b < G.length) : fW G v a b = fW G v b a := by
  have e : oT G a b v = oT G b a v := by unfold oT; rw [oddT_sw1 hG ha hb]
  unfold fW; rw [e]
  by_cases q : a ≠ v ∧ b ≠ v
  · rw [if_pos q, if_pos ⟨q.2, q.1⟩]
  · rw [if_neg q, if_neg (fun h => q ⟨h.2, h.1⟩)]
theorem up_len {v r n : Nat} (h : r + 1 < n) : up v r < n := by unfold up; split <;> omega
theorem fU_sym {G : List Nat} (hG : Gr G) (v : Nat) (a b : Nat) (ha : a < G.length - 1) (hb : b < G.length - 1) : fU G v a b = fU G v b a := by
  unfold fU oT; rw [oddT_sw1 hG (up_len (by omega)) (up_len (by omega))]
theorem with_up {G : List Nat} (hG : Gr G) {v : Nat} (hv : v < G.length) : withN G v = sumTo (G.length - 1) fun r => sumTo r fun s => fU G v r s := by
  obtain ⟨d, hd⟩ : ∃ d, G.length = v + d + 1 := ⟨G.length - 1 - v, by omega⟩
  have e := sum2_up (cut G.length (fW G v)) (cut_sym (fW_sym hG v)) v d
  rw [← hd] at e
  rw [show withN G v = sumTo G.length (fun j => sumTo j fun k => cut G.length (fW G v) j k) from
    sumTo_congr fun i hi => sumTo_congr fun j hj => (cut_in (f := fW G v) hi (by omega)).symm, e, show G.length - 1 = v + d by omega]
  have z : sumTo (v + d) (fun r => cut G.length (fW G v) (up v r) v) = 0 := by
    rw [← sumTo_zero (v + d)]
    refine sumTo_congr fun r hr => ?_
    rw [cut_in (up_len (by omega)) hv]; unfold fW; rw [if_neg (by simp)]
  rw [z, Nat.add_zero]
  refine sumTo_congr fun r hr => sumTo_congr fun s hs => ?_
  rw [cut_in (up_len (by omega)) (up_len (by omega))]; unfold fW
  rw [if_pos ⟨up_ne v r, up_ne v s⟩]; rfl

theorem oddN_oT (G : List Nat) : oddN G = sumTo G.length fun i => sumTo i fun j => sumTo j fun k => oT G i j k := rfl

def cut3 (n : Nat) (f : Nat → Nat → Nat → Nat) (i j k : Nat) : Nat := if i < n ∧ j < n ∧ k < n then f i j k else 0
/-- The odd sets of three are those without v, and those with it. -/
theorem odd_alone {G : List Nat} (hG : Gr G) {v : Nat} (hv : v < G.length) : oddN (aloneL G v) + withN G v = oddN G := by
  obtain ⟨d, hd⟩ : ∃ d, G.length = v + d + 1 := ⟨G.length - 1 - v, by omega⟩
  have hl := aloneL_len hv
  have s1 : ∀ a b c, cut3 G.length (oT G) a b c = cut3 G.length (oT G) a c b := by
    intro a b c; unfold cut3
    by_cases h : a < G.length ∧ b < G.length ∧ c < G.length
    · rw [if_pos h, if_pos ⟨h.1, h.2.2, h.2.1⟩]; unfold oT; rw [oddT_sw2 hG h.2.1 h.2.2]
    · rw [if_neg h, if_neg (fun q => h ⟨q.1, q.2.2, q.2.1⟩)]
  have s2 : ∀ a b c, cut3 G.length (oT G) a b c = cut3 G.length (oT G) b a c := by
    intro a b c; unfold cut3
    by_cases h : a < G.length ∧ b < G.length ∧ c < G.length
    · rw [if_pos h, if_pos ⟨h.2.1, h.1, h.2.2⟩]; unfold oT; rw [oddT_sw1 hG h.1 h.2.1]
    · rw [if_neg h, if_neg (fun q => h ⟨q.2.1, q.1, q.2.2⟩)]
  have e := sum3_up _ s1 s2 v d
  rw [← hd] at e
  rw [oddN_oT G, show sumTo G.length (fun i => sumTo i fun j => sumTo j fun k => oT G i j k) = sumTo G.length (fun i => sumTo i fun j => sumTo j fun k => cut3 G.length (oT G) i j k) from
    sumTo_congr fun i hi => sumTo_congr fun j hj => sumTo_congr fun k hk => by unfold cut3; rw [if_pos ⟨hi, by omega, by omega⟩], e, with_up hG hv, oddN_oT, show G.length - 1 = v + d by omega, show (aloneL G v).length = v + d by omega]
  congr 1
  · refine sumTo_congr fun r hr => sumTo_congr fun s hs => sumTo_congr fun t ht => ?_
    have u1 : up v r < G.length := by unfold up; split <;> omega
    have u2 : up v s < G.length := by unfold up; split <;> omega
    have u3 : up v t < G.length := by unfold up; split <;> omega
    unfold cut3
    rw [if_pos ⟨u1, u2, u3⟩]
    unfold oT
    have e : oddT (aloneL G v) r s t = oddT G (up v r) (up v s) (up v t) := by
      show (((gn (aloneL G v) r).testBit s != (gn (aloneL G v) s).testBit t) != (gn (aloneL G v) r).testBit t) = _
      rw [alone_bit hG hv (by omega) (by omega), alone_bit hG hv (by omega) (by omega), alone_bit hG hv (by omega) (by omega)]
      unfold oddT
      cases (gn G (up v r)).testBit (up v s) <;> cases (gn G (up v r)).testBit v <;> cases (gn G (up v s)).testBit v <;> cases (gn G (up v s)).testBit (up v t) <;> cases (gn G (up v t)).testBit v <;> cases (gn G (up v r)).testBit (up v t) <;> rfl
    rw [e]
  · refine sumTo_congr fun r hr => sumTo_congr fun s hs => ?_
    unfold cut3
    rw [if_pos ⟨by unfold up; split <;> omega, by unfold up; split <;> omega, hv⟩]; rfl

/-- A row of the graph without v, counted over all nodes. -/
theorem alone_pop {G : List Nat} (hG : Gr G) {v r : Nat} (hv : v < G.length) (h2 : 2 ≤ G.length) (hr : r + 1 < G.length) : pop (gn (aloneL G v) r) = sumTo G.length fun c => b1 (oddT G (up v r) c v) := by
  obtain ⟨d, hd⟩ : ∃ d, G.length = v + d + 1 := ⟨G.length - 1 - v, by omega⟩
  have hl := aloneL_len hv
  have hA := alone_gr hG hv h2
  have hu : up v r < G.length := by unfold up; split <;> omega
  rw [pop_below hA.2.1 (hA.2.2 r (by omega)).1, show (aloneL G v).length = v + d by omega, hd, sum1_up]
  have z : b1 (oddT G (up v r) v v) = 0 := by
    unfold oddT; rw [(hG.2.2 v hv).2.1]; cases (gn G (up v r)).testBit v <;> rfl
  rw [z, Nat.add_zero]
  exact sumTo_congr fun c hc => by rw [bt_b1, alone_bit hG hv hr (by omega)]
theorem alone_common {G : List Nat} (hG : Gr G) {v r s : Nat} (hv : v < G.length) (h2 : 2 ≤ G.length) (hr : r + 1 < G.length) (hs : s + 1 < G.length) :
    pop (gn (aloneL G v) r &&& gn (aloneL G v) s) = sumTo G.length fun c => b1 (oddT G (up v r) c v && oddT G (up v s) c v) := by
  obtain ⟨d, hd⟩ : ∃ d, G.length = v + d + 1 := ⟨G.length - 1 - v, by omega⟩
  have hl := aloneL_len hv
  have hA := alone_gr hG hv h2
  rw [pop_below hA.2.1 (Nat.lt_of_le_of_lt Nat.and_le_left (hA.2.2 r (by omega)).1), show (aloneL G v).length = v + d by omega, hd, sum1_up]
  have z : b1 (oddT G (up v r) v v && oddT G (up v s) v v) = 0 := by
    unfold oddT; rw [(hG.2.2 v hv).2.1]; cases (gn G (up v r)).testBit v <;> rfl
  rw [z, Nat.add_zero]
  exact sumTo_congr fun c hc => by rw [bt_b1, Nat.testBit_and, alone_bit hG hv hr (by omega), alone_bit hG hv hs (by omega)]
/-- All neighbours that the rows tell. -/
theorem edges_alone {G : List Nat} (hG : Gr G) {v : Nat} (hv : v < G.length) (h2 : 2 ≤ G.length) : sumTo (G.length - 1) (fun r => pop (gn (aloneL G v) r)) = 2 * withN G v := by
  have hl := aloneL_len hv
  have hA := alone_gr hG hv h2
  rw [with_up hG hv]
  have h0 : ∀ a, cut (G.length - 1) (fU G v) a a = 0 := by
    intro a; unfold cut
    split
    · unfold fU oT; rw [oddT_diag hG (up_len (by omega))]; rfl
    · rfl
  have e := sum_dbl _ (cut_sym (fU_sym hG v)) h0 (G.length - 1)
  rw [show sumTo (G.length - 1) (fun r => sumTo r fun c => cut (G.length - 1) (fU G v) r c) = sumTo (G.length - 1) (fun r => sumTo r fun s => fU G v r s) from
    sumTo_congr fun r hr => sumTo_congr fun c hc => cut_in hr (by omega)] at e
  rw [← e]
  refine sumTo_congr fun r hr => ?_
  rw [pop_below hA.2.1 (hA.2.2 r (by omega)).1, show (aloneL G v).length = G.length - 1 by omega]
  refine sumTo_congr fun c hc => ?_
  rw [cut_in hr hc, bt_b1, alone_bit hG hv (by omega) (by omega)]; rfl

/-! ### the numbers of the graph without v -/
theorem row_sum {G : List Nat} (hG : Gr G) {i : Nat} (hi : i < G.length) : sumTo G.length (fun c => b1 ((gn G i).testBit c)) = pop (gn G i) := by
  rw [pop_below hG.2.1 (hG.2.2 i hi).1]; exact sumTo_congr fun c _ => (bt_b1 _ _).symm
theorem and_sum {G : List Nat} (hG : Gr G) {i j : Nat} (hi : i < G.length) : sumTo G.length (fun c => b1 ((gn G i).testBit c && (gn G j).testBit c)) = pop (gn G i &&& gn G j) := by
  rw [pop_below hG.2.1 (Nat.lt_of_le_of_lt Nat.and_le_left (hG.2.2 i hi).1)]; exact sumTo_congr fun c _ => by rw [bt_b1, Nat.testBit_and]
theorem num_and {G : List Nat} (hG : Gr G) {k l m : Nat} (hn : Num G k l m) {i j : Nat} (hi : i < G.length) (hj : j < G.length) (hij : i ≠ j) : pop (gn G i &&& gn G j) = if (gn G i).testBit j then l else m := by
  obtain ⟨_, _, _, h4, h5⟩ := hn
  rcases Nat.lt_or_gt_of_ne hij with q | q
  · rw [Nat.and_comm, (hG.2.2 i hi).2.2 j hj]
    cases hb : (gn G j).testBit i with
    | true => exact h4 j i hj q hb
    | false => exact h5 j i hj q hb
  · cases hb : (gn G i).testBit j with
    | true => exact h4 i j hi q hb
    | false => exact h5 i j hi q hb
/-- How many see two nodes not alike. -/
theorem xor_sum {G : List Nat} (hG : Gr G) {k l m : Nat} (hn : Num G k l m) {i j : Nat} (hi : i < G.length) (hj : j < G.length) (hij : i ≠ j) :
    sumTo G.length (fun c => b1 ((gn G i).testBit c != (gn G j).testBit c)) + 2 * (if (gn G i).testBit j then l else m) = 2 * k := by
  have e := sum_xor (fun c => (gn G i).testBit c) (fun c => (gn G j).testBit c) G.length
  have e1 := row_sum hG hi
  have e2 := row_sum hG hj
  have e3 := and_sum hG hi (j := j)
  rw [hn.2.2.1 i hi] at e1
  rw [hn.2.2.1 j hj] at e2
  rw [num_and hG hn hi hj hij] at e3
  omega
theorem alone_num {G : List Nat} (hG : Gr G) {k l m v : Nat} (hn : Num G k l m) (hv : v < G.length) (h2 : 2 ≤ G.length) (he : G.length + 2 * (l + m) = 4 * k) (hm : m < k) (h3 : 2 * (k - m) + 3 ≤ G.length) :
    Num (aloneL G v) (2 * (k - m)) (k + l - 2 * m) (k - m) ∧ 2 * m ≤ k + l := by
  have hl := aloneL_len hv
  have kk : ∀ r, r + 1 < G.length → sumTo G.length (fun c => b1 (oddT G (up v r) c v)) = 2 * (k - m) := by
    intro r hr
    have hu : up v r < G.length := up_len hr
    have e := xor_sum hG hn hu hv (up_ne v r)
    have f := sum_flip (fun c => (gn G (up v r)).testBit c != (gn G v).testBit c) ((gn G (up v r)).testBit v) G.length
    rw [show sumTo G.length (fun c => b1 (oddT G (up v r) c v)) = sumTo G.length (fun c => b1 (((gn G (up v r)).testBit c != (gn G v).testBit c) != (gn G (up v r)).testBit v)) from
      sumTo_congr fun c hc => by unfold oddT; rw [(hG.2.2 c hc).2.2 v hv], f]
    cases hb : (gn G (up v r)).testBit v with
    | true => rw [hb] at e; simp only [if_true] at e ⊢; omega
    | false => rw [hb] at e; simp at e ⊢; omega
  have cc : ∀ r s, r + 1 < G.length → s + 1 < G.length → s < r → sumTo G.length (fun c => b1 (oddT G (up v r) c v && oddT G (up v s) c v)) + (if oddT G (up v r) (up v s) v then 2 * m else m) = (if oddT G (up v r) (up v s) v then k + l else k) := by
    intro r s hr hs hrs
    have hu : up v r < G.length := up_len hr
    have hw : up v s < G.length := up_len hs
    have hne : up v r ≠ up v s := by have := up_mono (v := v) hrs; omega
    have e := xor_sum hG hn hu hw hne
    have x := sum_xor (fun c => oddT G (up v r) c v) (fun c => oddT G (up v s) c v) G.length
    have f := sum_flip (fun c => (gn G (up v r)).testBit c != (gn G (up v s)).testBit c) ((gn G (up v r)).testBit v != (gn G (up v s)).testBit v) G.length
    rw [kk r hr, kk s hs, show sumTo G.length (fun c => b1 (oddT G (up v r) c v != oddT G (up v s) c v)) = sumTo G.length (fun c => b1 (((gn G (up v r)).testBit c != (gn G (up v s)).testBit c) != ((gn G (up v r)).testBit v != (gn G (up v s)).testBit v))) from
      sumTo_congr fun c _ => by
        unfold oddT
        cases (gn G (up v r)).testBit c <;> cases (gn G (up v s)).testBit c <;> cases (gn G c).testBit v <;> cases (gn G (up v r)).testBit v <;> cases (gn G (up v s)).testBit v <;> rfl, f] at x
    have ho : oddT G (up v r) (up v s) v = (((gn G (up v r)).testBit (up v s)) != ((gn G (up v r)).testBit v != (gn G (up v s)).testBit v)) := by
      unfold oddT
      cases (gn G (up v r)).testBit (up v s) <;> cases (gn G (up v r)).testBit v <;> cases (gn G (up v s)).testBit v <;> rfl
    rw [ho]
    generalize ((gn G (up v r)).testBit v != (gn G (up v s)).testBit v) = q at *
    cases hb : (gn G (up v r)).testBit (up v s) <;> cases q <;> rw [hb] at e <;> simp at e x ⊢ <;> omega
  have yes : ∀ r s, r < (aloneL G v).length → s < r → (gn (aloneL G v) r).testBit s = true → pop (gn (aloneL G v) r &&& gn (aloneL G v) s) + 2 * m = k + l := by
    intro r s hr hs hb
    rw [alone_bit hG hv (by omega) (by omega)] at hb
    have := cc r s (by omega) (by omega) hs
    rw [hb] at this
    rw [alone_common hG hv h2 (by omega) (by omega)]
    simpa using this
  have no : ∀ r s, r < (aloneL G v).length → s < r → (gn (aloneL G v) r).testBit s = false → pop (gn (aloneL G v) r &&& gn (aloneL G v) s) + m = k := by
    intro r s hr hs hb
    rw [alone_bit hG hv (by omega) (by omega)] at hb
    have := cc r s (by omega) (by omega) hs
    rw [hb] at this
    rw [alone_common hG hv h2 (by omega) (by omega)]
    simpa using this
  have pp : ∀ r, r < (aloneL G v).length → pop (gn (aloneL G v) r) = 2 * (k - m) := fun r hr => by
    rw [alone_pop hG hv h2 (by omega)]; exact kk r (by omega)
  refine ⟨⟨by omega, by omega, pp, fun r s hr hs hb => ?_, fun r s hr hs hb => ?_⟩, ?_⟩
  · have := yes r s hr hs hb; omega
  · have := no r s hr hs hb; omega
  · obtain ⟨i, j, hi, hj, hb⟩ := (alone_gr hG hv h2).edge (pp 0 (by omega)) (by omega)
    have := yes i j hi hj hb
    omega
end Go.Proofs.Ytijnpcehjnaaiaa
