/- Chapter 9, walks: sum, Sum, list, act. -/
import Derived.Test.YtcmakddnjmeklaaZb
import Derived.BigRegion
namespace Go.Proofs.Ytcmakddnjmeklaa
open Go.RowKit

theorem isum_append (l m : List Int) : isum (l ++ m) = isum l + isum m := by
  induction l with
  | nil => simp [isum]
  | cons x l ih => simp [isum, ih, Int.add_assoc]
theorem take_nth {l : List Int} {k : Nat} (h : k < l.length) : l.take (k + 1) = l.take k ++ [nth l k] := by
  rw [List.take_succ_eq_append_getElem h, nth_of_lt h]
theorem isum_take {l : List Int} {k : Nat} (h : k < l.length) : isum (l.take (k + 1)) = isum (l.take k) + nth l k := by
  rw [take_nth h, isum_append]; simp [isum]
theorem isum_bound {l : List Int} {B : Int} (h : ∀ x ∈ l, 0 ≤ x ∧ x ≤ B) (_hB : 0 ≤ B) : 0 ≤ isum l ∧ isum l ≤ B * l.length := by
  induction l with
  | nil => simp [isum]
  | cons x l ih =>
    have h1 := h x (by simp)
    have h2 := ih fun y hy => h y (by simp [hy])
    simp only [isum, List.length_cons, Int.natCast_add, Int.natCast_one, Int.mul_add, Int.mul_one]
    omega
theorem nth_mem {l : List Int} {k : Nat} (h : k < l.length) : nth l k ∈ l := by rw [nth_of_lt h]; exact List.getElem_mem h
theorem isum_take_bound {l : List Int} (h : ∀ x ∈ l, 0 ≤ x ∧ x ≤ 3) (k : Nat) : 0 ≤ isum (l.take k) ∧ isum (l.take k) ≤ 3 * l.length := by
  have h1 := isum_bound (l := l.take k) (B := 3) (fun x hx => h x (List.mem_of_mem_take hx)) (by omega)
  have h2 : (l.take k).length ≤ l.length := List.length_take_le' ..
  omega

set_option maxHeartbeats 400000 in
theorem sum_go (w : World) (g : Int) (a : Option Addr) (n c : Nat) (l : List Int) (hs : Sl w a n c l) (hn : n ≤ 8) (hl : ∀ x ∈ l, 0 ≤ x ∧ x ≤ 3) :
    Calls Try.prog 54 #[av g a n c] w fun e w' => e = .returned (.int .i64 (isum l)) ∧ Below w.heap.size w w' := by
  have hlen := hs.len
  have HS := Lib.hid hs
  have HL := Lib.hid hl
  have HN := Lib.hid hlen
  clear hs hl hlen
  go_enter Try.func54, Try.ntmps54
  go_wp2
  go_loopw [3, 9] (fun s t wr => ∃ k : Nat, k ≤ n ∧ t = .int .i64 k ∧ s = .int .i64 (isum (l.take k)) ∧ Below w.heap.size w wr) (fun _ t _ => n - (intOf t).toNat)
  case atStart => exact ⟨0, by omega, rfl, by simp [isum], bal (Below.refl _ _) _⟩
  case round =>
    obtain ⟨k, hk, rfl, rfl, hB⟩ := hrel
    by_cases hlk : k < n
    · obtain ⟨b, off, rfl, hb, hc⟩ := (HS.out.mono hB).at (by omega)
      have hck := hc k hlk
      have h1 := isum_take_bound HL.out k
      have h2 := HL.out _ (nth_mem (l := l) (k := k) (by rw [HN.out]; exact hlk))
      have HT := Lib.hid (isum_take (l := l) (k := k) (by rw [HN.out]; exact hlk))
      have h3 : (l.length : Int) ≤ 8 := by rw [HN.out]; omega
      clear hc
      generalize isum (l.take k) = s0 at *
      generalize nth l k = x at *
      go_wp2
      go_roundw
      case rel => exact ⟨k + 1, by omega, by go_num, by rw [HT.out], hB⟩
      case measure => simp [intOf]; omega
    · obtain rfl : k = n := by omega
      go_wp2
      go_ret
      refine ⟨?_, hB⟩
      rw [List.take_of_length_le (by rw [HN.out]; omega)]; rfl

set_option maxHeartbeats 400000 in
theorem rsum_go (w : World) (a : Option Addr) (n c : Nat) (l : List Int) (hs : Sl w a n c l) (hn : n ≤ 8) (hl : ∀ x ∈ l, 0 ≤ x ∧ x ≤ 3) :
    Calls Try.prog 22 #[.slice a n c] w fun e w' => e = .returned (.int .i64 (isum l)) ∧ w = w' := by
  have hlen := hs.len
  have HS := Lib.hid hs
  have HL := Lib.hid hl
  have HN := Lib.hid hlen
  clear hs hl hlen
  go_enter Try.func22, Try.ntmps22
  go_wp2
  go_loop [3, 8] (fun s t => ∃ k : Nat, k ≤ n ∧ t = .int .i64 k ∧ s = .int .i64 (isum (l.take k))) (fun _ t => n - (intOf t).toNat)
  case atStart => exact ⟨0, by omega, rfl, by simp [isum]⟩
  case round =>
    obtain ⟨k, hk, rfl, rfl⟩ := hrel
    by_cases hlk : k < n
    · obtain ⟨b, off, rfl, hb, hc⟩ := HS.out.at (by omega)
      have hck := hc k hlk
      have h1 := isum_take_bound HL.out k
      have h2 := HL.out _ (nth_mem (l := l) (k := k) (by rw [HN.out]; exact hlk))
      have HT := Lib.hid (isum_take (l := l) (k := k) (by rw [HN.out]; exact hlk))
      have h3 : (l.length : Int) ≤ 8 := by rw [HN.out]; omega
      clear hc
      generalize isum (l.take k) = s0 at *
      generalize nth l k = x at *
      go_wp2
      go_round
      case rel => exact ⟨k + 1, by omega, by go_num, by rw [HT.out]⟩
      case measure => simp [intOf]; omega
    · obtain rfl : k = n := by omega
      go_wp2
      go_ret
      refine ⟨?_, rfl⟩
      rw [List.take_of_length_le (by rw [HN.out]; omega)]; rfl

theorem list_go (w : World) (a : Option Addr) (n p : Nat) (l : List Int) (hs : Sl w a n p l) :
    Calls Try.prog 17 #[.slice a n p] w fun e w' => GivesSl w (l.take 7) e w' := by
  have hp : n ≤ p := hs.2.1
  by_cases h : n ≤ 7
  · have e : l.take 7 = l := List.take_of_length_le (by have := hs.len; omega)
    rw [e]
    clear e
    go_enter Try.func17, Try.ntmps17
    go_wp2_with (go_at_call 37; refine (clone_go _ _ _ _ _ hs (by omega)).mono ?_; rintro e w' ⟨a', n', p', rfl, hown, hb⟩)
    go_ret
    exact ⟨a', n', p', rfl, hown, hb⟩
  · have ht := hs.take 7 (by omega)
    go_enter Try.func17, Try.ntmps17
    go_wp2_with (go_at_call 37; refine (clone_go _ _ _ _ _ ht (by omega)).mono ?_; rintro e w' ⟨a', n', p', rfl, hown, hb⟩)
    go_ret
    exact ⟨a', n', p', rfl, hown, hb⟩

/-- What a plan does in a state. -/
def pact (A : List (List Ac)) (p : List Int) (s : Nat) : Ac := ac (acl A s) (nth p s).toNat

set_option maxHeartbeats 400000 in
theorem act_go (w : World) (a b : Int) (x y : Option Addr) (n c m d s : Nat) (A : List (List Ac)) (p : List Int) (hA : A2Sl w x n c A) (hp : Sl w y m d p) (hsn : s < n) (hsm : s < m) (h0 : 0 ≤ nth p s) (h1 : nth p s < (acl A s).length) :
    Calls Try.prog 65 #[wv a b x n c, .slice y m d, .int .i64 s] w fun e w' => ∃ z k q, e = .returned (av (pact A p s).g z k q) ∧ Sl w' z k q (pact A p s).o ∧ Below w.heap.size w w' := by
  obtain ⟨b1, o1, rfl, hb1, hc1⟩ := hA.at (by omega)
  obtain ⟨a2, n2, c2, e2, h2⟩ := hc1 s hsn
  have hl2 := h2.1
  obtain ⟨t, ht⟩ : ∃ t : Nat, nth p s = (t : Int) := ⟨(nth p s).toNat, by omega⟩
  obtain ⟨b2, o2, rfl, hb2, hc2⟩ := h2.at (by omega)
  obtain ⟨eg, z, k, q, eo, hS⟩ := hc2 t (by omega)
  obtain ⟨b3, o3, rfl, hb3, hc3⟩ := hp.at (by omega)
  have e3 := hc3 s hsm
  rw [ht] at e3
  have hP : pact A p s = ac (acl A s) t := by unfold pact; rw [ht]; rfl
  rw [hP]
  have HP := Lib.hid hS
  have hcn : n ≤ c := hA.2.cap.1
  have hdm : m ≤ d := hp.cap.1
  have hcn2 := h2.2.cap
  have htn : t < n2 := by omega
  have q1 := hA.2.cap.2
  have q2 := hp.cap.2
  unfold maxLen at q1 q2 hcn2
  clear hA hp hc1 hc2 hc3 h2 hS hP ht h0 h1
  generalize (ac (acl A s) t).g = gg at *
  go_enter Try.func65, Try.ntmps65
  go_wp2
  go_region
  go_wp2
  have hB := (bal (bal (Below.refl w.heap.size w) (.cells #[.int .i64 a, .int .i64 b, .slice (some ⟨b1, o1, none⟩) n c] 33)) (.cells #[.int .i64 gg, .slice z k q] 50)).drew
  exact bodyPost_ret (v := av gg z k q) (by simp [results, Try.results65, go_sem]) rfl ⟨z, k, q, rfl, HP.out.mono hB, hB⟩
end Go.Proofs.Ytcmakddnjmeklaa
