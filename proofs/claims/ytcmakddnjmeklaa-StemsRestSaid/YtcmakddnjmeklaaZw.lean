/- Chapter 9, walks: is a world valid? -/
import Derived.Test.YtcmakddnjmeklaaZv
namespace Go.Proofs.Ytcmakddnjmeklaa
open Go.RowKit

/-- The first number below n with p, or -1. -/
def firstIx (p : Nat → Bool) (n : Nat) : Int := match (List.range n).find? p with
  | some i => (i : Int)
  | none => -1
theorem firstIx_hit {p : Nat → Bool} {n i : Nat} (hi : i < n) (h : p i = true) (hno : ∀ j, j < i → p j = false) : firstIx p n = i := by
  have : (List.range n).find? p = some i := by
    rw [List.find?_range_eq_some]
    exact ⟨h, List.mem_range.2 hi, fun j hj => by simp [hno j hj]⟩
  unfold firstIx; rw [this]
theorem firstIx_none {p : Nat → Bool} {n : Nat} (hno : ∀ j, j < n → p j = false) : firstIx p n = -1 := by
  have : (List.range n).find? p = none := by
    rw [List.find?_eq_none]
    intro x hx
    simp [hno x (List.mem_range.1 hx)]
  unfold firstIx; rw [this]
theorem firstIx_any (p : Nat → Bool) (n : Nat) : decide (0 ≤ firstIx p n) = (List.range n).any p := by
  unfold firstIx
  cases h : (List.range n).find? p with
  | none =>
    rw [List.find?_eq_none] at h
    have : (List.range n).any p = false := by
      rw [List.any_eq_false]; exact h
    rw [this]; rfl
  | some i =>
    have h1 := List.find?_some h
    have h2 := List.mem_of_find?_eq_some h
    have : (List.range n).any p = true := List.any_eq_true.2 ⟨i, h2, h1⟩
    rw [this]; simp
theorem firstIx_bd (p : Nat → Bool) (n : Nat) : -1 ≤ firstIx p n ∧ firstIx p n ≤ n := by
  unfold firstIx
  cases h : (List.range n).find? p with
  | none => simp
  | some i => have := List.mem_range.1 (List.mem_of_find?_eq_some h); simp; omega

set_option maxHeartbeats 400000 in
theorem idxA_go (w : World) (x : Option Addr) (n c : Nat) (A : List Ac) (hA : AcSl w x n c A) (f : FuncId) (caps : Array Value) (p : Nat → Bool) (hcf : ∀ (args : Array Value) (w : World), (callFunc f args).run Try.prog w = .ok (.enter f args) w)
    (hcall : ∀ (w' : World) (i : Nat) (z : Option Addr) (k q : Nat), Below w.heap.size w w' → i < n → Sl w' z k q (ac A i).o → Calls Try.prog f (#[av (ac A i).g z k q] ++ caps) w' fun e w'' => e = .returned (.bool (p i)) ∧ Below w'.heap.size w' w'') :
    Calls Try.prog 51 #[.slice x n c, .func (Fn.func f) #[] caps] w fun e w' => e = .returned (.int .i64 (firstIx p n)) ∧ Below w.heap.size w w' := by
  have HC := Lib.hid hcall
  have HA := Lib.hid hA
  have hcap := hA.2.cap
  unfold maxLen at hcap
  clear hcall hA
  go_enter Try.func51, Try.ntmps51
  go_wp2
  go_loopw [8] (fun t wr => ∃ i : Nat, i ≤ n ∧ t = .int .i64 i ∧ Hid (∀ j, j < i → p j = false) ∧ Below w.heap.size w wr) (fun t _ => n - (intOf t).toNat)
  case atStart => exact ⟨0, by omega, rfl, Lib.hid (fun j hj => by omega), Below.refl _ _⟩
  case round =>
    obtain ⟨i, hi, rfl, HP, hB⟩ := hrel
    by_cases hl : i < n
    · obtain ⟨b, off, rfl, hb, hc⟩ := (HA.out.mono hB).at (by omega)
      obtain ⟨eg, z, k, q, eo, hS⟩ := hc i hl
      have HS := Lib.hid hS
      clear hc hS
      have HCC := Lib.hid (HC.out wr i z k q hB hl HS.out)
      generalize (ac A i).g = gg at *
      go_wp2_with fail
      refine HCC.out.mono ?_
      rintro e w2 ⟨rfl, hb2⟩
      cases hp : p i with
      | true =>
        have HF := Lib.hid (firstIx_hit hl hp HP.out)
        clear hp
        go_wp2
        go_ret
        rw [HF.out]
        exact ⟨rfl, btr hB hb2⟩
      | false =>
        have HP2 := Lib.hid (show ∀ j, j < i + 1 → p j = false from fun j hj => by
          by_cases e : j = i
          · rw [e]; exact hp
          · exact HP.out j (by omega))
        clear hp
        go_wp2
        go_roundw
        case rel => exact ⟨i + 1, by omega, by go_num, HP2, btr hB hb2⟩
        case measure => simp [intOf]; omega
    · obtain rfl : i = n := by omega
      have HF := Lib.hid (firstIx_none HP.out)
      go_wp2
      go_ret
      rw [HF.out]
      exact ⟨rfl, hB⟩

set_option maxHeartbeats 400000 in
theorem idxL_go (w : World) (x : Option Addr) (n c : Nat) (A : List (List Ac)) (hA : A2Sl w x n c A) (f : FuncId) (caps : Array Value) (p : Nat → Bool) (hcf : ∀ (args : Array Value) (w : World), (callFunc f args).run Try.prog w = .ok (.enter f args) w)
    (hcall : ∀ (w' : World) (i : Nat) (z : Option Addr) (k q : Nat), Below w.heap.size w w' → i < n → AcSl w' z k q (acl A i) → Calls Try.prog f (#[.slice z k q] ++ caps) w' fun e w'' => e = .returned (.bool (p i)) ∧ Below w'.heap.size w' w'') :
    Calls Try.prog 93 #[.slice x n c, .func (Fn.func f) #[] caps] w fun e w' => e = .returned (.int .i64 (firstIx p n)) ∧ Below w.heap.size w w' := by
  have HC := Lib.hid hcall
  have HA := Lib.hid hA
  have hcap := hA.2.cap
  unfold maxLen at hcap
  clear hcall hA
  go_enter Try.func93, Try.ntmps93
  go_wp2
  go_loopw [8] (fun t wr => ∃ i : Nat, i ≤ n ∧ t = .int .i64 i ∧ Hid (∀ j, j < i → p j = false) ∧ Below w.heap.size w wr) (fun t _ => n - (intOf t).toNat)
  case atStart => exact ⟨0, by omega, rfl, Lib.hid (fun j hj => by omega), Below.refl _ _⟩
  case round =>
    obtain ⟨i, hi, rfl, HP, hB⟩ := hrel
    by_cases hl : i < n
    · obtain ⟨b, off, rfl, hb, hc⟩ := (HA.out.mono hB).at (by omega)
      obtain ⟨z, k, q, eo, hS⟩ := hc i hl
      have HS := Lib.hid hS
      clear hc hS
      have HCC := Lib.hid (HC.out wr i z k q hB hl HS.out)
      go_wp2_with fail
      refine HCC.out.mono ?_
      rintro e w2 ⟨rfl, hb2⟩
      cases hp : p i with
      | true =>
        have HF := Lib.hid (firstIx_hit hl hp HP.out)
        clear hp
        go_wp2
        go_ret
        rw [HF.out]
        exact ⟨rfl, btr hB hb2⟩
      | false =>
        have HP2 := Lib.hid (show ∀ j, j < i + 1 → p j = false from fun j hj => by
          by_cases e : j = i
          · rw [e]; exact hp
          · exact HP.out j (by omega))
        clear hp
        go_wp2
        go_roundw
        case rel => exact ⟨i + 1, by omega, by go_num, HP2, btr hB hb2⟩
        case measure => simp [intOf]; omega
    · obtain rfl : i = n := by omega
      have HF := Lib.hid (firstIx_none HP.out)
      go_wp2
      go_ret
      rw [HF.out]
      exact ⟨rfl, hB⟩

theorem cfA_go (w : World) (x : Option Addr) (n c : Nat) (A : List Ac) (hA : AcSl w x n c A) (f : FuncId) (caps : Array Value) (p : Nat → Bool) (hcf : ∀ (args : Array Value) (w : World), (callFunc f args).run Try.prog w = .ok (.enter f args) w)
    (hcall : ∀ (w' : World) (i : Nat) (z : Option Addr) (k q : Nat), Below w.heap.size w w' → i < n → Sl w' z k q (ac A i).o → Calls Try.prog f (#[av (ac A i).g z k q] ++ caps) w' fun e w'' => e = .returned (.bool (p i)) ∧ Below w'.heap.size w' w'') :
    Calls Try.prog 81 #[.slice x n c, .func (Fn.func f) #[] caps] w fun e w' => e = .returned (.bool ((List.range n).any p)) ∧ Below w.heap.size w w' := by
  have HC := Lib.hid (idxA_go w x n c A hA f caps p hcf hcall)
  have HF := Lib.hid (firstIx_any p n)
  clear hcall hA
  go_enter Try.func81, Try.ntmps81
  go_wp2_with fail
  refine HC.out.mono ?_
  rintro e w2 ⟨rfl, hb2⟩
  generalize firstIx p n = F at *
  go_wp2
  go_ret
  rw [← HF.out]
  exact ⟨rfl, hb2⟩
theorem cfL_go (w : World) (x : Option Addr) (n c : Nat) (A : List (List Ac)) (hA : A2Sl w x n c A) (f : FuncId) (caps : Array Value) (p : Nat → Bool) (hcf : ∀ (args : Array Value) (w : World), (callFunc f args).run Try.prog w = .ok (.enter f args) w)
    (hcall : ∀ (w' : World) (i : Nat) (z : Option Addr) (k q : Nat), Below w.heap.size w w' → i < n → AcSl w' z k q (acl A i) → Calls Try.prog f (#[.slice z k q] ++ caps) w' fun e w'' => e = .returned (.bool (p i)) ∧ Below w'.heap.size w' w'') :
    Calls Try.prog 88 #[.slice x n c, .func (Fn.func f) #[] caps] w fun e w' => e = .returned (.bool ((List.range n).any p)) ∧ Below w.heap.size w w' := by
  have HC := Lib.hid (idxL_go w x n c A hA f caps p hcf hcall)
  have HF := Lib.hid (firstIx_any p n)
  clear hcall hA
  go_enter Try.func88, Try.ntmps88
  go_wp2_with fail
  refine HC.out.mono ?_
  rintro e w2 ⟨rfl, hb2⟩
  generalize firstIx p n = F at *
  go_wp2
  go_ret
  rw [← HF.out]
  exact ⟨rfl, hb2⟩

/-! ### every -/
theorem cf_evA (args : Array Value) (w : World) : (callFunc 82 args).run Try.prog w = .ok (.enter 82 args) w := by kernel_rfl
theorem cf_evL (args : Array Value) (w : World) : (callFunc 89 args).run Try.prog w = .ok (.enter 89 args) w := by kernel_rfl

theorem evA1_go (w : World) (g : Int) (z : Option Addr) (k q pk : Nat) (f : FuncId) (caps : Array Value) (r : Bool) (hcf : ∀ (args : Array Value) (w : World), (callFunc f args).run Try.prog w = .ok (.enter f args) w)
    (hp : w.heap[pk]? = some (.cells #[.func (Fn.func f) #[] caps] 87 (0, 0)))
    (hcall : ∀ w' : World, Below w.heap.size w w' → Calls Try.prog f (#[av g z k q] ++ caps) w' fun e w'' => e = .returned (.bool r) ∧ Below w'.heap.size w' w'') :
    Calls Try.prog 82 #[av g z k q, .pointer (some ⟨pk, 0, none⟩)] w fun e w' => e = .returned (.bool (!r)) ∧ Below w.heap.size w w' := by
  have HC := Lib.hid hcall
  have ck := one_atB hp
  have zk := lt_of_block hp
  clear hcall hp
  go_enter Try.func82, Try.ntmps82
  go_wp2_with fail
  refine (HC.out _ (bal (Below.refl _ _) _)).mono ?_
  rintro e w2 ⟨rfl, hb2⟩
  go_wp2
  go_ret
  exact ⟨rfl, btr (bal (Below.refl _ _) _) hb2⟩
theorem evL1_go (w : World) (z : Option Addr) (k q pk : Nat) (f : FuncId) (caps : Array Value) (r : Bool) (hcf : ∀ (args : Array Value) (w : World), (callFunc f args).run Try.prog w = .ok (.enter f args) w)
    (hp : w.heap[pk]? = some (.cells #[.func (Fn.func f) #[] caps] 107 (0, 0)))
    (hcall : ∀ w' : World, Below w.heap.size w w' → Calls Try.prog f (#[.slice z k q] ++ caps) w' fun e w'' => e = .returned (.bool r) ∧ Below w'.heap.size w' w'') :
    Calls Try.prog 89 #[.slice z k q, .pointer (some ⟨pk, 0, none⟩)] w fun e w' => e = .returned (.bool (!r)) ∧ Below w.heap.size w w' := by
  have HC := Lib.hid hcall
  have ck := one_atB hp
  have zk := lt_of_block hp
  clear hcall hp
  go_enter Try.func89, Try.ntmps89
  go_wp2_with fail
  refine (HC.out _ (Below.refl _ _)).mono ?_
  rintro e w2 ⟨rfl, hb2⟩
  go_wp2
  go_ret
  exact ⟨rfl, hb2⟩

theorem not_any (p : Nat → Bool) (n : Nat) : (!(List.range n).any fun i => !p i) = (List.range n).all p := by
  rw [Bool.eq_iff_iff]; simp
theorem evA_go (w : World) (x : Option Addr) (n c : Nat) (A : List Ac) (hA : AcSl w x n c A) (f : FuncId) (caps : Array Value) (p : Nat → Bool) (hcf : ∀ (args : Array Value) (w : World), (callFunc f args).run Try.prog w = .ok (.enter f args) w)
    (hcall : ∀ (w' : World) (i : Nat) (z : Option Addr) (k q : Nat), Below w.heap.size w w' → i < n → Sl w' z k q (ac A i).o → Calls Try.prog f (#[av (ac A i).g z k q] ++ caps) w' fun e w'' => e = .returned (.bool (p i)) ∧ Below w'.heap.size w' w'') :
    Calls Try.prog 61 #[.slice x n c, .func (Fn.func f) #[] caps] w fun e w' => e = .returned (.bool ((List.range n).all p)) ∧ Below w.heap.size w w' := by
  have hmf : ∀ (fn : Fn) (first cap : Array Value) (w : World), (Instr.makeFunc fn first cap).run Try.prog w = .ok (.func fn first cap) w := fun _ _ _ _ => rfl
  have HN := Lib.hid (not_any p n)
  have hb0 := bal (Below.refl w.heap.size w) (.cells #[.func (Fn.func f) #[] caps] 87)
  have HC := Lib.hid (cfA_go (w.alloc (.cells #[.func (Fn.func f) #[] caps] 87)) x n c A (hA.mono hb0) 82 #[.pointer (some ⟨w.heap.size, 0, none⟩)] (fun i => !p i) cf_evA
    (fun w' i z k q hb hi hS => evA1_go w' _ z k q w.heap.size f caps (p i) hcf (persist (new_at _ _) hb) (fun w'' hb'' => hcall w'' i z k q (btr (btr hb0 hb) hb'') hi (hS.mono hb''))))
  have HB := Lib.hid hb0
  clear hcall hA hb0
  go_enter Try.func61, Try.ntmps61
  go_wp2_with fail
  refine HC.out.mono ?_
  rintro e w2 ⟨rfl, hb2⟩
  go_wp2
  go_ret
  rw [← HN.out]
  exact ⟨rfl, btr HB.out hb2⟩
theorem evL_go (w : World) (x : Option Addr) (n c : Nat) (A : List (List Ac)) (hA : A2Sl w x n c A) (f : FuncId) (caps : Array Value) (p : Nat → Bool) (hcf : ∀ (args : Array Value) (w : World), (callFunc f args).run Try.prog w = .ok (.enter f args) w)
    (hcall : ∀ (w' : World) (i : Nat) (z : Option Addr) (k q : Nat), Below w.heap.size w w' → i < n → AcSl w' z k q (acl A i) → Calls Try.prog f (#[.slice z k q] ++ caps) w' fun e w'' => e = .returned (.bool (p i)) ∧ Below w'.heap.size w' w'') :
    Calls Try.prog 75 #[.slice x n c, .func (Fn.func f) #[] caps] w fun e w' => e = .returned (.bool ((List.range n).all p)) ∧ Below w.heap.size w w' := by
  have hmf : ∀ (fn : Fn) (first cap : Array Value) (w : World), (Instr.makeFunc fn first cap).run Try.prog w = .ok (.func fn first cap) w := fun _ _ _ _ => rfl
  have HN := Lib.hid (not_any p n)
  have hb0 := bal (Below.refl w.heap.size w) (.cells #[.func (Fn.func f) #[] caps] 107)
  have HC := Lib.hid (cfL_go (w.alloc (.cells #[.func (Fn.func f) #[] caps] 107)) x n c A (hA.mono hb0) 89 #[.pointer (some ⟨w.heap.size, 0, none⟩)] (fun i => !p i) cf_evL
    (fun w' i z k q hb hi hS => evL1_go w' z k q w.heap.size f caps (p i) hcf (persist (new_at _ _) hb) (fun w'' hb'' => hcall w'' i z k q (btr (btr hb0 hb) hb'') hi (hS.mono hb''))))
  have HB := Lib.hid hb0
  clear hcall hA hb0
  go_enter Try.func75, Try.ntmps75
  go_wp2_with fail
  refine HC.out.mono ?_
  rintro e w2 ⟨rfl, hb2⟩
  go_wp2
  go_ret
  rw [← HN.out]
  exact ⟨rfl, btr HB.out hb2⟩
end Go.Proofs.Ytcmakddnjmeklaa
