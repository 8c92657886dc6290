/- Chapter 9, walks: the world's valid, isPlan. -/
import Derived.Test.YtcmakddnjmeklaaZw
namespace Go.Proofs.Ytcmakddnjmeklaa
open Go.RowKit

theorem cf_v1 (args : Array Value) (w : World) : (callFunc 76 args).run Try.prog w = .ok (.enter 76 args) w := by kernel_rfl
theorem cf_v11 (args : Array Value) (w : World) : (callFunc 77 args).run Try.prog w = .ok (.enter 77 args) w := by kernel_rfl

theorem v11_go (w : World) (g : Int) (z : Option Addr) (k q pk n : Nat) (l : List Int) (hs : Sl w z k q l) (h1 : 1 ≤ n) (hn : n ≤ 4) (hp : w.heap[pk]? = some (.cells #[.int .i64 n] 3 (0, 0))) :
    Calls Try.prog 77 #[av g z k q, .pointer (some ⟨pk, 0, none⟩)] w fun e w' => e = .returned (.bool (vAc n ⟨g, l⟩)) ∧ Below w.heap.size w w' := by
  have ck := one_atB hp
  have zk := lt_of_block hp
  have HS := Lib.hid (hs.mono (bal (Below.refl w.heap.size w) (.cells #[.int .i64 g, .slice z k q] 50)))
  clear hp hs
  go_enter Try.func77, Try.ntmps77
  go_wp2_with fail
  refine (avalid_go _ g z k q n l HS.out h1 hn).mono ?_
  rintro e w2 ⟨rfl, hb2⟩
  go_wp2
  go_ret
  exact ⟨rfl, btr (bal (Below.refl _ _) _) hb2⟩

theorem all_ac (A : List Ac) (p : Ac → Bool) : ((List.range A.length).all fun i => p (ac A i)) = A.all p := by
  rw [Bool.eq_iff_iff, List.all_eq_true, List.all_eq_true]
  constructor
  · intro h x hx
    obtain ⟨i, hi, rfl⟩ := List.getElem_of_mem hx
    have := h i (List.mem_range.2 hi)
    simpa [ac, hi] using this
  · intro h i hi
    have hi' := List.mem_range.1 hi
    have : ac A i = A[i] := by simp [ac, hi']
    rw [this]; exact h _ (List.getElem_mem hi')
theorem all_acl (A : List (List Ac)) (p : List Ac → Bool) : ((List.range A.length).all fun i => p (acl A i)) = A.all p := by
  rw [Bool.eq_iff_iff, List.all_eq_true, List.all_eq_true]
  constructor
  · intro h x hx
    obtain ⟨i, hi, rfl⟩ := List.getElem_of_mem hx
    have := h i (List.mem_range.2 hi)
    simpa [acl, hi] using this
  · intro h i hi
    have hi' := List.mem_range.1 hi
    have : acl A i = A[i] := by simp [acl, hi']
    rw [this]; exact h _ (List.getElem_mem hi')
theorem vAcs_len {n : Nat} {A : List Ac} (h : ¬ (1 ≤ A.length ∧ A.length ≤ 3)) : vAcs n A = false := by
  unfold vAcs
  by_cases h1 : 1 ≤ A.length
  · have h2 : ¬ A.length ≤ 3 := fun h2 => h ⟨h1, h2⟩
    simp [h2]
  · simp [h1]
theorem vAcs_all {n : Nat} {A : List Ac} (h1 : 1 ≤ A.length) (h2 : A.length ≤ 3) : vAcs n A = (List.range A.length).all fun i => vAc n (ac A i) := by
  rw [all_ac]; unfold vAcs; simp [h1, h2]

theorem v1_go (w : World) (x : Option Addr) (m c pk n : Nat) (A : List Ac) (hA : AcSl w x m c A) (h1 : 1 ≤ n) (hn : n ≤ 4) (hp : w.heap[pk]? = some (.cells #[.int .i64 n] 3 (0, 0))) :
    Calls Try.prog 76 #[.slice x m c, .pointer (some ⟨pk, 0, none⟩)] w fun e w' => e = .returned (.bool (vAcs n A)) ∧ Below w.heap.size w w' := by
  have hmf : ∀ (fn : Fn) (first cap : Array Value) (w : World), (Instr.makeFunc fn first cap).run Try.prog w = .ok (.func fn first cap) w := fun _ _ _ _ => rfl
  have hlen := hA.1
  by_cases q1 : 1 ≤ m
  · have d1 : decide ((1 : Int) ≤ (m : Int)) = true := by simp; omega
    by_cases q2 : m ≤ 3
    · have d2 : decide ((m : Int) ≤ 3) = true := by simp; omega
      have HV := Lib.hid (vAcs_all (n := n) (A := A) (by omega) (by omega))
      have HC := Lib.hid (evA_go w x m c A hA 77 #[.pointer (some ⟨pk, 0, none⟩)] (fun i => vAc n (ac A i)) cf_v11
        (fun w' i z k q hb hi hS => v11_go w' _ z k q pk n _ hS h1 hn (persist hp hb)))
      have HL := Lib.hid hlen
      clear hA hp hlen
      go_enter Try.func76, Try.ntmps76
      go_wp2_with fail
      refine HC.out.mono ?_
      rintro e w2 ⟨rfl, hb2⟩
      go_wp2
      go_ret
      rw [HV.out, HL.out]
      exact ⟨rfl, hb2⟩
    · have d2 : decide ((m : Int) ≤ 3) = false := by simp; omega
      have HV := Lib.hid (vAcs_len (n := n) (A := A) (by omega))
      clear hA hp hlen
      go_enter Try.func76, Try.ntmps76
      go_wp2
      go_ret
      rw [HV.out]
      exact ⟨rfl, Below.refl _ _⟩
  · have d1 : decide ((1 : Int) ≤ (m : Int)) = false := by simp; omega
    have HV := Lib.hid (vAcs_len (n := n) (A := A) (by omega))
    clear hA hp hlen
    go_enter Try.func76, Try.ntmps76
    go_wp2
    go_ret
    rw [HV.out]
    exact ⟨rfl, Below.refl _ _⟩

def vHead (W : Wd) : Prop := 1 ≤ W.acts.length ∧ W.acts.length ≤ 4 ∧ 1 ≤ W.a ∧ W.a < W.b ∧ W.b ≤ 4
theorem vWd_no {W : Wd} (h : ¬ vHead W) : vWd W = false := by
  unfold vHead at h
  rw [Bool.eq_false_iff]
  intro q
  simp only [vWd, Bool.and_eq_true, decide_eq_true_eq] at q
  exact h ⟨q.1.1.1.1.1, q.1.1.1.1.2, q.1.1.1.2, q.1.1.2, q.1.2⟩
theorem vWd_all {W : Wd} (h : vHead W) : vWd W = (List.range W.acts.length).all fun i => vAcs W.acts.length (acl W.acts i) := by
  rw [all_acl]
  obtain ⟨h1, h2, h3, h4, h5⟩ := h
  simp [vWd, h1, h2, h3, h4, h5]
theorem new_at2 (w : World) (o p : Obj) : ((w.alloc o).alloc p).heap[w.heap.size + 1]? = some p := by
  have := new_at (w.alloc o) p
  rwa [show (w.alloc o).heap.size = w.heap.size + 1 by simp] at this
theorem bbox {w w' : World} {o p : Obj} (h : Below ((w.alloc o).alloc p).heap.size ((w.alloc o).alloc p) w') : Below w.heap.size w w' := btr (bal (bal (Below.refl _ _) _) _) h

set_option maxHeartbeats 1000000 in
theorem wvalid_go (w : World) (x : Option Addr) (n c : Nat) (W : Wd) (hA : A2Sl w x n c W.acts) :
    Calls Try.prog 49 #[wv W.a W.b x n c] w fun e w' => e = .returned (.bool (vWd W)) ∧ Below w.heap.size w w' := by
  have hmf : ∀ (fn : Fn) (first cap : Array Value) (w : World), (Instr.makeFunc fn first cap).run Try.prog w = .ok (.func fn first cap) w := fun _ _ _ _ => rfl
  have hlen := hA.1
  obtain ⟨a, ha⟩ : ∃ a, W.a = a := ⟨_, rfl⟩
  obtain ⟨b, hb⟩ : ∃ b, W.b = b := ⟨_, rfl⟩
  by_cases hv : vHead W
  · have HV := Lib.hid (vWd_all hv)
    obtain ⟨q1, q2, q3, q4, q5⟩ := hv
    rw [ha] at q3 q4
    rw [hb] at q4 q5
    rw [hlen] at q1 q2 HV
    rw [ha, hb]
    have d1 : decide ((n : Int) < 1) = false := by simp; omega
    have d2 : decide (4 < n) = false := by simp; omega
    have d3 : decide (a < 1) = false := by simp; omega
    have d4 : decide (b ≤ a) = false := by simp; omega
    have d5 : decide (4 < b) = false := by simp; omega
    have hb1 := bal (bal (Below.refl w.heap.size w) (.cells #[.int .i64 a, .int .i64 b, .slice x n c] 33)) (.cells #[.int .i64 n] 3)
    have HC := Lib.hid (evL_go _ x n c W.acts (hA.mono hb1) 76 #[.pointer (some ⟨w.heap.size + 1, 0, none⟩)] (fun i => vAcs n (acl W.acts i)) cf_v1
      (fun w' i z k q hb hi hS => v1_go w' z k q (w.heap.size + 1) n _ hS q1 q2 (persist (new_at2 _ _ _) hb)))
    have HB := Lib.hid hb1
    clear hA hlen hb1 ha hb
    go_enter Try.func49, Try.ntmps49
    go_wp2_with fail
    refine HC.out.mono ?_
    rintro e w2 ⟨rfl, hb2⟩
    go_wp2
    go_ret
    rw [HV.out]
    exact ⟨rfl, btr HB.out hb2⟩
  · have HV := Lib.hid (vWd_no hv)
    have hv' : ¬ (1 ≤ n ∧ n ≤ 4 ∧ 1 ≤ a ∧ a < b ∧ b ≤ 4) := by unfold vHead at hv; rwa [hlen, ha, hb] at hv
    rw [ha, hb]
    clear hA hlen ha hb hv
    by_cases q1 : 1 ≤ n
    · have d1 : decide ((n : Int) < 1) = false := by simp; omega
      by_cases q2 : n ≤ 4
      · have d2 : decide (4 < n) = false := by simp; omega
        by_cases q3 : 1 ≤ a
        · have d3 : decide (a < 1) = false := by simp; omega
          by_cases q4 : a < b
          · have d4 : decide (b ≤ a) = false := by simp; omega
            have d5 : decide (4 < b) = true := by simp; omega
            clear hv'
            go_enter Try.func49, Try.ntmps49
            go_wp2
            go_ret
            rw [HV.out]
            exact ⟨rfl, bal (bal (Below.refl _ _) _) _⟩
          · have d4 : decide (b ≤ a) = true := by simp; omega
            clear hv'
            go_enter Try.func49, Try.ntmps49
            go_wp2
            go_ret
            rw [HV.out]
            exact ⟨rfl, bal (bal (Below.refl _ _) _) _⟩
        · have d3 : decide (a < 1) = true := by simp; omega
          clear hv'
          go_enter Try.func49, Try.ntmps49
          go_wp2
          go_ret
          rw [HV.out]
          exact ⟨rfl, bal (bal (Below.refl _ _) _) _⟩
      · have d2 : decide (4 < n) = true := by simp; omega
        clear hv'
        go_enter Try.func49, Try.ntmps49
        go_wp2
        go_ret
        rw [HV.out]
        exact ⟨rfl, bal (bal (Below.refl _ _) _) _⟩
    · have d1 : decide ((n : Int) < 1) = true := by simp; omega
      clear hv'
      go_enter Try.func49, Try.ntmps49
      go_wp2
      go_ret
      rw [HV.out]
      exact ⟨rfl, bal (bal (Below.refl _ _) _) _⟩

/-! ### plans -/
def planOk (A : List (List Ac)) (p : List Int) : Bool := decide (p.length = A.length) && (List.range A.length).all fun s => decide (0 ≤ nth p s) && decide (nth p s < (acl A s).length)
def isPlanB (W : Wd) (p : List Int) : Bool := vWd W && planOk W.acts p
theorem planOk_len {A : List (List Ac)} {p : List Int} (h : p.length ≠ A.length) : planOk A p = false := by unfold planOk; simp [h]
theorem planOk_bad {A : List (List Ac)} {p : List Int} {s : Nat} (hs : s < A.length) (h : ¬ (0 ≤ nth p s ∧ nth p s < (acl A s).length)) : planOk A p = false := by
  rw [Bool.eq_false_iff]
  intro q
  unfold planOk at q
  rw [Bool.and_eq_true, List.all_eq_true] at q
  have := q.2 s (List.mem_range.2 hs)
  simp only [Bool.and_eq_true, decide_eq_true_eq] at this
  exact h this
theorem planOk_yes {A : List (List Ac)} {p : List Int} (hl : p.length = A.length) (h : ∀ s, s < A.length → 0 ≤ nth p s ∧ nth p s < (acl A s).length) : planOk A p = true := by
  unfold planOk
  rw [Bool.and_eq_true, List.all_eq_true]
  refine ⟨by simpa using hl, fun s hs => ?_⟩
  have := h s (List.mem_range.1 hs)
  simp [this]
theorem planOk_at {A : List (List Ac)} {p : List Int} (h : planOk A p = true) : p.length = A.length ∧ ∀ s, s < A.length → 0 ≤ nth p s ∧ nth p s < (acl A s).length := by
  unfold planOk at h
  rw [Bool.and_eq_true, List.all_eq_true] at h
  refine ⟨by simpa using h.1, fun s hs => ?_⟩
  have := h.2 s (List.mem_range.2 hs)
  simpa using this

set_option maxHeartbeats 1000000 in
theorem isplan_go (w : World) (x y : Option Addr) (n c m d : Nat) (W : Wd) (p : List Int) (hA : A2Sl w x n c W.acts) (hp : Sl w y m d p) :
    Calls Try.prog 46 #[wv W.a W.b x n c, .slice y m d] w fun e w' => e = .returned (.bool (isPlanB W p)) ∧ Below w.heap.size w w' := by
  have hb0 := bal (Below.refl w.heap.size w) (.cells #[.int .i64 W.a, .int .i64 W.b, .slice x n c] 33)
  have HB0 := Lib.hid hb0
  have HA := Lib.hid (hA.mono hb0)
  have HS := Lib.hid (hp.mono hb0)
  have HL := Lib.hid hA.1
  have HP := Lib.hid hp.len
  have hcm := hp.cap
  have hcn := hA.2.cap
  unfold maxLen at hcm hcn
  clear hb0 hA hp
  cases hv : vWd W with
  | false =>
    have HV := Lib.hid (show isPlanB W p = false by unfold isPlanB; rw [hv]; rfl)
    have hv2 := Lib.hid hv
    clear hv
    go_enter Try.func46, Try.ntmps46
    go_wp2_with fail
    refine (wvalid_go _ x n c W HA.out).mono ?_
    rintro e w2 ⟨rfl, hb2⟩
    rw [hv2.out]
    go_wp2
    go_ret
    rw [HV.out]
    exact ⟨rfl, btr HB0.out hb2⟩
  | true =>
    have hv2 := Lib.hid hv
    have hn4 : n ≤ 4 := by
      unfold vWd at hv
      simp only [Bool.and_eq_true, decide_eq_true_eq] at hv
      have := HL.out
      omega
    clear hv
    by_cases q : m = n
    · subst q
      have d1 : ((m : Int) != (m : Int)) = false := by simp
      go_enter Try.func46, Try.ntmps46
      have hzz := new_at w (.cells #[.int .i64 W.a, .int .i64 W.b, .slice x m c] 33)
      have HZ := Lib.hid hzz
      clear hzz
      go_wp2_with fail
      refine (wvalid_go _ x m c W HA.out).mono ?_
      rintro e w2 ⟨rfl, hb2⟩
      rw [hv2.out]
      have hz2 := persist HZ.out hb2
      have HZ2 := Lib.hid hz2
      have c2 : w2.cell? ⟨w.heap.size, 2, none⟩ = some (.slice x m c) := by rw [cells_at hz2]; rfl
      have z2 := lt_of_block hz2
      have HA2 := Lib.hid (HA.out.mono hb2)
      have HS2 := Lib.hid (HS.out.mono hb2)
      have HB2 := Lib.hid (btr HB0.out hb2)
      clear hz2 hb2 HZ HA HS HB0
      go_wp2
      go_loopw [20] (fun t wr => ∃ s : Nat, s ≤ m ∧ t = .int .i64 s ∧ Hid (∀ r, r < s → 0 ≤ nth p r ∧ nth p r < (acl W.acts r).length) ∧ w2 = wr) (fun t _ => m - (intOf t).toNat)
      case atStart => exact ⟨0, by omega, rfl, Lib.hid (fun r hr => by omega), by trivial⟩
      case round =>
        obtain ⟨s, hs, rfl, HR, rfl⟩ := hrel
        by_cases hsm : s < m
        · obtain ⟨b, off, rfl, hb, hc⟩ := HS2.out.at (by omega)
          have hcs := hc s hsm
          obtain ⟨b2, off2, rfl, hb2, hc2⟩ := HA2.out.at (by omega)
          obtain ⟨z, k, r, hcell, hZ⟩ := hc2 s hsm
          have hk := Lib.hid hZ.1
          have hkr := hZ.2.cap
          unfold maxLen at hkr
          obtain ⟨v, hv⟩ : ∃ v, nth p s = v := ⟨_, rfl⟩
          have HVV := Lib.hid hv
          rw [hv] at hcs
          clear hc hc2 hZ hv
          by_cases q1 : 0 ≤ v
          · have d2 : decide (v < 0) = false := by simp; omega
            by_cases q2 : v < (k : Int)
            · have d3 : decide ((k : Int) ≤ v) = false := by simp; omega
              go_wp2
              go_roundw
              case rel =>
                go_light
                refine ⟨s + 1, by omega, by go_num, Lib.hid (fun r hr => ?_), by trivial⟩
                by_cases e : r = s
                · subst e; rw [HVV.out, hk.out]; exact ⟨q1, q2⟩
                · exact HR.out r (by omega)
              case measure => simp [intOf]; omega
            · have d3 : decide ((k : Int) ≤ v) = true := by simp; omega
              have HV := Lib.hid (show isPlanB W p = false by
                unfold isPlanB; rw [planOk_bad (s := s) (by rw [HL.out]; exact hsm) (by rw [HVV.out, hk.out]; omega), Bool.and_false])
              go_wp2
              go_ret
              rw [HV.out]
              exact ⟨rfl, HB2.out⟩
          · have d2 : decide (v < 0) = true := by simp; omega
            have HV := Lib.hid (show isPlanB W p = false by
              unfold isPlanB; rw [planOk_bad (s := s) (by rw [HL.out]; exact hsm) (by rw [HVV.out, hk.out]; omega), Bool.and_false])
            go_wp2
            go_ret
            rw [HV.out]
            exact ⟨rfl, HB2.out⟩
        · obtain rfl : s = m := by omega
          have HV := Lib.hid (show isPlanB W p = true by
            unfold isPlanB; rw [hv2.out, planOk_yes (by rw [HL.out, HP.out]) (fun r hr => HR.out r (by rw [HL.out] at hr; exact hr))]; rfl)
          go_wp2
          go_ret
          rw [HV.out]
          exact ⟨rfl, HB2.out⟩
    · have d1 : ((m : Int) != (n : Int)) = true := by simp; omega
      have HV := Lib.hid (show isPlanB W p = false by
        unfold isPlanB; rw [planOk_len (by rw [HP.out, HL.out]; exact q), Bool.and_false])
      go_enter Try.func46, Try.ntmps46
      have hzz := new_at w (.cells #[.int .i64 W.a, .int .i64 W.b, .slice x n c] 33)
      have HZ := Lib.hid hzz
      clear hzz
      go_wp2_with fail
      refine (wvalid_go _ x n c W HA.out).mono ?_
      rintro e w2 ⟨rfl, hb2⟩
      rw [hv2.out]
      have hz2 := persist HZ.out hb2
      have c2 : w2.cell? ⟨w.heap.size, 2, none⟩ = some (.slice x n c) := by rw [cells_at hz2]; rfl
      have z2 := lt_of_block hz2
      have HB2 := Lib.hid (btr HB0.out hb2)
      clear hz2 hb2
      go_wp2
      go_ret
      rw [HV.out]
      exact ⟨rfl, HB2.out⟩
end Go.Proofs.Ytcmakddnjmeklaa
