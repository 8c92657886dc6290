
/- A region that draws its order inside a round of a range over a function: the plain law serves. -/
import Derived.Test.YtiapngmallfelaaDoorHe
import Derived.RangeFuncCalls
import Derived.OrdersIn
import Derived.TacticsIn
namespace Go.Proofs.YtiapngmallfelaaDoor
open Go.RowKit
section
variable {P : Program} {ops : Array Oper} {Q : Exit → Act → World → Prop}
/-- Only the ordinary end. -/
def OnNormal (R : Act → World → Prop) : Exit → Act → World → Prop
  | .normal, a, w => R a w
  | _, _, _ => False
theorem onNormal_out {R : Act → World → Prop} : ¬ LetsOut (OnNormal R) := fun ⟨_, _, h⟩ => h
def noDefer (ops : Array Oper) : Bool := ops.toList.all fun o => match o.op with
  | .defer _ => false
  | _ => true
theorem noDefer_at (h : noDefer ops = true) {i : Nat} {o : Oper} (ho : ops[i]? = some o) : ∀ c, o.op ≠ .defer c := by
  intro c hc
  have h1 := List.all_eq_true.1 h o (by
    rw [← Array.getElem?_toList] at ho
    exact List.mem_of_getElem? ho)
  simp [hc] at h1
theorem wp_round {o : Oper} {l n : Nat} {K : Act → World → Prop} {a : Act} {w : World} (hd : ∀ c, o.op ≠ .defer c) (h : o.wp P a w K Q) : o.wpIn (Fence.wide.inRound l) n P a w K Q := by
  unfold Oper.wpIn
  refine ⟨fun _ _ => trivial, ?_⟩
  rw [Fence.inRound_round, Oper.semAt_some l _ o hd]
  unfold Oper.wp at h
  generalize (execOp a.eval o).run P w = r at *
  cases r with
  | ok x w' =>
    cases x with
    | enter f args => exact ⟨fun h => (by cases h), CallsIn.inRound l (callsIn_wide.2 h)⟩
    | row row args =>
      refine ⟨fun h => (by cases h), fun c cs _ => ?_⟩
      obtain ⟨v, w', r, s⟩ := h c cs
      exact ⟨v, w', r, stepsIn_wide.2 s⟩
    | round _ _ _ _ _ => exact h.elim
    | _ => exact h
  | halt x w' => cases x <;> exact h
theorem wpOps_round {l n : Nat} (hd : noDefer ops = true) (hL : ¬ LetsOut Q) : ∀ (t : List Nat) (a : Act) (w : World), wpOps P ops Q t a w → wpOpsIn (Fence.wide.inRound l) n P ops Q t a w
  | [], _, _, h => h
  | i :: t, a, w, h => by
    rw [wpOpsIn_cons]
    rw [wpOps_cons] at h
    unfold wpOp at h
    unfold wpOpIn
    split
    · rename_i hi
      simp only [hi] at h
      exact wpOps_round hd hL t _ _ h
    · rename_i o ho
      simp only [ho] at h
      split
      · rename_i hw
        simp only [hw, if_true] at h
        rcases h with h | h
        · exact Oper.wpIn_mono (fun a' w' h' => wpOps_round hd hL t a' w' h') (wp_round (noDefer_at hd ho) h)
        · exact absurd h.2 hL
      · rename_i hw
        simp only [hw] at h
        exact ⟨fun _ _ => trivial, wpOps_round hd hL t _ _ h⟩
theorem wpIn_round_any {l n id : Nat} {a : Act} {w : World} (hm : P.follows .mixedOrders = true) (hd : noDefer ops = true)
    (h : wpAny P .any ops (OnNormal (Q .normal)) ops.size (Array.replicate ops.size false) a w.drew) : (Code.region id ops true).wpIn (Fence.wide.inRound l) n P Q a w := by
  refine Code.wpIn_mono (Q := OnNormal (Q .normal)) (fun e a w he => ?_) (wpIn_region_draw fun t => ?_)
  · cases e with
    | normal => exact he
    | _ => exact he.elim
  · simp only [Region.schedule, hm, Bool.true_or, if_true]
    exact wpOps_round hd onNormal_out _ _ _ (wpAny_sound ops.size t _ a _ h)
theorem wpIn_round_F {S : World → Prop} {l n id : Nat} {a : Act} {w : World} (L : Nat) (hm : P.follows .mixedOrders = true) (hd : noDefer ops = true) (hS : S w.drew)
    (h : S w.drew → wpAnyF P .any ops (OnNormal (Q .normal)) S L ops.size (Array.replicate ops.size false) a w.drew) : (Code.region id ops true).wpIn (Fence.wide.inRound l) n P Q a w :=
  wpIn_round_any hm hd (wpAny_of_F _ _ _ _ (h hS))
end
section
variable {P : Program} {ops : Array Oper} {Q : Exit → Act → World → Prop} {md : Region.Mode} {S : World → Prop} {L : Nat}
theorem wpAnyF_br {rs : List Nat} {fuel : Nat} {listed : Array Bool} {a : Act} {w : World} (hr : Region.ready md ops listed = rs) (hne : rs ≠ [])
    (h : ∀ i ∈ rs, wpOp P ops Q i (fun a' w' => (i ≠ L → S w') ∧ wpAnyF P md ops Q S L fuel (listed.setIfInBounds i true) a' w') a w) : wpAnyF P md ops Q S L (fuel + 1) listed a w :=
  ⟨fun h0 => absurd (hr ▸ h0) hne, by rw [hr]; exact h⟩
end
end Go.Proofs.YtiapngmallfelaaDoor
