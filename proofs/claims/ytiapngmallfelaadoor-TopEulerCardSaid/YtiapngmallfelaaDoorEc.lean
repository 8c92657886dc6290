
/- rooks: hit; the closure of Hits; an append that tells where it went. -/
import Derived.Test.YtiapngmallfelaaDoorEb
import Derived.Test.YtiapngmallfelaaDoorPure
namespace Go.Proofs.YtiapngmallfelaaDoor
open Go.RowKit
set_option linter.unusedSimpArgs false
def ints (G : List Nat) : List Int := G.map (fun x : Nat => (x : Int))
def gn (G : List Nat) (i : Nat) : Nat := G.getD i 0
theorem nth_ints (G : List Nat) (i : Nat) : nth (ints G) i = (gn G i : Int) := by
  simp only [nth, ints, gn, List.getD_eq_getElem?_getD, List.getElem?_map]
  cases G[i]? <;> rfl
theorem ints_length (G : List Nat) : (ints G).length = G.length := by simp [ints]
theorem ints_app (A B : List Nat) : ints (A ++ B) = ints A ++ ints B := by simp [ints]
def hitN (B l : List Nat) : Nat → Nat
  | 0 => 0
  | i + 1 => hitN B l i + bt (gn B i) (gn l i)
theorem hitN_le (B l : List Nat) (i : Nat) : hitN B l i ≤ i := by
  induction i with
  | zero => simp [hitN]
  | succ i ih => have := bt_le (gn B i) (gn l i); simp only [hitN]; omega
set_option maxHeartbeats 1000000 in
theorem hit_go (w : World) (ab al : Option Addr) (nb cb nl cl : Nat) (B l : List Nat) (hB : Sl w ab nb cb (ints B)) (hl : Sl w al nl cl (ints l)) (hle : nl ≤ nb) (hb6 : nb ≤ 6) (hBv : ∀ i, gn B i < 64) (hlv : ∀ i, gn l i < 6) :
    Calls Tryd.prog 13 #[.slice ab nb cb, .slice al nl cl] w fun e w' => e = .returned (.int .i64 ((hitN B l nl : Nat) : Int)) ∧ w = w' := by
  have HB := Lib.hid hB
  have HL := Lib.hid hl
  have HBV := Lib.hid hBv
  have HLV := Lib.hid hlv
  clear hB hl hBv hlv
  go_enter Tryd.func13, Tryd.ntmps13
  go_wp2
  go_loop [5, 10] (fun s t => ∃ k : Nat, k ≤ nl ∧ t = .int .i64 k ∧ s = .int .i64 ((hitN B l k : Nat) : Int)) (fun _ t => nl - (intOf t).toNat)
  case atStart => exact ⟨0, by omega, rfl, rfl⟩
  case round =>
    obtain ⟨k, hk, rfl, rfl⟩ := hrel
    have h0 := hitN_le B l k
    by_cases hlk : k < nl
    · obtain ⟨b1, o1, rfl, hb1, hc1⟩ := HB.out.at (by omega)
      obtain ⟨b2, o2, rfl, hb2, hc2⟩ := HL.out.at (by omega)
      have c1 := hc1 k (by omega)
      have c2 := hc2 k hlk
      rw [nth_ints] at c1 c2
      have v1 := HBV.out k
      have v2 := HLV.out k
      have hbit := bits_bt (gn B k) (gn l k) (by omega)
      have hle1 := bt_le (gn B k) (gn l k)
      have HT := Lib.hid (show hitN B l (k + 1) = hitN B l k + bt (gn B k) (gn l k) from rfl)
      clear hc1 hc2
      generalize hitN B l k = s0 at *
      generalize bt (gn B k) (gn l k) = s1 at *
      generalize gn B k = x at *
      generalize gn l k = y at *
      go_wp2
      go_round
      case rel => exact ⟨k + 1, by omega, by go_num, by rw [HT.out]; go_num⟩
      case measure => simp [intOf]; omega
    · obtain rfl : k = nl := by omega
      go_wp2
      go_ret
      exact ⟨rfl, rfl⟩
/-! ### append of one element: where it went -/
theorem run_app1 {w : World} (base : Nat) (v : Value) (n : Nat) (L : List Int) (hown : w.ownsRow base 3 1 v n (L.map (Value.int .i64))) (p : Nat) (x : Int) (hx : w.cell? ⟨p, 0, none⟩ = some (.int .i64 x)) (hb : n ≤ 1000000) (hbase : base ≤ w.heap.size) :
    ∃ v' w', (Builtin.append_ #[23, 23] 23 #[v, .slice (some ⟨p, 0, none⟩) 1 1]).run Tryd.prog w = .ok v' w' ∧ w'.ownsRow base 3 1 v' (n + 1) ((L ++ [x]).map (Value.int .i64)) ∧ w.grownBy w' v.ownBlock ∧ (v'.ownBlock = v.ownBlock ∨ v'.ownBlock = some w.heap.size) := by
  obtain ⟨i0, hi, hz0, hz1, hz2⟩ := info_parts infoInt
  have ht : Tryd.prog.underlying 23 = some (.slice 3) := Tryd.underlying23
  have hnews : ∀ j u, [Value.int .i64 x][j]? = some u → w.cell? ((⟨p, 0, none⟩ : Addr).add j) = some u := by
    intro j u hj
    cases j with
    | zero => simp at hj; subst hj; exact hx
    | succ j => simp at hj
  obtain ⟨v', w', hr, h1, h2, _⟩ := run_append_own (P := Tryd.prog) w base 23 23 3 i0 (.int .i64 0) 1 8 ht hi hz0 hz1 hz2 rfl (by decide) v n _ hown ⟨p, 0, none⟩ 1 1 [.int .i64 x] rfl hnews (by simp [Value.oneCell']) (by unfold maxLen; omega) (by omega) hbase
  refine ⟨v', w', hr, by simpa using h1, h2, ?_⟩
  rcases hown.2 with ⟨rfl, rfl⟩ | ⟨g, cap, cur, rfl, hbg, hg, hnc, hcm, hcs, htake⟩
  · have h3 := run_append_nil (P := Tryd.prog) w 23 23 3 i0 (.int .i64 0) ht hi hz0 ⟨p, 0, none⟩ 1 1 [.int .i64 x] (by rw [hz1]; rfl) hnews (by omega) (by omega) (by rw [hz2]; omega)
    rw [h3] at hr
    injection hr with hr1 hr2
    exact .inr (by rw [← hr1]; rfl)
  · by_cases hroom : n + 1 ≤ cap
    · have h3 := run_append_room (P := Tryd.prog) w 23 23 3 i0 ht hi g n cap cur hg ⟨p, 0, none⟩ 1 1 [.int .i64 x] (by rw [hz1]; rfl) hnews (by simp [Value.oneCell']) hroom (by rw [hz1, hcs]; simp; omega)
      rw [h3] at hr
      injection hr with hr1 hr2
      exact .inl (by rw [← hr1]; rfl)
    · have h3 := run_append_grow (P := Tryd.prog) w 23 23 3 i0 (.int .i64 0) ht hi hz0 ⟨g, 0, none⟩ n cap _ (by rw [hown.1, hz1]) (hown.cells (g := g) rfl) ⟨p, 0, none⟩ 1 1 [.int .i64 x] (by rw [hz1]; rfl) hnews (by omega) (by omega) (by rw [hz2]; exact growslice_fits (by omega) (by omega))
      rw [h3] at hr
      injection hr with hr1 hr2
      exact .inr (by rw [← hr1]; rfl)
theorem wpListIn_app1 {F : Fence} {m : Nat} {w : World} {ops : Array Oper} {rest : List Oper} {o : Oper} {a : Act} {Q : Exit → Act → World → Prop} (hg : o.guard = none) (s x : Operand)
    (hop : o.op = Op.call { callee := Callee.builtin Builtin.append, args := #[s, x], argTypes := #[23, 23] }) (hty : o.type = 23)
    (base : Nat) (v : Value) (n : Nat) (L : List Int) (hs : a.eval s = v) (hown : w.ownsRow base 3 1 v n (L.map (Value.int .i64))) (p : Nat) (y : Int) (hx : a.eval x = .slice (some ⟨p, 0, none⟩) 1 1) (hc : w.cell? ⟨p, 0, none⟩ = some (.int .i64 y)) (hb : n ≤ 1000000) (hbase : base ≤ w.heap.size)
    (hK : ∀ v' w', w'.ownsRow base 3 1 v' (n + 1) ((L ++ [y]).map (Value.int .i64)) → w.grownBy w' v.ownBlock → (v'.ownBlock = v.ownBlock ∨ v'.ownBlock = some w.heap.size) → wpListIn F m Tryd.prog ops Q rest (a.put o.dst v') w') :
    wpListIn F m Tryd.prog ops Q (o :: rest) a w := by
  refine wpListIn_plain hg fun K hK' => ?_
  obtain ⟨v', w', hrun, r1, r2, r3⟩ := run_app1 base v n L hown p y hc hb hbase
  unfold Oper.wpIn
  refine ⟨?_, ?_⟩
  · simp [Oper.about, hop, resolve, Target.leads, Sem.run_pure]
  · rw [Oper.semAt_plain F _ _ (by rw [hop]; intro c hc'; cases hc')]
    simp [execOp, hop, hty, resolve, invoke, builtin, hs, hx, hrun, Result.andThen]
    exact hK' _ _ (hK v' w' r1 r2 r3)
end Go.Proofs.YtiapngmallfelaaDoor
