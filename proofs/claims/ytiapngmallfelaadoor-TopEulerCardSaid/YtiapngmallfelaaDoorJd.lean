
/- mirror: the numbers of the elements; rows of clones. -/
import Derived.Test.YtiapngmallfelaaDoorJc
namespace Go.Proofs.YtiapngmallfelaaDoor
open Go.RowKit
set_option linter.unusedSimpArgs false
theorem own_grownI {w wr wn : World} {v : Value} {n : Nat} {xs : List Value} (hown : wr.ownsRow w.heap.size 3 1 v n xs) (hbw : Below w.heap.size w wr) (x : Obj) (hg : (wr.alloc x).grownBy wn v.ownBlock) : Below w.heap.size w wn := by
  have hb := hbw.alloc hbw.size x
  refine ⟨hg.os.trans hb.os, hg.tape.trans hb.tape, hg.output.trans hb.output, Nat.le_trans hb.size hg.size, fun k hk => (hg.block k (Nat.lt_of_lt_of_le hk hb.size) fun e => ?_).trans (hb.block k hk)⟩
  rcases hown.2 with ⟨rfl, _⟩ | ⟨g, cap, cur, rfl, hbg, _⟩
  · simp [Value.ownBlock] at e
  · simp [Value.ownBlock] at e
    omega
set_option maxHeartbeats 1000000 in
theorem numbers_go (w : World) (tb n K : Nat) (W N : List (List Nat)) (hT : TblAt w tb n W N) (ok : OkT n K W N) (ord : okOrd K W = true) (hK : 1 ≤ K) (hK2 : K ≤ 1000) :
    Calls Tryd.prog 16 #[.pointer (some ⟨tb, 0, none⟩)] w fun e w' => ∃ a c, e = .returned (.slice a K c) ∧ Sl w' a K c (ints (List.range K)) ∧ Below w.heap.size w w' := by
  obtain ⟨aw, cw, an, cn, gm, h1, h2, h3⟩ := hT
  have hwl := ok.wl
  have k2 : w.cell? ⟨tb, 1 + 1, none⟩ = some (.slice aw K cw) := by rw [cells_at h1, ← hwl]; rfl
  have hcw := h2.2.cap
  rw [hwl] at hcw
  unfold maxLen at hcw
  have hlt := lt_of_block h1
  have HT := Lib.hid (show TblAt w tb n W N from ⟨aw, cw, an, cn, gm, h1, h2, h3⟩)
  have HOK := Lib.hid ok
  have HORD := Lib.hid ord
  clear h1 h2 h3 ok ord hwl
  go_enter Tryd.func16, Tryd.ntmps16
  go_wp2
  go_loopw [3, 10] (fun v t wr => ∃ i : Nat, i ≤ K ∧ t = .int .i64 i ∧ Hid (wr.ownsRow w.heap.size 3 1 v i ((ints (List.range i)).map (Value.int .i64))) ∧ Hid (Below w.heap.size w wr)) (fun _ t _ => K - (intOf t).toNat)
  case atStart => exact ⟨0, by omega, rfl, ⟨rfl, .inl ⟨rfl, rfl⟩⟩, Below.refl _ _⟩
  case round =>
    obtain ⟨i, hi, rfl, HOW, HB⟩ := hrel
    by_cases hiK : i < K
    · have hsz := HB.out.size
      go_wp2_with (at_builtin; refine wpList_app rfl _ _ 23 rfl Tryd.underlying23 w.heap.size _ i _ rfl (HOW.out.alloc _) (some ⟨wr.heap.size, 0, none⟩) 1 1 [((i : Nat) : Int)] rfl (sl_one _ _) (by omega) (by simp; omega) ?_; intro v' wn hown' hgrow)
      go_roundw
      case rel =>
        refine ⟨i + 1, by omega, by go_num, ?_, own_grownI HOW.out HB.out _ hgrow⟩
        show wn.ownsRow _ _ _ _ _ _
        rw [List.range_succ, ints_app]
        exact hown'
      case measure => simp [intOf]; omega
    · obtain rfl : i = K := by omega
      rcases HOW.out.2 with ⟨_, h0⟩ | ⟨g, cap, cur, rfl, hg0, hg, hnc, hcm, hcs, htake⟩
      · omega
      have HS := Lib.hid (sorted_go w wr tb n i W N HT.out HOK.out HORD.out HB.out g cap cur hg0 hg (fun j hj => by
        have h4 : ((ints (List.range i)).map (Value.int .i64))[j]? = some (.int .i64 (j : Int)) := by simp [ints, hj]
        rw [← htake, List.getElem?_take] at h4
        split at h4
        · simpa using h4
        · cases h4) hK hK2)
      clear hg htake HOW
      go_wp2_with fail
      refine HS.out.mono ?_
      rintro e w' ⟨rfl, h6, h7, h8⟩
      have H6 := Lib.hid h6
      have H8 := Lib.hid h8
      clear h6 h8
      go_wp2
      go_ret
      exact ⟨_, _, rfl, ⟨by simp [ints], hnc, hcm, .inr (.inr ⟨g, 0, rfl, h7, fun j hj => by rw [H8.out j hj, nth_ints]; simp [gn, hj]⟩)⟩, H6.out⟩
/-! ### rows of clones -/
def LS (w : World) (M : List (List Nat)) (v : Value) (V : World) : Prop := ∃ cls, Below w.heap.size w V ∧ (∀ k, k < w.heap.size → cls k = 0) ∧ RowsC V cls 1 v M
theorem LS.start (w : World) : LS w [] (.slice none 0 0) w := ⟨fun _ => 0, Below.refl _ _, fun _ _ => rfl, [], ⟨⟨rfl, .inl ⟨rfl, rfl⟩⟩, fun g hg => by simp [Value.ownBlock] at hg⟩, fun i hi => by simp at hi⟩
theorem LS.fresh {w V V' : World} {M : List (List Nat)} {v : Value} (h : LS w M v V) (hb : Below V.heap.size V V') : ∃ cls, Below w.heap.size w V' ∧ (∀ k, k < w.heap.size → cls k = 0) ∧ RowsC V' cls 1 v M ∧ ∀ k, V.heap.size ≤ k → cls k = 0 := by
  obtain ⟨cls, h1, h2, h3⟩ := h
  have hc : ∀ c k, k < V.heap.size → cls k = c → ext cls V.heap.size 0 k = c := fun c k hk e => (ext_lt hk).trans e
  exact ⟨ext cls V.heap.size 0, (St.of_below (p := fun _ => false) (cls := cls) hb).below rfl h2 h1, fun k hk => hc 0 k (Nat.lt_of_lt_of_le hk h1.size) (h2 k hk), h3.keep (St.of_below (p := fun _ => false) hb) rfl rfl (hc 1) (hc 0), fun k hk => ext_ge hk⟩
theorem LS.snoc {w V V1 : World} {M : List (List Nat)} {v : Value} (h : LS w M v V) (hb : Below V.heap.size V V1) {a : Option Addr} {m cp : Nat} {x : List Nat} (hbb : ∀ b o, a = some ⟨b, o, none⟩ → V.heap.size ≤ b) (hx : Sl V1 a m cp (ints x)) {pe : Nat} (hp : V1.heap[pe]? = some (.cells #[.slice a m cp] 23 (0, 0))) (hl : M.length < 1000) :
    ∃ v' V', (Builtin.append_ #[29, 29] 29 #[v, .slice (some ⟨pe, 0, none⟩) 1 1]).run Tryd.prog V1 = .ok v' V' ∧ (∃ a k c, v' = .slice a k c) ∧ LS w (M ++ [x]) v' V' := by
  obtain ⟨cls, h1, h2, ⟨Es, hE, hM⟩, hcb⟩ := h.fresh hb
  have hnews : ∀ j u, [Value.slice a m cp][j]? = some u → V1.cell? ((⟨pe, 0, none⟩ : Addr).add j) = some u := by
    intro j u hj
    cases j with
    | zero => simp at hj; subst hj; exact one_atB hp
    | succ j => simp at hj
  obtain ⟨v', V', hr, h3, h4, h5⟩ := run_appW (z := .slice none 0 0) (t := 29) (by kernel_rfl) infoSl rfl (by omega) hE.1 ⟨pe, 0, none⟩ 1 1 [.slice a m cp] rfl hnews (by simp [Value.oneCell']) (by omega) (by omega) (by omega)
  have hs : St (· == 1) cls V1 V' := St.app hE.2 h4
  have hlt : ∀ g, v.ownBlock = some g → g < V1.heap.size := fun g hg => (hE.1.lt g hg).2
  have hc : ∀ c k, k < V1.heap.size → cls k = c → ext cls V1.heap.size 1 k = c := fun c k hk e => (ext_lt hk).trans e
  refine ⟨v', V', hr, own_slice h3 |>.imp fun a ⟨c, e⟩ => ⟨_, c, e⟩, ext cls V1.heap.size 1, hs.below rfl h2 h1, fun k hk => hc 0 k (Nat.lt_of_lt_of_le hk h1.size) (h2 k hk), Es ++ [.slice a m cp], by rw [List.length_append]; exact own_new (V := V1) hE.2 hlt h3 h5, fun i hi => ?_⟩
  rw [List.length_append] at hi
  have hi' : i < M.length + 1 := hi
  rw [wdW_snoc M x i hi']
  have hEl : Es.length = M.length := by have := hE.1.1; omega
  by_cases hil : i < M.length
  · obtain ⟨a', m', cp', e1, e2, e3⟩ := hM i hil
    rw [if_pos hil]
    refine ⟨a', m', cp', by rw [List.getElem?_append_left (by omega)]; exact e1, e2.keepC hs rfl e3, fun hm bb o' e => ?_⟩
    obtain ⟨b', o'', e', hb', _⟩ := e2.at hm
    rw [e'] at e
    simp only [Option.some.injEq, Addr.mk.injEq, and_true] at e
    obtain ⟨rfl, rfl⟩ := e
    exact hc 0 _ hb' (e3 hm _ _ e')
  · rw [if_neg hil]
    refine ⟨a, m, cp, by rw [List.getElem?_append_right (by omega), show i - Es.length = 0 by omega]; rfl, hx.keepC hs rfl (fun hm bb o' e => hcb _ (hbb _ _ e)), fun hm bb o' e => ?_⟩
    obtain ⟨b', o'', e', hb', _⟩ := hx.at hm
    rw [e'] at e
    simp only [Option.some.injEq, Addr.mk.injEq, and_true] at e
    obtain ⟨rfl, rfl⟩ := e
    exact hc 0 _ hb' (hcb _ (hbb _ _ e'))
end Go.Proofs.YtiapngmallfelaaDoor
