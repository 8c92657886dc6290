/- Chapter 9: slices.Repeat of a fraction. -/
import Derived.Test.YtcmakddnjmeklaaZr
import Derived.Laws.CopyOwn
import Derived.Deep.RegionLaw
namespace Go.Proofs.Ytcmakddnjmeklaa
open Go.RowKit
set_option linter.unusedSimpArgs false

theorem run_copy2 (w : World) (dT sT ty elem : TypeId) (g o dLen dCap : Nat) (a : Addr) (sLen sCap n : Nat) (cur : Array Value) (t : TypeId) (cs : List Value) {z : Option Value} {bb : Nat}
    (hu : Try.prog.underlying dT = some (.slice elem)) (hs : (Try.prog.info? elem).map (fun i => (i.zero, i.size, i.bytes)) = some (z, 2, bb))
    (hg : w.heap[g]? = some (.cells cur t (0, 0))) (hm : Nat.min sLen dLen = n) (hn : cs.length = n * 2)
    (hsrc : ∀ j v, cs[j]? = some v → w.cell? (a.add j) = some v) (hfit : o + cs.length ≤ cur.size) (h1 : ∀ v ∈ cs, v.oneCell' = true) :
    (Builtin.copy_ #[dT, sT] ty #[.slice (some ⟨g, o, none⟩) dLen dCap, .slice (some a) sLen sCap]).run Try.prog w =
      .ok (goInt n) (w.setRow g (cur.toList.take o ++ cs ++ cur.toList.drop (o + cs.length)).toArray) := by
  have hl := run_loadCells_list (P := Try.prog) w a cs hsrc
  have hst := run_storeCells_at Try.prog g o t cs 0 cur w hg (by simpa using hfit) h1
  rw [hn] at hl
  cases hq : Try.prog.info? elem with
  | none => simp [hq] at hs
  | some i =>
    have hi : i.size = 2 := by simp [hq] at hs; exact hs.2.1
    simp [Builtin.copy_, run_underlying hu, Builtin.lenOf, Builtin.firstCells, sizeOf, typeInfo, hq, hi, hm, hl, hst]
/-- A row of m fractions, of which the first k are told. -/
def RepSt (w : World) (g m k : Nat) (f : Fr) : Prop :=
  ∃ cur : List Value, w.heap[g]? = some (.cells cur.toArray 53 (0, 0)) ∧ 2 * m ≤ cur.length ∧ ∀ i, i < k → cur[2 * i]? = some (.int .i64 f.n) ∧ cur[2 * i + 1]? = some (.int .i64 f.d)
def pairsL (f : Fr) : Nat → List Value
  | 0 => []
  | k + 1 => .int .i64 f.n :: .int .i64 f.d :: pairsL f k
theorem pairsL_len (f : Fr) : ∀ k, (pairsL f k).length = k * 2
  | 0 => rfl
  | k + 1 => by show (pairsL f k).length + 2 = _; rw [pairsL_len f k]; omega
theorem pairsL_at (f : Fr) : ∀ k i, i < k → (pairsL f k)[2 * i]? = some (.int .i64 f.n) ∧ (pairsL f k)[2 * i + 1]? = some (.int .i64 f.d)
  | 0, _, h => by omega
  | k + 1, 0, _ => ⟨rfl, rfl⟩
  | k + 1, i + 1, h => by
    have := pairsL_at f k i (by omega)
    rw [show 2 * (i + 1) = 2 * i + 1 + 1 by omega]
    exact this
theorem pairsL_mem {f : Fr} {v : Value} : ∀ k, v ∈ pairsL f k → v = .int .i64 f.n ∨ v = .int .i64 f.d
  | 0, h => by cases h
  | k + 1, h => by
    rcases List.mem_cons.1 h with h | h
    · exact .inl h
    · rcases List.mem_cons.1 h with h | h
      · exact .inr h
      · exact pairsL_mem k h
theorem rep_copy (w : World) (dT sT ty : TypeId) (g m k c od dLen dCap sb so sLen sCap : Nat) (f : Fr) (hu : Try.prog.underlying dT = some (.slice 53)) (h : RepSt w g m k f) (hod : od = 2 * k) (hc : Nat.min sLen dLen = c) (hk : k + c ≤ m)
    (hsrc : ∀ i, i < c → w.cell? ⟨sb, so + 2 * i, none⟩ = some (.int .i64 f.n) ∧ w.cell? ⟨sb, so + 2 * i + 1, none⟩ = some (.int .i64 f.d)) :
    ∃ w', (Builtin.copy_ #[dT, sT] ty #[.slice (some ⟨g, od, none⟩) dLen dCap, .slice (some ⟨sb, so, none⟩) sLen sCap]).run Try.prog w = .ok (goInt c) w' ∧ RepSt w' g m (k + c) f ∧ ∀ B w0, B ≤ g → Below B w0 w → Below B w0 w' := by
  obtain ⟨cur, hg, hl, hv⟩ := h
  subst hod
  have hlen := pairsL_len f c
  refine ⟨_, run_copy2 w dT sT ty _ g (2 * k) dLen dCap ⟨sb, so, none⟩ sLen sCap c cur.toArray _ (pairsL f c) hu infoFr hg hc hlen ?_ (by simp [hlen]; omega) ?_, ?_, ?_⟩
  · intro j v hj
    have hjl : j < c * 2 := by
      have := (List.getElem?_eq_some_iff.1 hj).1
      omega
    have hadd : (⟨sb, so, none⟩ : Addr).add j = ⟨sb, so + j, none⟩ := by unfold Addr.add; split <;> simp_all
    rw [hadd]
    have h1 := pairsL_at f c (j / 2) (by omega)
    have h2 := hsrc (j / 2) (by omega)
    rcases Nat.mod_two_eq_zero_or_one j with e | e
    · rw [show 2 * (j / 2) = j by omega] at h1 h2
      rw [h1.1] at hj
      rw [← hj]; exact h2.1
    · rw [show 2 * (j / 2) + 1 = j by omega, show so + 2 * (j / 2) + 1 = so + j by omega] at *
      rw [h1.2] at hj
      rw [← hj]; exact h2.2
  · intro v hv
    rcases pairsL_mem c hv with rfl | rfl <;> rfl
  · refine ⟨cur.take (2 * k) ++ pairsL f c ++ cur.drop (2 * k + (pairsL f c).length), setRow_heap w g _ _ _ _ hg, ?_, ?_⟩
    · simp [hlen]; omega
    · intro i hi
      have ht : (cur.take (2 * k)).length = 2 * k := by simp; omega
      by_cases hik : i < k
      · have := hv i hik
        rw [List.append_assoc]
        refine ⟨?_, ?_⟩
        · rw [List.getElem?_append_left (by omega), List.getElem?_take_of_lt (by omega)]; exact this.1
        · rw [List.getElem?_append_left (by omega), List.getElem?_take_of_lt (by omega)]; exact this.2
      · have h1 := pairsL_at f c (i - k) (by omega)
        refine ⟨?_, ?_⟩
        · rw [List.getElem?_append_left (by simp [hlen]; omega), List.getElem?_append_right (by omega), ht, show 2 * i - 2 * k = 2 * (i - k) by omega]; exact h1.1
        · rw [List.getElem?_append_left (by simp [hlen]; omega), List.getElem?_append_right (by omega), ht, show 2 * i + 1 - 2 * k = 2 * (i - k) + 1 by omega]; exact h1.2
  · intro B w0 hB hb
    exact below_setRow hb hB _
theorem wpList_rep {ops : Array Oper} {rest : List Oper} {o : Oper} {a : Act} {Q : Exit → Act → World → Prop} {w : World} (hgd : o.guard = none) (d s : Operand) (dT sT : TypeId)
    (ho : o.op = .call { callee := .builtin .copy, args := #[d, s], argTypes := #[dT, sT] }) (hu : Try.prog.underlying dT = some (.slice 53))
    (g m k c od dLen dCap sb so sLen sCap : Nat) (f : Fr) (hd : a.eval d = .slice (some ⟨g, od, none⟩) dLen dCap) (hs : a.eval s = .slice (some ⟨sb, so, none⟩) sLen sCap) (h : RepSt w g m k f) (hod : od = 2 * k) (hc : Nat.min sLen dLen = c) (hk : k + c ≤ m)
    (hsrc : ∀ i, i < c → w.cell? ⟨sb, so + 2 * i, none⟩ = some (.int .i64 f.n) ∧ w.cell? ⟨sb, so + 2 * i + 1, none⟩ = some (.int .i64 f.d))
    (hK : ∀ w', Hid (RepSt w' g m (k + c) f) → Hid (∀ B w0, B ≤ g → Below B w0 w → Below B w0 w') → wpList Try.prog ops Q rest (a.put o.dst (goInt c)) w') : wpList Try.prog ops Q (o :: rest) a w := by
  refine wpList_plain hgd fun K hK' => ?_
  obtain ⟨w', hrun, h1, h2⟩ := rep_copy w dT sT o.type g m k c od dLen dCap sb so sLen sCap f hu h hod hc hk hsrc
  unfold Oper.wp
  simp [execOp, ho, resolve, invoke, builtin, hd, hs, hrun, Result.andThen]
  exact hK' _ _ (hK w' (Lib.hid h1) (Lib.hid h2))
theorem step_rep {ops : Array Oper} {o : Oper} {a : Act} {K : Act → World → Prop} {Q : Exit → Act → World → Prop} {E : Prop} {w : World} (hgd : o.guard = none) (d s : Operand) (dT sT : TypeId)
    (ho : o.op = .call { callee := .builtin .copy, args := #[d, s], argTypes := #[dT, sT] }) (hu : Try.prog.underlying dT = some (.slice 53))
    (g m k c od dLen dCap sb so sLen sCap : Nat) (f : Fr) (hd : a.eval d = .slice (some ⟨g, od, none⟩) dLen dCap) (hs : a.eval s = .slice (some ⟨sb, so, none⟩) sLen sCap) (h : RepSt w g m k f) (hod : od = 2 * k) (hc : Nat.min sLen dLen = c) (hk : k + c ≤ m)
    (hsrc : ∀ i, i < c → w.cell? ⟨sb, so + 2 * i, none⟩ = some (.int .i64 f.n) ∧ w.cell? ⟨sb, so + 2 * i + 1, none⟩ = some (.int .i64 f.d))
    (hK : ∀ w', Hid (RepSt w' g m (k + c) f) → Hid (∀ B w0, B ≤ g → Below B w0 w → Below B w0 w') → K (a.put o.dst (goInt c)) w') :
    if Region.wanted o (yielded ops a.tmps) = true then Oper.wp Try.prog o a w K Q else E := by
  rw [if_pos (by simp [Region.wanted, hgd])]
  obtain ⟨w', hrun, h1, h2⟩ := rep_copy w dT sT o.type g m k c od dLen dCap sb so sLen sCap f hu h hod hc hk hsrc
  unfold Oper.wp
  simp [execOp, ho, resolve, invoke, builtin, hd, hs, hrun, Result.andThen]
  exact hK w' (Lib.hid h1) (Lib.hid h2)
theorem RepSt.cells {w : World} {g m k : Nat} {f : Fr} (h : RepSt w g m k f) {i : Nat} (hi : i < k) : w.cell? ⟨g, 2 * i, none⟩ = some (.int .i64 f.n) ∧ w.cell? ⟨g, 2 * i + 1, none⟩ = some (.int .i64 f.d) := by
  obtain ⟨cur, hg, _, hv⟩ := h
  have := hv i hi
  exact ⟨by rw [cells_at hg]; simpa using this.1, by rw [cells_at hg]; simpa using this.2⟩
set_option maxHeartbeats 1000000 in
theorem mulbits_go (w : World) (m : Nat) (hm : m ≤ 4) (hm1 : 1 ≤ m) : Calls Try.prog 84 #[.int .u64 1, .int .u64 m] w fun e w' => e = .returned (.tuple #[.int .u64 0, .int .u64 m]) ∧ ∃ k, w' = w.drewN k := by
  have : m = 1 ∨ m = 2 ∨ m = 3 ∨ m = 4 := by omega
  rcases this with rfl | rfl | rfl | rfl
  all_goals
    go_enter Try.func84, Try.ntmps84
    go_wp2
    go_ret2
    exact ⟨rfl, 0, rfl⟩
def GivesF (F : List Fr) (n : Nat) (w : World) (e : Ending) (w' : World) : Prop := ∃ a c, e = .returned (.slice a n c) ∧ FrSl w' a n c F ∧ Below w.heap.size w w'
theorem RepSt.sl {w : World} {g m c : Nat} {f : Fr} (h : RepSt w g m m f) (hc : m ≤ c) (hm : c ≤ maxLen) : FrSl w (some ⟨g, 0, none⟩) m c (List.replicate m f) := by
  refine ⟨by simp, hc, hm, .inr (.inr ⟨g, 0, rfl, ?_, fun i hi => ?_⟩)⟩
  · obtain ⟨cur, hg, _⟩ := h; exact lt_of_block hg
  · have h2 := h.cells hi
    have e : fr (List.replicate m f) i = f := by simp [fr, hi]
    rw [show 0 + i * 2 = 2 * i by omega]
    exact ⟨by rw [e]; exact h2.1, by rw [e]; exact h2.2⟩
theorem RepSt.mono {w w' : World} {g m k : Nat} {f : Fr} (h : RepSt w g m k f) (hb : Below w.heap.size w w') : RepSt w' g m k f := by
  obtain ⟨cur, hg, h2⟩ := h
  exact ⟨cur, persist hg hb, h2⟩
theorem rep_made {w : World} {base g m : Nat} {xs : List Value} (f : Fr) (h : w.ownsRow base 53 2 (.slice (some ⟨g, 0, none⟩) m m) m xs) (hm : 0 < m) : RepSt w g m 0 f := by
  obtain ⟨g', e, h1, h2, h3, h4, h5, h6, cur, h7⟩ := own_cells h hm
  injection e with e
  injection e with e
  subst e
  have hl : xs.length = m * 2 := h.1
  refine ⟨cur.toList, by rw [Array.toArray_toList]; exact h7, ?_, fun i hi => by omega⟩
  have h8 := h5 (2 * m - 1) _ (List.getElem?_eq_getElem (by omega))
  rw [cells_at h7] at h8
  have := (Array.getElem?_eq_some_iff.1 h8).1
  simp; omega
set_option maxRecDepth 100000 in
set_option maxHeartbeats 2000000 in
theorem repeat_go (w : World) (x : Option Addr) (c m : Nat) (f : Fr) (hF : FrSl w x 1 c [f]) (hm1 : 1 ≤ m) (hm : m ≤ 4) :
    Calls Try.prog 64 #[.slice x 1 c, .int .i64 m] w (GivesF (List.replicate m f) m w) := by
  obtain ⟨b, off, rfl, hb, hc⟩ := hF.at (by omega)
  have hc0 := hc 0 (by omega)
  have hcap := hF.2.cap
  have HX := Lib.hid (show w.cell? ⟨b, off, none⟩ = some (.int .i64 f.n) ∧ w.cell? ⟨b, off + 1, none⟩ = some (.int .i64 f.d) by
    have := hc0; simp only [Nat.zero_mul, Nat.add_zero] at this; exact this)
  obtain ⟨i0, hi, hz0, hz1, hz2⟩ := info_parts infoFr
  clear hF hc hc0
  go_enter Try.func64, Try.ntmps64
  have k1 : IntKind.u64.wrap (m : Int) = m := by rw [IntKind.wrap_u64]; omega
  go_wp2_with fail
  refine (mulbits_go _ m hm hm1).mono ?_
  rintro e w1 ⟨rfl, hd⟩
  have HB1 := Lib.hid (drewB hd)
  clear hd
  have HXW := Lib.hid (fun (W' : World) (hb' : Below w.heap.size w W') => (show W'.cell? ⟨b, off, none⟩ = some (.int .i64 f.n) ∧ W'.cell? ⟨b, off + 1, none⟩ = some (.int .i64 f.d) from ⟨((bcell hb').1 _ _ hb).trans HX.out.1, ((bcell hb').1 _ _ hb).trans HX.out.2⟩))
  unfold maxLen at hcap
  go_wp2_with (first
    | (refine wpList_make_full _ rfl _ _ 27 rfl w1.heap.size 53 i0 (.agg #[.int .i64 0, .int .i64 0]) 2 Try.underlying27 hi hz0 hz1 .i64 .i64 m m m rfl rfl rfl rfl (by rw [hz2]; omega) (by unfold maxLen; omega) (by simp) ?_; intro w2 hown2 hgrow2
       have HB2 := Lib.hid (btr HB1.out ((Below.refl w1.heap.size w1).grown hgrow2 (by simp) (fun _ h => by cases h)))
       have HR := Lib.hid (rep_made f hown2 (by omega))
       clear hown2 hgrow2)
    | (refine wpList_rep rfl _ _ _ _ rfl Try.underlying27 w1.heap.size m 0 1 0 m m b off 1 c f rfl rfl HR.out rfl (Nat.min_eq_left hm1) (by omega) (fun i hi => by (obtain rfl : i = 0 := (by omega)); exact HXW.out _ HB2.out) ?_; intro w3 HR3 HT3))
  have HB3 := Lib.hid (HT3.out _ _ HB1.out.size HB2.out)
  have HG := Lib.hid HB1.out.size
  generalize w1.heap.size = g at *
  clear HB1 HB2 HR HT3 hi hz0 hz1 hz2
  go_loopw [8] (fun v wr => ∃ k : Nat, 1 ≤ k ∧ k ≤ m ∧ v = .int .i64 k ∧ Hid (RepSt wr g m k f) ∧ Hid (Below w.heap.size w wr)) (fun v _ => m - (intOf v).toNat)
  case atStart => exact ⟨1, by omega, by omega, rfl, HR3, HB3⟩
  case round =>
    clear HR3 HB3
    obtain ⟨k, hk1, hk, rfl, HR, HB⟩ := hrel
    by_cases hl : k < m
    · obtain ⟨e, he⟩ : ∃ e, Nat.min k (m - k) = e := ⟨_, rfl⟩
      have hmin : 1 ≤ e ∧ e ≤ k ∧ k + e ≤ m := by
        have : Nat.min k (m - k) = min k (m - k) := rfl
        omega
      have HR' := Lib.hid (show RepSt wr.drew g m k f from HR.out.mono (Below.refl _ _).drew)
      have HE := Lib.hid he
      have HBD := Lib.hid (HB.out.drew)
      clear he
      have k5 : IntKind.i64.wrap ((k : Int) + (e : Int)) = ((k + e : Nat) : Int) := by rw [wrap_i64j _ (by omega) (by omega)]; omega
      go_wp2
      go_region_law (refine step_rep rfl _ _ _ _ rfl Try.underlying27 g m k e (k * 2) (m - k) (m - k) g 0 k m f (by go_simp; omega) (by go_simp) HR'.out (by omega) HE.out (by omega) (fun i hi => by have := HR'.out.cells (i := i) (by omega); simpa using this) ?_; intro w4 HR4 HT4)
      have HB4 := Lib.hid (HT4.out _ _ HG.out HBD.out)
      go_wp2
      go_roundw
      case rel => go_light; exact ⟨k + e, by omega, by omega, by omega, HR4⟩
      case measure => simp [intOf]; omega
    · obtain rfl : k = m := by omega
      go_wp2
      go_ret
      exact ⟨_, _, rfl, HR.out.sl (Nat.le_refl _) (by unfold maxLen; omega), HB.out⟩
end Go.Proofs.Ytcmakddnjmeklaa
