
/- rooks: the closure of Hits. -/
import Derived.Test.YtiapngmallfelaaDoorEc
namespace Go.Proofs.YtiapngmallfelaaDoor
open Go.RowKit
set_option linter.unusedSimpArgs false
set_option maxHeartbeats 1000000 in
theorem more_go (w : World) (xo xb ob m1 : Nat) (cnt : List Nat) (ab al : Option Addr) (nb cb nl cl : Nat) (B l : List Nat) (hB : Sl w ab nb cb (ints B)) (hl : Sl w al nl cl (ints l)) (hle : nl ≤ nb) (hb6 : nb ≤ 6) (hBv : ∀ i, gn B i < 64) (hlv : ∀ i, gn l i < 6)
    (hxo : w.heap[xo]? = some (.cells #[.slice (some ⟨ob, 0, none⟩) m1 m1] 23 (0, 0))) (hxb : w.heap[xb]? = some (.cells #[.slice ab nb cb] 23 (0, 0)))
    (hob : w.heap[ob]? = some (.cells ((cnt.map fun x : Nat => Value.int .i64 (x : Int)).toArray) 3 (0, 0))) (hm1 : cnt.length = m1) (hnm : nl < m1) (hcb : gn cnt (hitN B l nl) < 1000000) :
    Calls Tryd.prog 12 #[.slice al nl cl, .pointer (some ⟨xo, 0, none⟩), .pointer (some ⟨xb, 0, none⟩)] w fun e w' => e = .returned (.bool true) ∧ ∃ m, w' = (w.drewN m).setCell ⟨ob, hitN B l nl, none⟩ (.int .i64 ((gn cnt (hitN B l nl) + 1 : Nat) : Int)) := by
  have hh := hitN_le B l nl
  have HIT := Lib.hid (hit_go w.drew ab al nb cb nl cl B l (hB.mono (drewB ⟨1, rfl⟩)) (hl.mono (drewB ⟨1, rfl⟩)) hle hb6 hBv hlv)
  have c1 := one_atB hxo
  have c2 := one_atB hxb
  have z1 := lt_of_block hxo
  have z2 := lt_of_block hxb
  have z3 := lt_of_block hob
  have c3 : w.cell? ⟨ob, hitN B l nl, none⟩ = some (.int .i64 ((gn cnt (hitN B l nl) : Nat) : Int)) := by
    rw [cells_at hob]
    rw [List.getElem?_toArray, List.getElem?_map, gn, List.getD_eq_getElem?_getD, List.getElem?_eq_getElem (by omega)]
    rfl
  have f3 := free_at hob (hitN B l nl)
  clear hB hl hBv hlv hxo hxb hob hm1
  have hlt : hitN B l nl < m1 := by omega
  generalize hitN B l nl = h at *
  generalize gn cnt h = y at *
  go_enter Tryd.func12, Tryd.ntmps12
  go_wp2
  go_still_tail 8, (by kernel_rfl)
  repeat still_step
  refine wpStill_step (fun KK hK => ?_)
  go_simp
  refine ⟨.int .i64 (h : Int), HIT.out.mono (fun _ _ q => ⟨q.1, q.2.symm⟩), hK _ ?_⟩
  clear hK KK
  repeat still_step
  refine wpStill_nil ?_
  change wpList _ _ _ _ _ w.drew
  replace c3 : w.drew.cell? ⟨ob, h, none⟩ = _ := c3
  replace f3 : w.drew.frozen? ⟨ob, h, none⟩ = _ := f3
  clear HIT
  generalize hwd : w.drew = wd at *
  go_wp2
  go_ret
  exact ⟨rfl, 1, by rw [← hwd]; rfl⟩
end Go.Proofs.YtiapngmallfelaaDoor
