/- Chapter 9: the contracts once more, for a law's walk over a valid world. -/
import Derived.Test.YtcmakddnjmeklaaWp
import Derived.Test.YtcmakddnjmeklaaWj
namespace Go.Proofs.Ytcmakddnjmeklaa
open Go.RowKit

def GivesW (W : Wd) (n : Nat) (w : World) (e : Ending) (w' : World) : Prop := ∃ x c, e = .returned (wv W.a W.b x n c) ∧ A2Sl w' x n c W.acts ∧ Below w.heap.size w w'
theorem of_ok (w : World) (x : Option Addr) (n c : Nat) (W : Wd) (hA : A2Sl w x n c W.acts) (hok : vWd W = true) : Calls Try.prog 16 #[wv W.a W.b x n c] w (GivesW W n w) := by
  refine (of_go w x n c W.a W.b W.acts hA).mono ?_
  rintro e w2 ⟨x2, n2, c2, rfl, hO, hb2⟩
  have hTL : trL W.acts = W.acts := congrArg Wd.acts (trW_same hok)
  rw [hTL] at hO
  obtain ⟨xa, xc, e1, hs2⟩ := hO.sl
  rw [hA.1] at e1 hs2
  injection e1 with e1 e2 e3
  subst e1 e2 e3
  exact ⟨_, _, rfl, hs2, hb2⟩
def GivesT (W : Wd) (w : World) (e : Ending) (w' : World) : Prop := ∃ x n c, e = .returned (wv W.a W.b x n c) ∧ A2Sl w' x n c (trW W).acts ∧ Below w.heap.size w w'
theorem of_any (w : World) (x : Option Addr) (n c : Nat) (W : Wd) (hA : A2Sl w x n c W.acts) : Calls Try.prog 16 #[wv W.a W.b x n c] w (GivesT W w) := by
  refine (of_go w x n c W.a W.b W.acts hA).mono ?_
  rintro e w2 ⟨x2, n2, c2, rfl, hO, hb2⟩
  obtain ⟨xa, xc, e1, hs2⟩ := hO.sl
  injection e1 with e1 e2 e3
  subst e1 e2 e3
  exact ⟨_, _, _, rfl, hs2, hb2⟩
def GivesS (w : World) (n : Nat) (l : List Int) (e : Ending) (w' : World) : Prop := ∃ a c, e = .returned (.slice a n c) ∧ Sl w' a n c l ∧ Below w.heap.size w w'
theorem gives_s {w w' : World} {l : List Int} {e : Ending} {n : Nat} (h : GivesSl w l e w') (hl : l.length = n) : GivesS w n l e w' := by
  obtain ⟨a, n2, c, rfl, ho, hb⟩ := h
  have hs := own_sl ho
  have : n2 = n := by rw [← hs.len, hl]
  subst this
  exact ⟨_, _, rfl, hs, hb⟩
theorem list_ok (w : World) (y : Option Addr) (n d : Nat) (W : Wd) (p : List Int) (hp : Sl w y n d p) (hok : isPlanB W p = true) : Calls Try.prog 17 #[.slice y n d] w (GivesS w n p) := by
  refine (list_go w y n d p hp).mono fun e w' h => ?_
  rw [take_plan hok] at h
  exact gives_s h hp.len
def GivesFS (F : List Fr) (n : Nat) (w : World) (e : Ending) (w' : World) : Prop := ∃ a c, e = .returned (.tuple #[.slice a n c, .int .i64 0]) ∧ FrSl w' a n c F ∧ Below w.heap.size w w'
theorem gives_fs {w w' : World} {F : List Fr} {e : Ending} {n : Nat} (h : GivesFrE w F 0 e w') (hl : F.length = n) : GivesFS F n w e w' := by
  obtain ⟨a, n2, c, rfl, hn, ho, hb⟩ := h
  obtain rfl : n2 = n := by omega
  exact ⟨_, _, rfl, own_fr ho hn, hb⟩
theorem worth_ok (w : World) (x y : Option Addr) (n c m d : Nat) (W : Wd) (p : List Int) (hA : A2Sl w x n c W.acts) (hp : Sl w y m d p) (hok : isPlanB W p = true) :
    Calls Try.prog 15 #[wv W.a W.b x n c, .slice y m d] w (GivesFS (worthF W p) n w) :=
  (worthU_go w x y n c m d W p hA hp hok).mono fun _ _ h => gives_fs h (by rw [worthF_len]; exact hA.1)
def GivesBnd (W : Wd) (n : Nat) (w : World) (e : Ending) (w' : World) : Prop := ∃ p, isPlanB W p = true ∧ Opt W p ∧ GivesFS (worthF W p) n w e w'
theorem bound_ok (w : World) (x : Option Addr) (n c : Nat) (W : Wd) (hA : A2Sl w x n c W.acts) (hok : vWd W = true) :
    Calls Try.prog 24 #[wv W.a W.b x n c] w (GivesBnd W n w) :=
  (bound_go w x n c W hA hok).mono fun _ _ ⟨p, h1, h2, h⟩ => ⟨p, h1, h2, gives_fs h (by rw [worthF_len]; exact hA.1)⟩
def GivesSE (l : List Int) (n : Nat) (w : World) (e : Ending) (w' : World) : Prop := ∃ a c, e = .returned (.tuple #[.slice a n c, .int .i64 0]) ∧ Sl w' a n c l ∧ Below w.heap.size w w'
theorem gives_se {w w' : World} {l : List Int} {e : Ending} {n : Nat} (h : GivesIE w l 0 e w') (hl : l.length = n) : GivesSE l n w e w' := by
  obtain ⟨a, n2, c, rfl, ho, hb⟩ := h
  have hs := own_sl ho
  have : n2 = n := by rw [← hs.len, hl]
  subst this
  exact ⟨_, _, rfl, hs, hb⟩
/-- Best's answer: a plan that is as good as a best one, each state's first act that is told the worth. -/
def GivesFst (W : Wd) (n : Nat) (w : World) (e : Ending) (w' : World) : Prop := ∃ p, isPlanB W p = true ∧ Opt W p ∧ GivesSE (firstP W p) n w e w'
theorem best_ok (w : World) (x : Option Addr) (n c : Nat) (W : Wd) (hA : A2Sl w x n c W.acts) (hok : vWd W = true) :
    Calls Try.prog 27 #[wv W.a W.b x n c] w (GivesFst W n w) :=
  (bestU_go w x n c W hA hok).mono fun _ _ ⟨p, h1, h2, h⟩ => ⟨p, h1, h2, gives_se h (by rw [firstP_len]; exact hA.1)⟩
theorem better_yes (w : World) (x y : Option Addr) (n c m d : Nat) (W : Wd) (p : List Int) (hA : A2Sl w x n c W.acts) (hp : Sl w y m d p) (hok : isPlanB W p = true) (hf : foundP W p = true) :
    Calls Try.prog 28 #[wv W.a W.b x n c, .slice y m d] w (GivesSE (nextP W p) n w) :=
  (betterU_go w x y n c m d W p hA hp hok).mono fun _ _ h => by
    unfold GivesNext at h
    rw [hf] at h
    exact gives_se h (by rw [nextP_len]; exact hA.1)
/-- No elements, and an error. -/
def GivesNo (err : Int) (w : World) (e : Ending) (w' : World) : Prop := ∃ a c, e = .returned (.tuple #[.slice a 0 c, .int .i64 err]) ∧ Below w.heap.size w w'
theorem better_end (w : World) (x y : Option Addr) (n c m d : Nat) (W : Wd) (p : List Int) (hA : A2Sl w x n c W.acts) (hp : Sl w y m d p) (hok : isPlanB W p = true) (hf : foundP W p = false) :
    Calls Try.prog 28 #[wv W.a W.b x n c, .slice y m d] w (GivesNo 4 w) :=
  (betterU_go w x y n c m d W p hA hp hok).mono fun _ _ h => by
    unfold GivesNext at h
    rw [hf] at h
    obtain ⟨a, n2, c, rfl, ho, hb⟩ := h
    have hs := (own_sl ho).len
    have : n2 = 0 := by rw [← hs]; rfl
    subst this
    exact ⟨_, _, rfl, hb⟩
theorem clone_ok (w : World) (a : Option Addr) (n p : Nat) (l : List Int) (hs : Sl w a n p l) (hn : n ≤ 100) : Calls Try.prog 37 #[.slice a n p] w (GivesS w n l) :=
  (clone_go w a n p l hs (by omega)).mono fun _ _ h => gives_s h hs.len
theorem gives_no {w w' : World} {err : Int} {e : Ending} (h : GivesIE w [] err e w') : GivesNo err w e w' := by
  obtain ⟨a, n2, c, rfl, ho, hb⟩ := h
  have hs := (own_sl ho).len
  have : n2 = 0 := by rw [← hs]; rfl
  subst this
  exact ⟨_, _, rfl, hb⟩
theorem gives_fno {w w' : World} {err : Int} {e : Ending} (h : GivesFrE w [] err e w') : GivesNo err w e w' := by
  obtain ⟨a, n2, c, rfl, hn, _, hb⟩ := h
  obtain rfl : n2 = 0 := hn
  exact ⟨_, _, rfl, hb⟩
theorem best_bad (w : World) (x : Option Addr) (n c : Nat) (W : Wd) (hA : A2Sl w x n c (trW W).acts) (hok : vWd W = false) :
    Calls Try.prog 27 #[wv W.a W.b x n c] w (GivesNo 2 w) :=
  (bestU_no w x n c (trW W) hA (by rw [vWd_tr]; exact hok)).mono fun _ _ h => gives_no h
theorem bound_bad (w : World) (x : Option Addr) (n c : Nat) (W : Wd) (hA : A2Sl w x n c (trW W).acts) (hok : vWd W = false) :
    Calls Try.prog 24 #[wv W.a W.b x n c] w (GivesNo 2 w) :=
  (bound_no w x n c (trW W) hA (by rw [vWd_tr]; exact hok)).mono fun _ _ h => gives_fno h
theorem better_bad (w : World) (x y : Option Addr) (n c m d : Nat) (W : Wd) (p : List Int) (hA : A2Sl w x n c (trW W).acts) (hp : Sl w y m d (p.take 7)) (hok : isPlanB W p = false) :
    Calls Try.prog 28 #[wv W.a W.b x n c, .slice y m d] w (GivesNo 2 w) :=
  (betterU_no w x y n c m d (trW W) (p.take 7) hA hp (by rw [isPlan_tr]; exact hok)).mono fun _ _ h => gives_no h
theorem worth_bad (w : World) (x y : Option Addr) (n c m d : Nat) (W : Wd) (p : List Int) (hA : A2Sl w x n c (trW W).acts) (hp : Sl w y m d (p.take 7)) (hok : isPlanB W p = false) :
    Calls Try.prog 15 #[wv W.a W.b x n c, .slice y m d] w (GivesNo 2 w) :=
  (worthU_no w x y n c m d (trW W) (p.take 7) hA hp (by rw [isPlan_tr]; exact hok)).mono fun _ _ h => gives_fno h
theorem check_bad (w : World) (x y : Option Addr) (n c m d : Nat) (W : Wd) (l : List Int) (dv : Int) (hA : A2Sl w x n c (trW W).acts) (hok : vWd W = false) :
    Calls Try.prog 33 #[wv W.a W.b x n c, .slice y m d, .int .i64 dv] w (GivesChk false 2 w) :=
  check_no w x y n c m d (trW W) l dv hA (by rw [vWd_tr]; exact hok)
theorem lowest_ok (w : World) (x : Option Addr) (n c : Nat) (W : Wd) (p : List Int) (hF : FrSl w x n c (worthF W p)) (hok : isPlanB W p = true) :
    Calls Try.prog 20 #[.slice x n c] w fun e w' => e = .returned (.bool true) ∧ Below w.heap.size w w' :=
  lowest_go w x n c _ hF fun i hi => worth_low hok (by have := hF.1; rw [worthF_len] at this; omega)
/-! ### The law's own box of the world -/
def BoxR (w : World) (p : Nat) (a b : Int) (x : Option Addr) (n c : Nat) : Prop := w.heap[p]? = some (.cells #[.int .i64 a, .int .i64 b, .slice x n c] 25 (0, 0))
theorem BoxR.cells {w : World} {p : Nat} {a b : Int} {x : Option Addr} {n c : Nat} (h : BoxR w p a b x n c) : p < w.heap.size ∧ w.cell? ⟨p, 0, none⟩ = some (.int .i64 a) ∧ w.cell? ⟨p, 1, none⟩ = some (.int .i64 b) ∧ w.cell? ⟨p, 2, none⟩ = some (.slice x n c) :=
  ⟨lt_of_block h, by rw [cells_at h]; rfl, by rw [cells_at h]; rfl, by rw [cells_at h]; rfl⟩
theorem BoxR.mono {w w' : World} {p : Nat} {a b : Int} {x : Option Addr} {n c : Nat} (h : BoxR w p a b x n c) (hb : Below w.heap.size w w') : BoxR w' p a b x n c := persist h hb
theorem boxR_new (w : World) (a b : Int) (x : Option Addr) (n c : Nat) : BoxR (w.alloc (.cells #[.int .i64 a, .int .i64 b, .slice x n c] 25)) w.heap.size a b x n c := new_at w _
def Bel (V w : World) : Prop := Below V.heap.size V w
theorem Bel.mono {V w w' : World} (h : Bel V w) (hb : Below w.heap.size w w') : Bel V w' := btr h hb
theorem Bel.refl (V : World) : Bel V V := Below.refl _ _
end Go.Proofs.Ytcmakddnjmeklaa
