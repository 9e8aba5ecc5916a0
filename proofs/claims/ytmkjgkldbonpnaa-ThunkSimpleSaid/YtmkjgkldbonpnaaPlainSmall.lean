/- The lists that Simplify makes are short. -/
import Derived.Test.YtmkjgkldbonpnaaWSimplify
namespace Go.Proofs.Ytmkjgkldbonpnaa
open Go Go.RowKit Go.Cd
set_option linter.unusedVariables false
def small (L : List IExpr) : Prop := L.length ≤ 100000 ∧ ∀ e ∈ L, e.l.length ≤ 100000
theorem small_nil : small [] := ⟨by simp, by simp⟩
theorem small_cons {e : IExpr} {L : List IExpr} (he : e.l.length ≤ 100000) (h : small L) (hl : L.length ≤ 1000) : small (e :: L) :=
  ⟨by simp; omega, fun x hx => by rcases List.mem_cons.1 hx with rfl | hx; exact he; exact h.2 x hx⟩
theorem cmpE_len (op : Int) (ex : Bool) (x y : Atom) (tmp : Int) (n : Nat) : (cmpE op ex x y tmp n).length = 2 := rfl
theorem small_cmpE (op : Int) (ex : Bool) (x y : Atom) (tmp : Int) (n : Nat) : small (cmpE op ex x y tmp n) := by
  unfold cmpE
  refine small_cons ?_ (small_cons (by simp) small_nil (by simp)) (by simp)
  cases ex <;> simp
theorem small_cmpO (op : Int) (ex : Bool) (x y : Atom) (tmp : Int) (n : Nat) : small (cmpO op ex x y tmp n) ∧ (cmpO op ex x y tmp n).length ≤ 2 := by
  unfold cmpO
  split
  · exact ⟨small_nil, by simp⟩
  · exact ⟨small_cmpE _ _ _ _ _ _, Nat.le_of_eq (cmpE_len _ _ _ _ _ _)⟩
theorem small_copyE (i : Nat) (x : Atom) (tmp : Int) (n : Nat) : small (copyE i x tmp n) := by
  unfold copyE
  split <;> split
  · exact small_cons (by simp) (small_cons (by simp) small_nil (by simp)) (by simp)
  · exact small_cons (by simp) small_nil (by simp)
  · exact small_cons (by simp) (small_cons (by simp) (small_cons (by simp) small_nil (by simp)) (by simp)) (by simp)
  · exact small_cons (by simp) (small_cons (by simp) small_nil (by simp)) (by simp)
theorem small_simpL (i : Nat) (op : Int) (x y : Atom) (tmp : Int) : small (simpL i op x y tmp).1 := by
  unfold simpL
  split
  · exact (small_cmpO _ _ _ _ _ _).1
  split
  · split
    · exact small_cons (by simp) small_nil (by simp)
    · exact (small_cmpO _ _ _ _ _ _).1
  split
  · split
    · exact small_copyE _ _ _ _
    · exact small_nil
  split
  · exact small_cons (by simp) (small_cmpE _ _ _ _ _ _) (Nat.le_of_ble_eq_true rfl)
  split
  · exact small_cons (by simp) (small_cmpE _ _ _ _ _ _) (Nat.le_of_ble_eq_true rfl)
  split
  · split
    · exact small_nil
    · exact small_cons (by simp) (small_cmpO _ _ _ _ _ _).1 (Nat.le_trans (small_cmpO _ _ _ _ _ _).2 (by decide))
  · exact small_nil
theorem small_simpF (l : List Atom) (tmp : Int) : small (simpF l tmp).1 := by
  unfold simpF
  split
  · split
    · exact small_nil
    · unfold simp5
      split
      · exact small_cons (by simp) small_nil (by simp)
      split
      · exact small_nil
      split
      · exact small_cons (by simp) small_nil (by simp)
      split
      · exact small_nil
      split
      · exact small_simpL _ _ _ _ _
      · exact small_nil
  · exact small_nil
end Go.Proofs.Ytmkjgkldbonpnaa
