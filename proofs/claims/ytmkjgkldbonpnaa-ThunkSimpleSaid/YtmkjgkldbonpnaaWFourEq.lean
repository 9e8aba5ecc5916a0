/- '==' of thunks of the specification; the normal form's plain laws. -/
import Derived.Test.YtmkjgkldbonpnaaWAtomEq
import Derived.Test.YtmkjgkldbonpnaaWNormal
import Derived.Test.YtmkjgkldbonpnaaWFlags4
import Derived.Test.YtmkjgkldbonpnaaWBin
namespace Go.Proofs.Ytmkjgkldbonpnaa
open Go Go.RowKit Go.Cd
set_option linter.unusedVariables false

theorem eq_four (d : Nat) (a b : Four) (w : World) :
    (Op.equalIn (d + 2) 34 (four a) (four b)).run Try.prog w = .ok (a.1 == b.1 && (a.2.1 == b.2.1 && (a.2.2.1 == b.2.2.1 && (a.2.2.2 == b.2.2.2 && true)))) w := by
  unfold four
  refine eq_struct Try.underlying34 (by kernel_rfl) ?_
  refine eqF_cons (a := .int .u32 a.1) (b := .int .u32 b.1) (by decide) (by kernel_rfl) (by kernel_rfl) (run_equalIn_int w d _ _ _ _ _ Try.underlying29) ?_
  refine eqF_cons (a := .int .u32 a.2.1) (b := .int .u32 b.2.1) (by decide) (by kernel_rfl) (by kernel_rfl) (run_equalIn_int w d _ _ _ _ _ Try.underlying29) ?_
  refine eqF_cons (a := .int .u32 a.2.2.1) (b := .int .u32 b.2.2.1) (by decide) (by kernel_rfl) (by kernel_rfl) (run_equalIn_int w d _ _ _ _ _ Try.underlying29) ?_
  refine eqF_cons (a := .int .u32 a.2.2.2) (b := .int .u32 b.2.2.2) (by decide) (by kernel_rfl) (by kernel_rfl) (run_equalIn_int w d _ _ _ _ _ Try.underlying29) ?_
  exact eqF_nil
theorem eql_four (a0 a1 a2 a3 b0 b1 b2 b3 : Int) (w : World) :
    (binOp .eql 34 (.agg #[.int .u32 a0, .int .u32 a1, .int .u32 a2, .int .u32 a3]) (.agg #[.int .u32 b0, .int .u32 b1, .int .u32 b2, .int .u32 b3])).run Try.prog w = .ok (.bool (a0 == b0 && (a1 == b1 && (a2 == b2 && (a3 == b3 && true))))) w := by
  have h := eq_four 9998 (a0, a1, a2, a3) (b0, b1, b2, b3) w
  unfold four at h
  dsimp only at h
  rw [run_eql_struct, h]; rfl
theorem neq_four (a0 a1 a2 a3 b0 b1 b2 b3 : Int) (w : World) :
    (binOp .neq 34 (.agg #[.int .u32 a0, .int .u32 a1, .int .u32 a2, .int .u32 a3]) (.agg #[.int .u32 b0, .int .u32 b1, .int .u32 b2, .int .u32 b3])).run Try.prog w = .ok (.bool (!(a0 == b0 && (a1 == b1 && (a2 == b2 && (a3 == b3 && true)))))) w := by
  have h := eq_four 9998 (a0, a1, a2, a3) (b0, b1, b2, b3) w
  unfold four at h
  dsimp only at h
  rw [run_neq_struct, h]; rfl

/-- All four are words. -/
def Bd (t : Four) : Prop := (0 ≤ t.1 ∧ t.1 < 4294967296) ∧ (0 ≤ t.2.1 ∧ t.2.1 < 4294967296) ∧ (0 ≤ t.2.2.1 ∧ t.2.2.1 < 4294967296) ∧ (0 ≤ t.2.2.2 ∧ t.2.2.2 < 4294967296)
theorem norm2_bd (op d1 d2 : Int) (h0 : 0 ≤ op ∧ op < 4294967296) (h1 : 0 ≤ d1 ∧ d1 < 4294967296) (h2 : 0 ≤ d2 ∧ d2 < 4294967296) : Bd (norm2 op d1 d2) := by
  unfold norm2 Bd
  split
  · dsimp only; omega
  · split <;> (dsimp only; omega)
theorem normF_bd (op d1 d2 d3 : Int) (h0 : 0 ≤ op ∧ op < 4294967296) (h1 : 0 ≤ d1 ∧ d1 < 4294967296) (h2 : 0 ≤ d2 ∧ d2 < 4294967296) (h3 : 0 ≤ d3 ∧ d3 < 4294967296) : Bd (normF op d1 d2 d3) := by
  unfold normF
  split
  · unfold Bd; dsimp only; omega
  split
  · split
    · unfold Bd; dsimp only; omega
    · exact norm2_bd _ _ _ (by omega) h1 h2
  split
  · split
    · unfold Bd; dsimp only; omega
    · exact norm2_bd _ _ _ (by omega) h1 h2
  split
  · split <;> (unfold Bd; dsimp only; omega)
  split
  · exact norm2_bd _ _ _ h0 h1 h2
  split <;> (unfold Bd; dsimp only; omega)
theorem four_cells {w : World} {b : Nat} {a0 a1 a2 a3 : Int} {t : TypeId} (h : w.heap[b]? = some (.cells #[.int .u32 a0, .int .u32 a1, .int .u32 a2, .int .u32 a3] t)) :
    w.cell? ⟨b, 0, none⟩ = some (.int .u32 a0) ∧ w.cell? ⟨b, 1, none⟩ = some (.int .u32 a1) ∧ w.cell? ⟨b, 2, none⟩ = some (.int .u32 a2) ∧ w.cell? ⟨b, 3, none⟩ = some (.int .u32 a3) ∧ b < w.heap.size :=
  ⟨cell_of_heap h rfl, cell_of_heap h rfl, cell_of_heap h rfl, cell_of_heap h rfl, lt_of_heap h⟩
theorem keep {w w' : World} {b : Nat} {o : Obj} (hb : New w w') (h : w.heap[b]? = some o) : w'.heap[b]? = some o := (hb.block _ (lt_of_heap h)).trans h
end Go.Proofs.Ytmkjgkldbonpnaa
