/- Slices of whole numbers that came in: what a walk wants to know of them. -/
import Derived.Test.YtmkjgkldbonpnaaKitLaw
import Derived.Test.YtmkjgkldbonpnaaKit
import Derived.ChangeSlices
import Derived.RowKit3
import Derived.Laws.IdiomElems
import Derived.Laws.IdiomAt
import Derived.RowKit2
namespace Go.Cd
open Go Go.RowKit Go.ChangeShapes Go.WideShapes Go.ChangeAt

/-- Numbers of one kind lie in a block from a place on. -/
def ICells (k : IntKind) (w : World) (b off : Nat) (xs : List Int) : Prop := ∀ i, i < xs.length → w.cell? ⟨b, off + i, none⟩ = some (.int k (xs.getD i 0)) ∧ (Lit.int k (xs.getD i 0)).wf = true
theorem ICells.new {k : IntKind} {w w' : World} {b off : Nat} {xs : List Int} (h : ICells k w b off xs) (hb : b < w.heap.size) (hn : New w w') : ICells k w' b off xs := fun i hi =>
  ⟨(hn.cell (p := ⟨b, off + i, none⟩) hb).trans (h i hi).1, (h i hi).2⟩
theorem lt_of_cell {w : World} {a : Addr} {v : Value} (h : w.cell? a = some v) : a.block < w.heap.size := by
  rcases Nat.lt_or_ge a.block w.heap.size with h' | h'
  · exact h'
  · have e : w.heap[a.block]? = none := Array.getElem?_eq_none h'
    simp [World.cell?, e] at h
section
variable {H : Type} {enc : TypeId × Value → H} {P : Program} {W : World}
theorem open_nums {t e : TypeId} {k : IntKind} (ht : P.underlying t = some (.slice e)) (he : P.underlying e = some (.int k)) (hc : P.cellsOf e = 1) {r : Reach} {b0 : Nat} {v : Value} {d : DataW H} {ps : List MemPlace}
    (hval : Value.okWide P W r b0 t v) (hd : DataW.Trod enc P W 0 (fun _ => true) true t v d ps) :
    ∃ (p : Option Addr) (len cap : Nat) (zs : List Int), v = .slice p len cap ∧ len ≤ 9223372036854775807 ∧ zs.length = len ∧ (len = 0 ∨ ∃ b off, p = some ⟨b, off, none⟩ ∧ b < W.heap.size ∧ ICells k W b off zs) := by
  obtain ⟨a0, len, cap, rfl⟩ := okWide_slice ht hval
  obtain ⟨fuel, hf⟩ := hd
  rcases open_ints ht he hc hf with ⟨hcs, hx⟩ | ⟨a, len', cap', zs, hcs, _, hl, hm, hz, hx, hcell, hwz⟩
  · simp [Value.cells] at hcs
    obtain ⟨rfl, rfl, rfl⟩ := hcs
    exact ⟨none, 0, 0, [], rfl, by omega, rfl, .inl rfl⟩
  · simp [Value.cells] at hcs
    obtain ⟨rfl, rfl, rfl⟩ := hcs
    simp only [if_true] at hz
    refine ⟨some a, len, cap, zs.take len, rfl, by unfold maxLen at hm; omega, by simp; omega, ?_⟩
    by_cases h0 : len = 0
    · exact .inl h0
    · right
      obtain ⟨b, off, spot⟩ := a
      have hspot : spot = none := by simpa [Addr.add] using World.cell?_spot (hcell 0 (by omega))
      subst hspot
      refine ⟨b, off, rfl, ?_, fun i hi => ?_⟩
      · have := lt_of_cell (hcell 0 (by omega))
        rwa [block_add] at this
      · have hi' : i < len := by simp at hi; omega
        have hz' : i < zs.length := by omega
        have e : (zs.take len).getD i 0 = zs.getD i 0 := by simp [hi']
        rw [e, ← add_plain]
        refine ⟨hcell i hz', hwz _ ?_⟩
        rw [List.getD_eq_getElem?_getD, List.getElem?_eq_getElem hz']
        exact List.getElem_mem hz'
end
end Go.Cd
