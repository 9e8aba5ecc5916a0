/- Slices of atoms that came in. -/
import Derived.Test.YtmkjgkldbonpnaaKitSlice
import Derived.Test.YtmkjgkldbonpnaaWSimplify
import Derived.Deep.Slices
import Derived.OpenShut
import Derived.Laws.IdiomArrays
namespace Go.Proofs.Ytmkjgkldbonpnaa
open Go Go.RowKit Go.Cd Go.ChangeShapes Go.WideShapes Go.ChangeAt
set_option linter.unusedVariables false
theorem six_of {l : List Value} (h : l.length = 6) : ∃ c0 c1 c2 c3 c4 c5, l = [c0, c1, c2, c3, c4, c5] := by
  match l, h with
  | [c0, c1, c2, c3, c4, c5], _ => exact ⟨_, _, _, _, _, _, rfl⟩
theorem three_of {α : Type} {l : List α} (h : l.length = 3) : ∃ c0 c1 c2, l = [c0, c1, c2] := by
  match l, h with
  | [c0, c1, c2], _ => exact ⟨_, _, _, rfl⟩
section
variable {H : Type} {enc : TypeId × Value → H} {w : World} {base : Nat} {spare : Nat → Bool} {held : Bool}
theorem atom_of_cells {n : Nat} {cs : List Value} {y : DataW H × List MemPlace} (h : DataW.trod enc Try.prog w base spare held n 59 cs = some y) : ∃ a : Atom, cs = a.cells ∧ a.ok := by
  obtain ⟨xs, m, _, _, hlen, hxl, hf⟩ := DataW.trod_struct Try.underlying59 h
  have e6 : Try.prog.cellsOf 59 = 6 := by kernel_rfl
  have e1 : Try.prog.cellsOf 3 = 1 := by kernel_rfl
  have e4 : Try.prog.cellsOf 57 = 4 := by kernel_rfl
  have eu : Try.prog.cellsOf 29 = 1 := by kernel_rfl
  rw [e6] at hlen
  obtain ⟨c0, c1, c2, c3, c4, c5, rfl⟩ := six_of hlen
  obtain ⟨y0, y1, y2, rfl⟩ := three_of hxl
  have h0 : DataW.trod enc Try.prog w base spare held m 3 (List.take (Try.prog.cellsOf 3) (List.drop 0 [c0, c1, c2, c3, c4, c5])) = some y0 := hf 0 _ rfl
  have h1 : DataW.trod enc Try.prog w base spare held m 3 (List.take (Try.prog.cellsOf 3) (List.drop 1 [c0, c1, c2, c3, c4, c5])) = some y1 := hf 1 _ rfl
  have h2 : DataW.trod enc Try.prog w base spare held m 57 (List.take (Try.prog.cellsOf 57) (List.drop 2 [c0, c1, c2, c3, c4, c5])) = some y2 := hf 2 _ rfl
  rw [e1] at h0 h1
  rw [e4] at h2
  have h0' : DataW.trod enc Try.prog w base spare held m 3 [c0] = some y0 := h0
  have h1' : DataW.trod enc Try.prog w base spare held m 3 [c1] = some y1 := h1
  have h2' : DataW.trod enc Try.prog w base spare held m 57 [c2, c3, c4, c5] = some y2 := h2
  obtain ⟨n0, q0, _, _⟩ := DataW.trod_int Try.underlying3 h0'
  obtain ⟨n1, q1, _, _⟩ := DataW.trod_int Try.underlying3 h1'
  obtain ⟨z0, z1, z2, z3, m2, _, g0, g1, g2, g3⟩ := trod_array4 Try.underlying57 eu h2'
  obtain ⟨n2, q2, _, w2⟩ := DataW.trod_int Try.underlying29 g0
  obtain ⟨n3, q3, _, _⟩ := DataW.trod_int Try.underlying29 g1
  obtain ⟨n4, q4, _, _⟩ := DataW.trod_int Try.underlying29 g2
  obtain ⟨n5, q5, _, _⟩ := DataW.trod_int Try.underlying29 g3
  refine ⟨⟨n0, n1, n2, n3, n4, n5⟩, ?_, wf_u32 w2⟩
  simp only [List.cons.injEq, and_true] at q0 q1 q2 q3 q4 q5
  rw [q0, q1, q2, q3, q4, q5]
  rfl
set_option maxRecDepth 100000 in
theorem open_atoms {r : Reach} {b0 : Nat} {v : Value} {d : DataW H} {ps : List MemPlace} (hval : Value.okWide Try.prog w r b0 22 v) (hd : DataW.Trod enc Try.prog w 0 (fun _ => true) true 22 v d ps) :
    ∃ (p : Option Addr) (cap : Nat) (l : List Atom), v = .slice p l.length cap ∧ AtomsAt w p l := by
  have e6 : Try.prog.cellsOf 59 = 6 := by kernel_rfl
  obtain ⟨a0, len, cap, rfl⟩ := okWide_slice Try.underlying22 hval
  obtain ⟨fuel, hf⟩ := hd
  rcases Go.Deep.open_slice Try.underlying22 hf with ⟨hcs, _⟩ | ⟨a, len', cap', m, n, D, Pl, hcs, _, hl, hm, hmm, _, hi⟩
  · simp [Value.cells] at hcs
    obtain ⟨rfl, rfl, rfl⟩ := hcs
    exact ⟨none, 0, [], rfl, .inl rfl, fun _ h => by cases h⟩
  · simp [Value.cells] at hcs
    obtain ⟨rfl, rfl, rfl⟩ := hcs
    simp only [if_true] at hmm
    have K : ∀ i, i < len → ∃ x : Atom, x.ok ∧ ∀ j u, x.cells[j]? = some u → w.cell? (a.add (i * 6 + j)) = some u := fun i hil => by
      obtain ⟨cs', hc, ht⟩ := hi i (by omega)
      rw [e6] at hc
      obtain ⟨x, rfl, hok⟩ := atom_of_cells ht
      refine ⟨x, hok, fun j u hu => ?_⟩
      have hj : j < 6 := by
        have := (List.getElem?_eq_some_iff.1 hu).1
        simpa [Atom.cells] using this
      have h3 := (World.cells?_some hc).2.2 j hj
      rw [← Go.Deep.add_add, h3]
      exact hu
    have G := fun i hi => Classical.choose_spec (K i hi)
    refine ⟨some a, cap, (List.range len).map fun i => if h : i < len then Classical.choose (K i h) else wordA 0, by simp, ?_, fun x hx => ?_⟩
    · by_cases h0 : len = 0
      · subst h0; exact .inl rfl
      · right
        obtain ⟨b, off, spot⟩ := a
        have hc0 := (G 0 (by omega)).2 0 _ rfl
        have hspot : spot = none := by simpa [Addr.add] using World.cell?_spot hc0
        subst hspot
        refine ⟨b, off, rfl, ?_, fun k x hx j u hu => ?_⟩
        · have := lt_of_cell hc0
          rwa [block_add] at this
        · have hk : k < len := by
            have := (List.getElem?_eq_some_iff.1 hx).1
            simpa using this
          have hxe : x = Classical.choose (K k hk) := by
            simp [hk] at hx
            exact hx.symm
          rw [hxe] at hu
          have := (G k hk).2 j u hu
          rw [add_plain, ← Nat.add_assoc] at this
          exact this
    · obtain ⟨i, hi1, rfl⟩ := List.mem_map.1 hx
      have hi2 := List.mem_range.1 hi1
      rw [dif_pos hi2]
      exact (G i hi2).1
end
end Go.Proofs.Ytmkjgkldbonpnaa
