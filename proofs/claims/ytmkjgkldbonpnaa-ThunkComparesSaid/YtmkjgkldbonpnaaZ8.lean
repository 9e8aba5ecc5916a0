/- Parts of the proof: KitAtoms, PlainSmall, PlainNorm, PlainOrders, PlainComp1, PlainMerge, PlainInv, PlainComp2. -/
import Derived.Test.YtmkjgkldbonpnaaZ3
import Derived.Test.YtmkjgkldbonpnaaZ7
import Derived.Deep.Slices
import Derived.OpenShut
import Derived.Laws.IdiomArrays
import Derived.Test.YtmkjgkldbonpnaaZ6
import Derived.Test.YtmkjgkldbonpnaaZ2
/- Slices of atoms that came in. -/
namespace Go.Proofs.Ytmkjgkldbonpnaa
open Go Go.RowKit Go.Cd Go.ChangeShapes Go.WideShapes Go.ChangeAt
set_option linter.unusedVariables false
theorem six_of {l : List Value} (h : l.length = 6) : ∃ c0 c1 c2 c3 c4 c5, l = [c0, c1, c2, c3, c4, c5] := by
  match l, h with
  | [c0, c1, c2, c3, c4, c5], _ => exact ⟨_, _, _, _, _, _, rfl⟩
theorem three_of {α : Type} {l : List α} (h : l.length = 3) : ∃ c0 c1 c2, l = [c0, c1, c2] := by
  match l, h with
  | [c0, c1, c2], _ => exact ⟨_, _, _, rfl⟩
section
variable {H : Type} {enc : TypeId × Value → H} {w : World} {base : Nat} {spare : Nat → Bool} {held : Bool}
theorem atom_of_cells {n : Nat} {cs : List Value} {y : DataW H × List MemPlace} (h : DataW.trod enc Try.prog w base spare held n 59 cs = some y) : ∃ a : Atom, cs = a.cells ∧ a.ok := by
  obtain ⟨xs, m, _, _, hlen, hxl, hf⟩ := DataW.trod_struct Try.underlying59 h
  have e6 : Try.prog.cellsOf 59 = 6 := by kernel_rfl
  have e1 : Try.prog.cellsOf 3 = 1 := by kernel_rfl
  have e4 : Try.prog.cellsOf 57 = 4 := by kernel_rfl
  have eu : Try.prog.cellsOf 29 = 1 := by kernel_rfl
  rw [e6] at hlen
  obtain ⟨c0, c1, c2, c3, c4, c5, rfl⟩ := six_of hlen
  obtain ⟨y0, y1, y2, rfl⟩ := three_of hxl
  have h0 : DataW.trod enc Try.prog w base spare held m 3 (List.take (Try.prog.cellsOf 3) (List.drop 0 [c0, c1, c2, c3, c4, c5])) = some y0 := hf 0 _ rfl
  have h1 : DataW.trod enc Try.prog w base spare held m 3 (List.take (Try.prog.cellsOf 3) (List.drop 1 [c0, c1, c2, c3, c4, c5])) = some y1 := hf 1 _ rfl
  have h2 : DataW.trod enc Try.prog w base spare held m 57 (List.take (Try.prog.cellsOf 57) (List.drop 2 [c0, c1, c2, c3, c4, c5])) = some y2 := hf 2 _ rfl
  rw [e1] at h0 h1
  rw [e4] at h2
  have h0' : DataW.trod enc Try.prog w base spare held m 3 [c0] = some y0 := h0
  have h1' : DataW.trod enc Try.prog w base spare held m 3 [c1] = some y1 := h1
  have h2' : DataW.trod enc Try.prog w base spare held m 57 [c2, c3, c4, c5] = some y2 := h2
  obtain ⟨n0, q0, _, _⟩ := DataW.trod_int Try.underlying3 h0'
  obtain ⟨n1, q1, _, _⟩ := DataW.trod_int Try.underlying3 h1'
  obtain ⟨z0, z1, z2, z3, m2, _, g0, g1, g2, g3⟩ := trod_array4 Try.underlying57 eu h2'
  obtain ⟨n2, q2, _, w2⟩ := DataW.trod_int Try.underlying29 g0
  obtain ⟨n3, q3, _, _⟩ := DataW.trod_int Try.underlying29 g1
  obtain ⟨n4, q4, _, _⟩ := DataW.trod_int Try.underlying29 g2
  obtain ⟨n5, q5, _, _⟩ := DataW.trod_int Try.underlying29 g3
  refine ⟨⟨n0, n1, n2, n3, n4, n5⟩, ?_, wf_u32 w2⟩
  simp only [List.cons.injEq, and_true] at q0 q1 q2 q3 q4 q5
  rw [q0, q1, q2, q3, q4, q5]
  rfl
set_option maxRecDepth 100000 in
theorem open_atoms {r : Reach} {b0 : Nat} {v : Value} {d : DataW H} {ps : List MemPlace} (hval : Value.okWide Try.prog w r b0 22 v) (hd : DataW.Trod enc Try.prog w 0 (fun _ => true) true 22 v d ps) :
    ∃ (p : Option Addr) (cap : Nat) (l : List Atom), v = .slice p l.length cap ∧ AtomsAt w p l := by
  have e6 : Try.prog.cellsOf 59 = 6 := by kernel_rfl
  obtain ⟨a0, len, cap, rfl⟩ := okWide_slice Try.underlying22 hval
  obtain ⟨fuel, hf⟩ := hd
  rcases Go.Deep.open_slice Try.underlying22 hf with ⟨hcs, _⟩ | ⟨a, len', cap', m, n, D, Pl, hcs, _, hl, hm, hmm, _, hi⟩
  · simp [Value.cells] at hcs
    obtain ⟨rfl, rfl, rfl⟩ := hcs
    exact ⟨none, 0, [], rfl, .inl rfl, fun _ h => by cases h⟩
  · simp [Value.cells] at hcs
    obtain ⟨rfl, rfl, rfl⟩ := hcs
    simp only [if_true] at hmm
    have K : ∀ i, i < len → ∃ x : Atom, x.ok ∧ ∀ j u, x.cells[j]? = some u → w.cell? (a.add (i * 6 + j)) = some u := fun i hil => by
      obtain ⟨cs', hc, ht⟩ := hi i (by omega)
      rw [e6] at hc
      obtain ⟨x, rfl, hok⟩ := atom_of_cells ht
      refine ⟨x, hok, fun j u hu => ?_⟩
      have hj : j < 6 := by
        have := (List.getElem?_eq_some_iff.1 hu).1
        simpa [Atom.cells] using this
      have h3 := (World.cells?_some hc).2.2 j hj
      rw [← Go.Deep.add_add, h3]
      exact hu
    have G := fun i hi => Classical.choose_spec (K i hi)
    refine ⟨some a, cap, (List.range len).map fun i => if h : i < len then Classical.choose (K i h) else wordA 0, by simp, ?_, fun x hx => ?_⟩
    · by_cases h0 : len = 0
      · subst h0; exact .inl rfl
      · right
        obtain ⟨b, off, spot⟩ := a
        have hc0 := (G 0 (by omega)).2 0 _ rfl
        have hspot : spot = none := by simpa [Addr.add] using World.cell?_spot hc0
        subst hspot
        refine ⟨b, off, rfl, ?_, fun k x hx j u hu => ?_⟩
        · have := lt_of_cell hc0
          rwa [block_add] at this
        · have hk : k < len := by
            have := (List.getElem?_eq_some_iff.1 hx).1
            simpa using this
          have hxe : x = Classical.choose (K k hk) := by
            simp [hk] at hx
            exact hx.symm
          rw [hxe] at hu
          have := (G k hk).2 j u hu
          rw [add_plain, ← Nat.add_assoc] at this
          exact this
    · obtain ⟨i, hi1, rfl⟩ := List.mem_map.1 hx
      have hi2 := List.mem_range.1 hi1
      rw [dif_pos hi2]
      exact (G i hi2).1
end
end Go.Proofs.Ytmkjgkldbonpnaa
/- The lists that Simplify makes are short. -/
namespace Go.Proofs.Ytmkjgkldbonpnaa
open Go Go.RowKit Go.Cd
set_option linter.unusedVariables false
def small (L : List IExpr) : Prop := L.length ≤ 100000 ∧ ∀ e ∈ L, e.l.length ≤ 100000
theorem small_nil : small [] := ⟨by simp, by simp⟩
theorem small_cons {e : IExpr} {L : List IExpr} (he : e.l.length ≤ 100000) (h : small L) (hl : L.length ≤ 1000) : small (e :: L) :=
  ⟨by simp; omega, fun x hx => by rcases List.mem_cons.1 hx with rfl | hx; exact he; exact h.2 x hx⟩
theorem cmpE_len (op : Int) (ex : Bool) (x y : Atom) (tmp : Int) (n : Nat) : (cmpE op ex x y tmp n).length = 2 := rfl
theorem small_cmpE (op : Int) (ex : Bool) (x y : Atom) (tmp : Int) (n : Nat) : small (cmpE op ex x y tmp n) := by
  unfold cmpE
  refine small_cons ?_ (small_cons (by simp) small_nil (by simp)) (by simp)
  cases ex <;> simp
theorem small_cmpO (op : Int) (ex : Bool) (x y : Atom) (tmp : Int) (n : Nat) : small (cmpO op ex x y tmp n) ∧ (cmpO op ex x y tmp n).length ≤ 2 := by
  unfold cmpO
  split
  · exact ⟨small_nil, by simp⟩
  · exact ⟨small_cmpE _ _ _ _ _ _, Nat.le_of_eq (cmpE_len _ _ _ _ _ _)⟩
theorem small_copyE (i : Nat) (x : Atom) (tmp : Int) (n : Nat) : small (copyE i x tmp n) := by
  unfold copyE
  split <;> split
  · exact small_cons (by simp) (small_cons (by simp) small_nil (by simp)) (by simp)
  · exact small_cons (by simp) small_nil (by simp)
  · exact small_cons (by simp) (small_cons (by simp) (small_cons (by simp) small_nil (by simp)) (by simp)) (by simp)
  · exact small_cons (by simp) (small_cons (by simp) small_nil (by simp)) (by simp)
theorem small_simpL (i : Nat) (op : Int) (x y : Atom) (tmp : Int) : small (simpL i op x y tmp).1 := by
  unfold simpL
  split
  · exact (small_cmpO _ _ _ _ _ _).1
  split
  · split
    · exact small_cons (by simp) small_nil (by simp)
    · exact (small_cmpO _ _ _ _ _ _).1
  split
  · split
    · exact small_copyE _ _ _ _
    · exact small_nil
  split
  · exact small_cons (by simp) (small_cmpE _ _ _ _ _ _) (Nat.le_of_ble_eq_true rfl)
  split
  · exact small_cons (by simp) (small_cmpE _ _ _ _ _ _) (Nat.le_of_ble_eq_true rfl)
  split
  · split
    · exact small_nil
    · exact small_cons (by simp) (small_cmpO _ _ _ _ _ _).1 (Nat.le_trans (small_cmpO _ _ _ _ _ _).2 (by decide))
  · exact small_nil
theorem small_simpF (l : List Atom) (tmp : Int) : small (simpF l tmp).1 := by
  unfold simpF
  split
  · split
    · exact small_nil
    · unfold simp5
      split
      · exact small_cons (by simp) small_nil (by simp)
      split
      · exact small_nil
      split
      · exact small_cons (by simp) small_nil (by simp)
      split
      · exact small_nil
      split
      · exact small_simpL _ _ _ _ _
      · exact small_nil
  · exact small_nil
end Go.Proofs.Ytmkjgkldbonpnaa
/- Plain laws: the normal form has the same flags, and is its own normal form. -/
namespace Go.Proofs.Ytmkjgkldbonpnaa
open Go Go.RowKit Go.Cd
set_option linter.unusedVariables false

def flagsT (t : Four) : Int := flagsF t.1 t.2.1 t.2.2.1 t.2.2.2
def normT (t : Four) : Four := normF t.1 t.2.1 t.2.2.1 t.2.2.2
theorem fl3 (r x y : Int) : flagsF 3 r x y = flagNum (r == 0) (r / 2147483648 == 1) false false := rfl
theorem fl1 (a b x : Int) : flagsF 1 a b x = flagNum (sumR a b 0 == 0) (sumR a b 0 / 2147483648 == 1) (sumC a b 0) (sumV a b 0) := rfl
theorem fl2 (a b x : Int) : flagsF 2 a b x = flagNum (difR a b 0 == 0) (difR a b 0 / 2147483648 == 1) (difC a b 0) (difV a b 0) := rfl
theorem fl7 (a b x : Int) : flagsF 7 a b x = flagNum (sumR a b (x % 2) == 0) (sumR a b (x % 2) / 2147483648 == 1) (sumC a b (x % 2)) (sumV a b (x % 2)) := rfl
theorem fl8 (a b x : Int) : flagsF 8 a b x = flagNum (difR a b (x % 2) == 0) (difR a b (x % 2) / 2147483648 == 1) (difC a b (x % 2)) (difV a b (x % 2)) := rfl
theorem fl4 (a b x : Int) : flagsF 4 a b x = flagNum (shlR a (b % 32) == 0) (shlR a (b % 32) / 2147483648 == 1) (outB a (b % 32) (32 - b % 32)) false := rfl
theorem fl5 (a b x : Int) : flagsF 5 a b x = flagNum (shrR a (b % 32) == 0) (shrR a (b % 32) / 2147483648 == 1) (outB a (b % 32) ((b % 32 - 1) % 4294967296)) false := rfl
theorem fl6 (a b x : Int) : flagsF 6 a b x = flagNum (sarR a (b % 32) == 0) (sarR a (b % 32) / 2147483648 == 1) (outB a (b % 32) ((b % 32 - 1) % 4294967296)) false := rfl
theorem sum_z (a b : Int) (ha : 0 ≤ a ∧ a < 4294967296) (hb : 0 ≤ b ∧ b < 4294967296) (h : a = 0 ∨ b = 0) : sumR a b 0 = a + b ∧ sumC a b 0 = false ∧ sumV a b 0 = false := by
  have e : (a + b + 0) % 4294967296 = a + b := by omega
  refine ⟨e, ?_, ?_⟩
  · unfold sumC; rw [beq_eq_false_iff_ne]; omega
  · unfold sumV; rw [e, decide_eq_false_iff_not]
    rcases h with rfl | rfl <;> simp [sg]
theorem dif_z (a : Int) (ha : 0 ≤ a ∧ a < 4294967296) : difR a 0 0 = a ∧ difC a 0 0 = false ∧ difV a 0 0 = false := by
  have e : (a - 0 - 0) % 4294967296 = a := by omega
  refine ⟨e, ?_, ?_⟩
  · unfold difC; rw [decide_eq_false_iff_not]; omega
  · unfold difV; rw [e, decide_eq_false_iff_not]; simp [sg]
theorem norm2_1 (a b x : Int) (ha : 0 ≤ a ∧ a < 4294967296) (hb : 0 ≤ b ∧ b < 4294967296) : flagsT (norm2 1 a b) = flagsF 1 a b x := by
  unfold norm2 flagsT
  split
  · rename_i h
    subst h
    obtain ⟨e1, e2, e3⟩ := sum_z a 0 ha hb (.inr rfl)
    rw [fl3, fl1, e1, e2, e3, Int.add_zero]
  · split
    · rename_i h
      obtain ⟨_, rfl⟩ := h
      obtain ⟨e1, e2, e3⟩ := sum_z 0 b ha hb (.inl rfl)
      rw [fl3, fl1, e1, e2, e3, Int.zero_add]
    · rfl
theorem norm2_2 (a b x : Int) (ha : 0 ≤ a ∧ a < 4294967296) (hb : 0 ≤ b ∧ b < 4294967296) : flagsT (norm2 2 a b) = flagsF 2 a b x := by
  unfold norm2 flagsT
  split
  · rename_i h
    subst h
    obtain ⟨e1, e2, e3⟩ := dif_z a ha
    rw [fl3, fl2, e1, e2, e3]
  · rw [if_neg (by omega)]
    rfl
theorem out_z (a l : Int) : outB a 0 l = false := by unfold outB; simp
theorem shl_z (a : Int) (ha : 0 ≤ a ∧ a < 4294967296) : shlR a 0 = a := by
  unfold shlR; simp; omega
theorem shr_z (a : Int) : shrR a 0 = a := by unfold shrR; simp
theorem sar_z (a : Int) (ha : 0 ≤ a ∧ a < 4294967296) : sarR a 0 = a := by
  have h : wrap32 a % 4294967296 = a := by
    unfold wrap32; omega
  unfold sarR; simp [h]
theorem normF_flags (op a b c : Int) (h0 : 0 ≤ op ∧ op < 4294967296) (ha : 0 ≤ a ∧ a < 4294967296) (hb : 0 ≤ b ∧ b < 4294967296) (hc : 0 ≤ c ∧ c < 4294967296) : flagsT (normF op a b c) = flagsF op a b c := by
  unfold normF
  by_cases h : op = 0
  · subst h
    show a % 16 % 16 = a % 16
    omega
  rw [if_neg h]
  by_cases h7 : op = 7
  · subst h7
    rw [if_pos rfl]
    by_cases hc1 : c % 2 = 1
    · rw [if_pos hc1]
      show flagsF 7 a b 1 = _
      rw [fl7, fl7, hc1]; rfl
    · rw [if_neg hc1, norm2_1 a b 0 ha hb, fl1, fl7, show c % 2 = 0 by omega]
  rw [if_neg h7]
  by_cases h8 : op = 8
  · subst h8
    rw [if_pos rfl]
    by_cases hc1 : c % 2 = 1
    · rw [if_pos hc1]
      show flagsF 8 a b 1 = _
      rw [fl8, fl8, hc1]; rfl
    · rw [if_neg hc1, norm2_2 a b 0 ha hb, fl2, fl8, show c % 2 = 0 by omega]
  rw [if_neg h8]
  by_cases h456 : op = 4 ∨ op = 5 ∨ op = 6
  · rw [if_pos h456]
    by_cases hz : b % 32 = 0
    · rw [if_pos hz]
      show flagsF 3 a 0 0 = _
      rcases h456 with rfl | rfl | rfl
      · rw [fl3, fl4, hz, shl_z a ha, out_z]
      · rw [fl3, fl5, hz, shr_z a, out_z]
      · rw [fl3, fl6, hz, sar_z a ha, out_z]
    · rw [if_neg hz]
      have e : b % 32 % 32 = b % 32 := by omega
      show flagsF op a (b % 32) 0 = _
      rcases h456 with rfl | rfl | rfl
      · rw [fl4, fl4, e]
      · rw [fl5, fl5, e]
      · rw [fl6, fl6, e]
  rw [if_neg h456]
  by_cases h12 : op = 1 ∨ op = 2
  · rw [if_pos h12]
    rcases h12 with rfl | rfl
    · exact norm2_1 a b c ha hb
    · exact norm2_2 a b c ha hb
  rw [if_neg h12]
  by_cases h3 : op = 3
  · rw [if_pos h3]; subst h3; rfl
  rw [if_neg h3]
  unfold flagsF
  rw [if_pos (show 8 < op by omega)]
  rfl
theorem norm2_norm (op a b : Int) (h : op = 1 ∨ op = 2) : normT (norm2 op a b) = norm2 op a b := by
  unfold norm2 normT
  split
  · rfl
  · split
    · rfl
    · rename_i h1 h2
      rcases h with rfl | rfl
      · show norm2 1 a b = _
        unfold norm2; rw [if_neg h1, if_neg h2]
      · show norm2 2 a b = _
        unfold norm2; rw [if_neg h1, if_neg h2]
theorem normF_norm (op a b c : Int) (h0 : 0 ≤ op ∧ op < 4294967296) : normT (normF op a b c) = normF op a b c := by
  unfold normF
  by_cases h : op = 0
  · subst h
    show ((0, a % 16 % 16, 0, 0) : Four) = (0, a % 16, 0, 0)
    rw [show a % 16 % 16 = a % 16 by omega]
  rw [if_neg h]
  by_cases h7 : op = 7
  · subst h7
    rw [if_pos rfl]
    by_cases hc1 : c % 2 = 1
    · rw [if_pos hc1]; rfl
    · rw [if_neg hc1]; exact norm2_norm 1 a b (.inl rfl)
  rw [if_neg h7]
  by_cases h8 : op = 8
  · subst h8
    rw [if_pos rfl]
    by_cases hc1 : c % 2 = 1
    · rw [if_pos hc1]; rfl
    · rw [if_neg hc1]; exact norm2_norm 2 a b (.inr rfl)
  rw [if_neg h8]
  by_cases h456 : op = 4 ∨ op = 5 ∨ op = 6
  · rw [if_pos h456]
    by_cases hz : b % 32 = 0
    · rw [if_pos hz]; rfl
    · rw [if_neg hz]
      unfold normT
      dsimp only
      unfold normF
      rw [if_neg h, if_neg h7, if_neg h8, if_pos h456, show b % 32 % 32 = b % 32 by omega, if_neg hz]
  rw [if_neg h456]
  by_cases h12 : op = 1 ∨ op = 2
  · rw [if_pos h12]; exact norm2_norm op a b h12
  rw [if_neg h12]
  by_cases h3 : op = 3
  · rw [if_pos h3]; rfl
  rw [if_neg h3]; rfl
end Go.Proofs.Ytmkjgkldbonpnaa
/- Plain laws: conditions behind a subtraction compare its operands. -/
namespace Go.Proofs.Ytmkjgkldbonpnaa
open Go Go.RowKit Go.Cd
set_option linter.unusedVariables false

theorem has_num (z n c v : Bool) : hasB (flagNum z n c v) 1 = z ∧ hasB (flagNum z n c v) 2 = n ∧ hasB (flagNum z n c v) 4 = c ∧ hasB (flagNum z n c v) 8 = v := by
  cases z <;> cases n <;> cases c <;> cases v <;> exact ⟨by kernel_rfl, by kernel_rfl, by kernel_rfl, by kernel_rfl⟩
theorem sub_z (a b : Int) (ha : 0 ≤ a ∧ a < 4294967296) (hb : 0 ≤ b ∧ b < 4294967296) : (difR a b 0 == 0) = decide (a = b) := by
  unfold difR
  rw [Bool.eq_iff_iff, beq_iff_eq, decide_eq_true_iff]; omega
theorem sub_c (a b : Int) : difC a b 0 = decide (a < b) := by
  unfold difC
  rw [Int.add_zero]
theorem sub_l (a b : Int) (ha : 0 ≤ a ∧ a < 4294967296) (hb : 0 ≤ b ∧ b < 4294967296) : ((difR a b 0 / 2147483648 == 1) != difV a b 0) = decide (sg a < sg b) := by
  unfold difR difV
  have h1 : ((a - b - 0) % 4294967296 / 2147483648 == 1) = decide (sg ((a - b - 0) % 4294967296) < 0) := by
    rw [Bool.eq_iff_iff, beq_iff_eq, decide_eq_true_iff]
    unfold sg
    split <;> omega
  rw [h1]
  generalize hr : (a - b - 0) % 4294967296 = r
  have hr1 : r = a - b ∨ r = a - b + 4294967296 := by omega
  have hr2 : 0 ≤ r ∧ r < 4294967296 := by omega
  have key : (sg r < 0 ∧ sg a - sg b - 0 = sg r) ∨ (¬ sg r < 0 ∧ sg a - sg b - 0 ≠ sg r) ↔ sg a < sg b := by
    clear h1 hr
    unfold sg
    split <;> split <;> split <;> omega
  rw [Bool.eq_iff_iff, bne_iff_ne, decide_eq_true_iff, ← key]
  clear key h1 hr hr1 hr2
  generalize sg a - sg b - 0 = u
  by_cases h2 : sg r < 0 <;> by_cases h3 : u = sg r <;> simp [h2, h3] <;> omega
/-- A condition behind a subtraction, in the words of its operands. -/
theorem cond_sub (cd a b c : Int) (ha : 0 ≤ a ∧ a < 4294967296) (hb : 0 ≤ b ∧ b < 4294967296) (h0 : 0 ≤ cd) (h1 : cd ≤ 15) :
    condF cd 2 a b c = ((if cd / 2 = 0 then decide (a = b) else if cd / 2 = 1 then decide (a < b) else if cd / 2 = 2 then difR a b 0 / 2147483648 == 1 else if cd / 2 = 3 then difV a b 0 else if cd / 2 = 4 then (decide (a < b) || decide (a = b)) else if cd / 2 = 5 then decide (sg a < sg b) else if cd / 2 = 6 then (decide (sg a < sg b) || decide (a = b)) else true) == (cd % 2 == 0)) := by
  unfold condF holdsF
  rw [if_neg (by omega), fl2]
  obtain ⟨e1, e2, e3, e4⟩ := has_num (difR a b 0 == 0) (difR a b 0 / 2147483648 == 1) (difC a b 0) (difV a b 0)
  rw [e1, e2, e3, e4]
  unfold holdsZ isAt
  rw [sub_l a b ha hb, sub_z a b ha hb, sub_c a b]
theorem sg_wrap (a : Int) (h : 0 ≤ a ∧ a < 4294967296) : wrap32 a = sg a := by
  unfold sg wrap32; split <;> omega
theorem sg_eq (a b : Int) (ha : 0 ≤ a ∧ a < 4294967296) (hb : 0 ≤ b ∧ b < 4294967296) : sg a = sg b ↔ a = b := by
  unfold sg; split <;> split <;> omega
end Go.Proofs.Ytmkjgkldbonpnaa
/- Plain laws: the values of the expressions that Simplify makes. -/
namespace Go.Proofs.Ytmkjgkldbonpnaa
open Go Go.RowKit Go.Cd
set_option linter.unusedVariables false

/-- The value of an atom. -/
def rdA (had : Int → Option Int) (a : Atom) : Option Int := if 0 ≤ a.tmp then had a.tmp else some a.c0
def tyA (ty : Int → Int) (a : Atom) : Int := if 0 ≤ a.tmp then ty a.tmp else 32
def tru (b : Bool) : Int := if b = true then 1 else 0
/-- The value of a binary operation. -/
def binV (op a b : Int) : Option Int :=
  if op = 1 then some ((a + b) % 4294967296) else if op = 2 then some ((a - b) % 4294967296)
  else if op = 8 then some (bits .and .u32 a b) else if op = 10 then some (bits .xor .u32 a b)
  else if op = 11 then some (shlR a (b % 32)) else if op = 12 then some (shrR a (b % 32)) else if op = 13 then some (sarR a (b % 32))
  else if op = 14 then some (tru (decide (a = b))) else if op = 15 then some (tru (decide (a ≠ b)))
  else if op = 16 then some (tru (decide (a < b))) else if op = 18 then some (tru (decide (a ≤ b)))
  else if op = 17 then some (tru (decide (sg a < sg b))) else if op = 19 then some (tru (decide (sg a ≤ sg b))) else none
/-- An expression is well typed and has a value. -/
inductive Vd (had : Int → Option Int) (ty : Int → Int) : IExpr → Int → Prop
  | atom {a : Atom} {v : Int} : isW a = true → rdA had a = some v → tyA ty a = 32 → Vd had ty ⟨1, 32, 0, 0, [a]⟩ v
  | zext {a : Atom} {v : Int} : isW a = true → rdA had a = some v → tyA ty a = 1 → Vd had ty ⟨3, 32, 2, 0, [a]⟩ v
  | bin {op : Int} {a b : Atom} {x y v : Int} : isW a = true → isW b = true → rdA had a = some x → rdA had b = some y → tyA ty a = 32 → tyA ty b = 32 → binV op x y = some v → Vd had ty ⟨4, binTy op, op, 0, [a, b]⟩ v
/-- What is known behind the first expressions. -/
def hadX (had : Int → Option Int) (tmp : Int) (vs : List Int) (t : Int) : Option Int := if t < tmp then had t else vs[(t - tmp).toNat]?
def tyX (tmp : Int) (es : List IExpr) (t : Int) : Int := if t < tmp then 32 else ((es[(t - tmp).toNat]?).map IExpr.ty).getD 0
inductive Runs (had : Int → Option Int) (tmp : Int) : List IExpr → List Int → Prop
  | nil : Runs had tmp [] []
  | snoc {es : List IExpr} {vs : List Int} {e : IExpr} {v : Int} : Runs had tmp es vs → Vd (hadX had tmp vs) (tyX tmp es) e v → Runs had tmp (es ++ [e]) (vs ++ [v])
theorem Runs.len {had : Int → Option Int} {tmp : Int} {es : List IExpr} {vs : List Int} (h : Runs had tmp es vs) : vs.length = es.length := by
  induction h with
  | nil => rfl
  | snoc _ _ ih => simp [ih]
theorem Runs.at {had : Int → Option Int} {tmp : Int} {es : List IExpr} {vs : List Int} (h : Runs had tmp es vs) (k : Nat) (e : IExpr) (he : es[k]? = some e) :
    ∃ v, vs[k]? = some v ∧ Vd (hadX had tmp (vs.take k)) (tyX tmp (es.take k)) e v := by
  induction h with
  | nil => simp at he
  | @snoc es vs e' v' h1 h2 ih =>
    have hl := h1.len
    rcases Nat.lt_trichotomy k es.length with hk | hk | hk
    · rw [List.getElem?_append_left hk] at he
      obtain ⟨v, hv, hd⟩ := ih he
      refine ⟨v, by rw [List.getElem?_append_left (by omega)]; exact hv, ?_⟩
      rw [List.take_append_of_le_length (by omega), List.take_append_of_le_length (by omega)]
      exact hd
    · subst hk
      rw [List.getElem?_append_right (Nat.le_refl _)] at he
      simp at he
      subst he
      refine ⟨v', by rw [← hl, List.getElem?_append_right (Nat.le_refl _)]; simp, ?_⟩
      rw [List.take_left' rfl, List.take_left' hl]
      exact h2
    · rw [List.getElem?_eq_none (by simp; omega)] at he
      cases he
/-- An atom that came in. -/
structure InA (had : Int → Option Int) (tmp : Int) (a : Atom) (v : Int) : Prop where
  w : isW a = true
  v : rdA had a = some v
  lt : a.tmp < tmp
theorem InA.rd {had : Int → Option Int} {tmp : Int} {a : Atom} {v : Int} (h : InA had tmp a v) (vs : List Int) : rdA (hadX had tmp vs) a = some v := by
  have h1 := h.v
  unfold rdA at h1 ⊢
  split
  · rename_i h2
    rw [if_pos h2] at h1
    unfold hadX
    rw [if_pos h.lt]
    exact h1
  · rename_i h2
    rwa [if_neg h2] at h1
theorem InA.ty {had : Int → Option Int} {tmp : Int} {a : Atom} {v : Int} (h : InA had tmp a v) (es : List IExpr) : tyA (tyX tmp es) a = 32 := by
  unfold tyA
  split
  · unfold tyX
    rw [if_pos h.lt]
  · rfl
theorem inA_word (had : Int → Option Int) (tmp : Int) (h : 0 ≤ tmp) (n : Int) : InA had tmp (wordA n) n := ⟨rfl, rfl, by show (-1 : Int) < tmp; omega⟩
/-- The temporary of an expression that was made. -/
theorem mk_rd {had : Int → Option Int} {tmp : Int} {vs : List Int} (h : 0 ≤ tmp) (n : Nat) (v : Int) (hv : vs[n]? = some v) : rdA (hadX had tmp vs) (tmpA (tmp + n)) = some v := by
  unfold rdA tmpA hadX
  dsimp only
  rw [if_pos (by omega), if_neg (by omega), show (tmp + n - tmp).toNat = n by omega]
  exact hv
theorem mk_ty {tmp : Int} {es : List IExpr} (h : 0 ≤ tmp) (n : Nat) (e : IExpr) (he : es[n]? = some e) : tyA (tyX tmp es) (tmpA (tmp + n)) = e.ty := by
  unfold tyA tmpA tyX
  dsimp only
  rw [if_pos (by omega), if_neg (by omega), show (tmp + n - tmp).toNat = n by omega, he]
  rfl
theorem mk_w {tmp : Int} (h : 0 ≤ tmp) (n : Nat) : isW (tmpA (tmp + n)) = true := by
  unfold isW tmpA
  dsimp only
  rw [if_pos (by omega)]
  simp
/-- What an atom is at a time. -/
structure NowA (had : Int → Option Int) (tmp : Int) (es : List IExpr) (vs : List Int) (a : Atom) (v : Int) : Prop where
  w : isW a = true
  v : rdA (hadX had tmp vs) a = some v
  ty : tyA (tyX tmp es) a = 32
theorem InA.now {had : Int → Option Int} {tmp : Int} {a : Atom} {v : Int} (h : InA had tmp a v) (es : List IExpr) (vs : List Int) : NowA had tmp es vs a v := ⟨h.w, h.rd vs, h.ty es⟩
theorem now_mk {had : Int → Option Int} {tmp : Int} {es : List IExpr} {vs : List Int} (h : 0 ≤ tmp) (n : Nat) (v : Int) (e : IExpr) (hv : vs[n]? = some v) (he : es[n]? = some e) (ht : e.ty = 32) : NowA had tmp es vs (tmpA (tmp + n)) v :=
  ⟨mk_w h n, mk_rd h n v hv, (mk_ty h n e he).trans ht⟩
theorem Runs.bin {had : Int → Option Int} {tmp : Int} {es : List IExpr} {vs : List Int} (h : Runs had tmp es vs) {op : Int} {a b : Atom} {x y v : Int} (ha : NowA had tmp es vs a x) (hb : NowA had tmp es vs b y) (hv : binV op x y = some v) :
    Runs had tmp (es ++ [⟨4, binTy op, op, 0, [a, b]⟩]) (vs ++ [v]) := .snoc h (.bin ha.w hb.w ha.v hb.v ha.ty hb.ty hv)
theorem Runs.cmp {had : Int → Option Int} {tmp : Int} {es : List IExpr} {vs : List Int} (h : Runs had tmp es vs) (ht : 0 ≤ tmp) {op : Int} (ex : Bool) {a b : Atom} {x y v : Int} (ha : NowA had tmp es vs a x) (hb : NowA had tmp es vs b y)
    (ho : 14 ≤ op ∧ op ≤ 19) (n : Nat) (hn : n = es.length) (hv : binV op (if ex = true then y else x) (if ex = true then x else y) = some v) : Runs had tmp (es ++ cmpE op ex a b tmp n) (vs ++ [v, v]) := by
  subst hn
  have hl := h.len
  have e1 : binTy op = 1 := by unfold binTy; rw [if_pos ho]
  have h1 : Runs had tmp (es ++ [⟨4, binTy op, op, 0, if ex then [b, a] else [a, b]⟩]) (vs ++ [v]) := by
    cases ex
    · exact h.bin ha hb hv
    · exact h.bin hb ha hv
  have h2 := Runs.snoc h1 (Vd.zext (a := tmpA (tmp + es.length)) (v := v) (mk_w ht _) (mk_rd ht _ _ (by rw [← hl, List.getElem?_append_right (Nat.le_refl _)]; simp)) ((mk_ty ht _ _ (by rw [List.getElem?_append_right (Nat.le_refl _)]; simp; rfl)).trans e1))
  rw [List.append_assoc, List.append_assoc] at h2
  exact h2
end Go.Proofs.Ytmkjgkldbonpnaa
/- Plain laws of Merge: bits of the lower four. -/
namespace Go.Cd
open Go
theorem bv64 (x : Int) : (BitVec.ofInt 64 x).toNat = (x % 18446744073709551616).toNat := by
  rw [BitVec.toNat_ofInt]; rfl
/-- The lower four bits. -/
def lo (x : Int) : Nat := (x % 16).toNat
theorem lo_lt (x : Int) : lo x < 16 := by unfold lo; omega
theorem lo_self (x : Int) (h : 0 ≤ x ∧ x < 16) : (lo x : Int) = x := by unfold lo; omega
theorem and_lo (n y : Nat) (hy : y < 16) : n &&& y = (n % 16) &&& y := by
  apply Nat.eq_of_testBit_eq
  intro i
  rw [Nat.testBit_and, Nat.testBit_and, show (16 : Nat) = 2 ^ 4 from rfl, Nat.testBit_mod_two_pow]
  by_cases hi : i < 4
  · simp [hi]
  · have : y.testBit i = false := Nat.testBit_lt_two_pow (Nat.lt_of_lt_of_le hy (by
      have := Nat.pow_le_pow_right (show 1 ≤ 2 by decide) (show 4 ≤ i by omega)
      simpa using this))
    simp [this]
theorem and64_lo (x y : Int) (hy : 0 ≤ y ∧ y < 16) : bits .and .i64 x y = ((lo x &&& lo y : Nat) : Int) := by
  have e : bits .and .i64 x y = IntKind.i64.wrap (((BitVec.ofInt 64 x &&& BitVec.ofInt 64 y).toNat : Nat) : Int) := rfl
  have hy' : (y % 18446744073709551616).toNat = lo y := by unfold lo; omega
  have hx' : (x % 18446744073709551616).toNat % 16 = lo x := by unfold lo; omega
  rw [e, BitVec.toNat_and, bv64, bv64, hy', and_lo _ _ (lo_lt y), hx', IntKind.wrap_i64]
  have : lo x &&& lo y < 2 ^ 4 := Nat.and_lt_two_pow _ (lo_lt y)
  omega
theorem andNot64_lo (x y : Int) (hx : 0 ≤ x ∧ x < 16) : bits .andNot .i64 x y = ((lo x &&& (15 - lo y) : Nat) : Int) := by
  have e : bits .andNot .i64 x y = IntKind.i64.wrap (((BitVec.ofInt 64 x &&& ~~~BitVec.ofInt 64 y).toNat : Nat) : Int) := rfl
  have hx' : (x % 18446744073709551616).toNat = lo x := by unfold lo; omega
  rw [e, BitVec.toNat_and, BitVec.toNat_not, bv64, bv64, hx', Nat.and_comm, and_lo _ _ (lo_lt x)]
  have h : (2 ^ 64 - 1 - (y % 18446744073709551616).toNat) % 16 = 15 - lo y := by unfold lo; omega
  rw [h, Nat.and_comm, IntKind.wrap_i64]
  have : lo x &&& (15 - lo y) < 2 ^ 4 := Nat.and_lt_two_pow _ (by omega)
  omega
theorem or64_lo (x y : Int) (hx : 0 ≤ x ∧ x < 16) (hy : 0 ≤ y ∧ y < 16) : bits .or .i64 x y = ((lo x ||| lo y : Nat) : Int) := by
  have e : bits .or .i64 x y = IntKind.i64.wrap (((BitVec.ofInt 64 x ||| BitVec.ofInt 64 y).toNat : Nat) : Int) := rfl
  have hx' : (x % 18446744073709551616).toNat = lo x := by unfold lo; omega
  have hy' : (y % 18446744073709551616).toNat = lo y := by unfold lo; omega
  rw [e, BitVec.toNat_or, bv64, bv64, hx', hy', IntKind.wrap_i64]
  have : lo x ||| lo y < 2 ^ 4 := Nat.or_lt_two_pow (lo_lt x) (lo_lt y)
  omega
theorem lo_nat (n : Nat) (h : n < 16) : lo (n : Int) = n := by unfold lo; omega
theorem and_lt16 (a b : Nat) (hb : b < 16) : a &&& b < 16 := by
  have : a &&& b < 2 ^ 4 := Nat.and_lt_two_pow _ hb
  omega
theorem and_lt16' (a b : Nat) (ha : a < 16) : a &&& b < 16 := by rw [Nat.and_comm]; exact and_lt16 b a ha
theorem or_lt16 (a b : Nat) (ha : a < 16) (hb : b < 16) : a ||| b < 16 := by
  have : a ||| b < 2 ^ 4 := Nat.or_lt_two_pow ha hb
  omega
theorem lo_wrap (n : Nat) : lo (IntKind.i64.wrap (n : Int)) = n % 16 := by
  rw [IntKind.wrap_i64]; unfold lo; omega
theorem lo_mod (x : Int) : (x % 18446744073709551616).toNat % 16 = lo x := by unfold lo; omega
theorem lo_and (x y : Int) : lo (bits .and .i64 x y) = lo x &&& lo y := by
  have e : bits .and .i64 x y = IntKind.i64.wrap (((BitVec.ofInt 64 x &&& BitVec.ofInt 64 y).toNat : Nat) : Int) := rfl
  have h : ((x % 18446744073709551616).toNat &&& (y % 18446744073709551616).toNat) % 16 = (x % 18446744073709551616).toNat % 16 &&& (y % 18446744073709551616).toNat % 16 := Nat.and_mod_two_pow (n := 4)
  rw [e, lo_wrap, BitVec.toNat_and, bv64, bv64, h, lo_mod, lo_mod]
/-- Facts of four bits, all cases tried. -/
theorem four_own : ∀ f : Fin 16, ∀ m : Fin 16, ((f.val &&& (15 - m.val)) ||| (f.val &&& m.val)) = f.val := by decide +kernel
theorem four_mix : ∀ f : Fin 16, ∀ m : Fin 16, ∀ a : Fin 16, ((f.val &&& (15 - m.val)) &&& 15) ||| ((a.val &&& m.val) &&& 15) = (f.val &&& (15 - m.val)) ||| (a.val &&& m.val) := by decide +kernel
theorem four_twice : ∀ f : Fin 16, ∀ m : Fin 16, ∀ a : Fin 16, ((f.val &&& (15 - m.val)) ||| (a.val &&& m.val)) &&& (15 - m.val) = f.val &&& (15 - m.val) := by decide +kernel
theorem four_15 : ∀ f : Fin 16, ∀ a : Fin 16, (f.val &&& (15 - 15)) ||| (a.val &&& 15) = a.val &&& 15 := by decide +kernel
theorem four_m15 : ∀ m : Fin 16, m.val &&& 15 = m.val := by decide +kernel
theorem four_z : ∀ f : Fin 16, ∀ a : Fin 16, ((f.val &&& (15 - 0)) &&& 15) ||| ((a.val &&& 0) &&& 15) = f.val := by decide +kernel
end Go.Cd
namespace Go.Proofs.Ytmkjgkldbonpnaa
open Go Go.RowKit Go.Cd
set_option linter.unusedVariables false
theorem flagNum_bd (z n c v : Bool) : 0 ≤ flagNum z n c v ∧ flagNum z n c v < 16 := by
  cases z <;> cases n <;> cases c <;> cases v <;> exact ⟨by decide, by decide⟩
theorem flagsF_bd (op a b c : Int) : 0 ≤ flagsF op a b c ∧ flagsF op a b c < 16 := by
  unfold flagsF
  split
  · decide
  split
  · omega
  · exact flagNum_bd _ _ _ _
theorem mask_lo (mask : Int) : bits .and .i64 mask 15 = (lo mask : Int) := by
  rw [and64_lo mask 15 (by decide), show lo 15 = 15 from rfl, four_m15 ⟨lo mask, lo_lt mask⟩]
theorem mergeX_lo (f mask fl : Int) (hf : 0 ≤ f ∧ f < 16) : mergeX f (bits .and .i64 mask 15) fl = (((lo f &&& (15 - lo mask)) ||| (lo fl &&& lo mask) : Nat) : Int) := by
  have hm := lo_lt mask
  have h1 := and_lt16' (lo f) (15 - lo mask) (lo_lt f)
  have h2 := and_lt16 (lo fl) (lo mask) hm
  unfold mergeX
  rw [mask_lo, andNot64_lo f _ hf, and64_lo fl _ ⟨by omega, by omega⟩, lo_nat _ hm, or64_lo _ _ ⟨by omega, by omega⟩ ⟨by omega, by omega⟩, lo_nat _ h1, lo_nat _ h2]
  have h3 := or_lt16 _ _ h1 h2
  omega
theorem mergeF_bd (op a b c mask fl : Int) (h0 : 0 ≤ op ∧ op < 4294967296) (h1 : 0 ≤ a ∧ a < 4294967296) (h2 : 0 ≤ b ∧ b < 4294967296) (h3 : 0 ≤ c ∧ c < 4294967296) : Bd (mergeF op a b c mask fl) := by
  unfold mergeF
  split
  · exact normF_bd op a b c h0 h1 h2 h3
  · rw [mergeX_lo _ _ _ (flagsF_bd op a b c)]
    have h := or_lt16 _ _ (and_lt16' (lo (flagsF op a b c)) (15 - lo mask) (lo_lt _)) (and_lt16 (lo fl) (lo mask) (lo_lt mask))
    unfold Bd
    dsimp only
    omega
/-- Merge with all flags is a copy of them. -/
theorem merge_all (op a b c fl : Int) : mergeF op a b c 15 fl = (0, bits .and .i64 fl 15 % 4294967296, 0, 0) := by
  unfold mergeF
  rw [if_neg (by rw [mask_lo]; decide), mergeX_lo _ _ _ (flagsF_bd op a b c), show lo 15 = 15 from rfl, four_15 ⟨_, lo_lt _⟩ ⟨_, lo_lt _⟩, and64_lo fl 15 (by decide), show lo 15 = 15 from rfl]
  have := and_lt16 (lo fl) 15 (by decide)
  dsimp only
  congr 2
  omega
theorem copy_flags (x : Nat) (h : x < 16) : flagsT (0, (x : Int), 0, 0) = (x : Int) := by
  show (x : Int) % 16 = x
  omega
/-- Merging a thunk's own flags changes none. -/
theorem merge_own (op a b c mask : Int) (h0 : 0 ≤ op ∧ op < 4294967296) (h1 : 0 ≤ a ∧ a < 4294967296) (h2 : 0 ≤ b ∧ b < 4294967296) (h3 : 0 ≤ c ∧ c < 4294967296) : flagsT (mergeF op a b c mask (flagsF op a b c)) = flagsF op a b c := by
  have hb := flagsF_bd op a b c
  unfold mergeF
  split
  · exact normF_flags op a b c h0 h1 h2 h3
  · rw [mergeX_lo _ _ _ hb, four_own ⟨_, lo_lt _⟩ ⟨_, lo_lt mask⟩, copy_flags _ (lo_lt _)]
    exact lo_self _ hb
/-- The flags behind a merge. -/
theorem merge_flags (op a b c mask fl : Int) (h0 : 0 ≤ op ∧ op < 4294967296) (h1 : 0 ≤ a ∧ a < 4294967296) (h2 : 0 ≤ b ∧ b < 4294967296) (h3 : 0 ≤ c ∧ c < 4294967296) :
    flagsT (mergeF op a b c mask fl) = bits .or .i64 (bits .and .i64 (bits .andNot .i64 (flagsF op a b c) mask) 15) (bits .and .i64 (bits .and .i64 fl mask) 15) := by
  have hb := flagsF_bd op a b c
  have hm := lo_lt mask
  have k1 := and_lt16' (lo (flagsF op a b c)) (15 - lo mask) (lo_lt _)
  have e : bits .or .i64 (bits .and .i64 (bits .andNot .i64 (flagsF op a b c) mask) 15) (bits .and .i64 (bits .and .i64 fl mask) 15) = (((lo (flagsF op a b c) &&& (15 - lo mask)) ||| (lo fl &&& lo mask) : Nat) : Int) := by
    rw [and64_lo _ 15 (by decide), and64_lo _ 15 (by decide), andNot64_lo _ _ hb, lo_nat _ k1, lo_and, show lo 15 = 15 from rfl]
    have k3 := and_lt16 (lo (flagsF op a b c) &&& (15 - lo mask)) 15 (by decide)
    have k4 := and_lt16 (lo fl &&& lo mask) 15 (by decide)
    rw [or64_lo _ _ ⟨by omega, by omega⟩ ⟨by omega, by omega⟩, lo_nat _ k3, lo_nat _ k4, four_mix ⟨_, lo_lt _⟩ ⟨_, hm⟩ ⟨_, lo_lt fl⟩]
  rw [e]
  unfold mergeF
  split
  · rename_i h
    rw [mask_lo] at h
    have hz : lo mask = 0 := by omega
    rw [hz]
    have k := four_z ⟨_, lo_lt (flagsF op a b c)⟩ ⟨_, lo_lt fl⟩
    have k' := four_mix ⟨_, lo_lt (flagsF op a b c)⟩ ⟨0, by decide⟩ ⟨_, lo_lt fl⟩
    dsimp only at k k'
    rw [← k', k]
    exact (normF_flags op a b c h0 h1 h2 h3).trans (lo_self _ hb).symm
  · rw [mergeX_lo _ _ _ hb]
    exact copy_flags _ (or_lt16 _ _ k1 (and_lt16 (lo fl) (lo mask) hm))
/-- Merging twice with one mask is merging the second time alone. -/
theorem merge_twice (op a b c mask fl fm : Int) (h0 : 0 ≤ op ∧ op < 4294967296) :
    mergeF (mergeF op a b c mask fl).1 (mergeF op a b c mask fl).2.1 (mergeF op a b c mask fl).2.2.1 (mergeF op a b c mask fl).2.2.2 mask fm = mergeF op a b c mask fm := by
  have hb := flagsF_bd op a b c
  by_cases h : bits .and .i64 mask 15 = 0
  · have e : ∀ o a b c fl, mergeF o a b c mask fl = normF o a b c := fun o a b c fl => by unfold mergeF; rw [if_pos h]
    rw [e, e op a b c fl, e op a b c fm]
    exact normF_norm op a b c h0
  · have hm := lo_lt mask
    have k1 := and_lt16' (lo (flagsF op a b c)) (15 - lo mask) (lo_lt _)
    have k2 := or_lt16 _ _ k1 (and_lt16 (lo fl) (lo mask) hm)
    have e : ∀ o a b c fl, mergeF o a b c mask fl = (0, mergeX (flagsF o a b c) (bits .and .i64 mask 15) fl, 0, 0) := fun o a b c fl => by unfold mergeF; rw [if_neg h]
    rw [e op a b c fl, e op a b c fm]
    dsimp only
    rw [e, mergeX_lo _ _ fl hb]
    have ef : flagsF 0 (((lo (flagsF op a b c) &&& (15 - lo mask)) ||| (lo fl &&& lo mask) : Nat) : Int) 0 0 = (((lo (flagsF op a b c) &&& (15 - lo mask)) ||| (lo fl &&& lo mask) : Nat) : Int) := copy_flags _ k2
    rw [ef, mergeX_lo _ _ fm ⟨by omega, by omega⟩, lo_nat _ k2, four_twice ⟨_, lo_lt _⟩ ⟨_, hm⟩ ⟨_, lo_lt fl⟩, mergeX_lo _ _ fm hb]
end Go.Proofs.Ytmkjgkldbonpnaa
/- Plain laws: conditions and their inverses; fixed flags; a condition hangs on the flags that it uses alone. -/
namespace Go.Cd
open Go
theorem lo_or (x y : Int) : lo (bits .or .i64 x y) = lo x ||| lo y := by
  have e : bits .or .i64 x y = IntKind.i64.wrap (((BitVec.ofInt 64 x ||| BitVec.ofInt 64 y).toNat : Nat) : Int) := rfl
  have h : ((x % 18446744073709551616).toNat ||| (y % 18446744073709551616).toNat) % 16 = (x % 18446744073709551616).toNat % 16 ||| (y % 18446744073709551616).toNat % 16 := Nat.or_mod_two_pow (n := 4)
  rw [e, lo_wrap, BitVec.toNat_or, bv64, bv64, h, lo_mod, lo_mod]
theorem lo_andNot (x y : Int) : lo (bits .andNot .i64 x y) = lo x &&& (15 - lo y) := by
  have e : bits .andNot .i64 x y = IntKind.i64.wrap (((BitVec.ofInt 64 x &&& ~~~BitVec.ofInt 64 y).toNat : Nat) : Int) := rfl
  have h2 : (2 ^ 64 - 1 - (y % 18446744073709551616).toNat) % 16 = 15 - lo y := by unfold lo; omega
  have h : ((x % 18446744073709551616).toNat &&& (2 ^ 64 - 1 - (y % 18446744073709551616).toNat)) % 16 = (x % 18446744073709551616).toNat % 16 &&& (2 ^ 64 - 1 - (y % 18446744073709551616).toNat) % 16 := Nat.and_mod_two_pow (n := 4)
  rw [e, lo_wrap, BitVec.toNat_and, BitVec.toNat_not, bv64, bv64, h, h2, lo_mod]
end Go.Cd
namespace Go.Proofs.Ytmkjgkldbonpnaa
open Go Go.RowKit Go.Cd
set_option linter.unusedVariables false
theorem hasB_lo (x f : Int) (hf : 0 ≤ f ∧ f < 16) : hasB x f = ((lo x &&& lo f) != 0) := by
  unfold hasB
  rw [and64_lo x f hf, Bool.eq_iff_iff, bne_iff_ne, bne_iff_ne]
  omega
/-- What a condition says of the lower four bits. -/
def holdsN (i : Nat) (f : Nat) : Bool := isAt ((f &&& 1) != 0) ((f &&& 2) != 0) ((f &&& 4) != 0) ((f &&& 8) != 0) (i : Int)
def usesN (i : Nat) : Nat := if i = 0 then 1 else if i = 1 then 4 else if i = 2 then 2 else if i = 3 then 8 else if i = 4 then 5 else if i = 5 then 10 else if i = 6 then 11 else 0
theorem usesI_N : ∀ i : Fin 8, usesI ((i.val : Nat) : Int) = (usesN i.val : Int) := by decide +kernel
theorem uses_all : ∀ i : Fin 8, usesN i.val < 16 ∧ ∀ f : Fin 16, ∀ o : Fin 16, holdsN i.val ((f.val &&& usesN i.val) ||| (o.val &&& (15 - usesN i.val))) = holdsN i.val f.val := by decide +kernel
theorem holds_lo (cd f : Int) (h0 : 0 ≤ cd) (h1 : cd ≤ 15) : holdsF cd f = (holdsN (cd / 2).toNat (lo f) == (cd % 2 == 0)) := by
  unfold holdsF
  rw [if_neg (by omega), hasB_lo f 1 (by decide), hasB_lo f 2 (by decide), hasB_lo f 4 (by decide), hasB_lo f 8 (by decide)]
  unfold holdsZ holdsN
  rw [show (((cd / 2).toNat : Nat) : Int) = cd / 2 by omega]
  rfl
/-- A condition hangs on the flags that it uses alone. -/
theorem holds_uses (cd f o : Int) (h0 : 0 ≤ cd) (h1 : cd ≤ 15) : holdsF cd f = holdsF cd (bits .or .i64 (bits .and .i64 f (usesF cd)) (bits .andNot .i64 o (usesF cd))) := by
  rw [holds_lo cd f h0 h1, holds_lo cd _ h0 h1, lo_or, lo_and, lo_andNot]
  have hi : (cd / 2).toNat < 8 := by omega
  obtain ⟨hu, ha⟩ := uses_all ⟨_, hi⟩
  have e : lo (usesF cd) = usesN (cd / 2).toNat := by
    unfold usesF
    rw [if_neg (by omega), show cd / 2 = (((cd / 2).toNat : Nat) : Int) by omega, usesI_N ⟨_, hi⟩, lo_nat _ hu]
    rfl
  rw [e, ha ⟨_, lo_lt f⟩ ⟨_, lo_lt o⟩]
theorem inv_in (cd : Int) (h0 : 0 ≤ cd) (h1 : cd ≤ 15) : 0 ≤ invF cd ∧ invF cd ≤ 15 ∧ invF (invF cd) = cd ∧ usesF (invF cd) = usesF cd ∧ invF cd / 2 = cd / 2 ∧ (invF cd % 2 = 0 ↔ ¬ cd % 2 = 0) := by
  have e : invF cd = if cd % 2 = 0 then cd + 1 else cd - 1 := by unfold invF; rw [if_neg (by omega)]
  have hd : invF cd / 2 = cd / 2 ∧ (invF cd % 2 = 0 ↔ ¬ cd % 2 = 0) ∧ 0 ≤ invF cd ∧ invF cd ≤ 15 := by rw [e]; split <;> omega
  refine ⟨hd.2.2.1, hd.2.2.2, ?_, ?_, hd.1, hd.2.1⟩
  · have e2 : ∀ x, 0 ≤ x → x ≤ 15 → invF x = if x % 2 = 0 then x + 1 else x - 1 := fun x k0 k1 => by
      unfold invF; rw [if_neg (by omega)]
    rw [e2 _ hd.2.2.1 hd.2.2.2, e]
    split <;> split <;> omega
  · unfold usesF
    rw [if_neg (by omega), if_neg (by omega), hd.1]
theorem inv_out (cd : Int) (h : cd < 0 ∨ 15 < cd) : invF cd = -1 ∧ usesF cd = 0 ∧ ∀ f, holdsF cd f = false := by
  refine ⟨?_, ?_, fun f => ?_⟩
  · unfold invF; rw [if_pos h]
  · unfold usesF; rw [if_pos h]
  · unfold holdsF; rw [if_pos h]
/-- Of a condition and its inverse exactly one holds. -/
theorem cond_inv (cd op a b c : Int) (h0 : 0 ≤ cd) (h1 : cd ≤ 15) : condF (invF cd) op a b c = !condF cd op a b c := by
  obtain ⟨k0, k1, _, _, hd, hp⟩ := inv_in cd h0 h1
  unfold condF
  rw [holds_lo _ _ k0 k1, holds_lo _ _ h0 h1, hd]
  cases holdsN (cd / 2).toNat (lo (flagsF op a b c)) <;> by_cases h : cd % 2 = 0 <;> simp_all
/-- Flags that are fixed are so. -/
theorem fixed_and (op a b c : Int) (h0 : 0 ≤ op) : bits .and .i64 (flagsF op a b c) (fixedF op) = 0 := by
  have hx : 0 ≤ fixedF op ∧ fixedF op < 16 := by
    unfold fixedF
    split
    · decide
    split
    · decide
    split <;> decide
  rw [and64_lo _ _ hx]
  by_cases h3 : op = 3
  · subst h3
    rw [fl3, show fixedF 3 = 12 from rfl]
    cases (a == 0) <;> cases (a / 2147483648 == 1) <;> (show _ = _; kernel_rfl)
  by_cases h456 : op = 4 ∨ op = 5 ∨ op = 6
  · have e : fixedF op = 8 := by unfold fixedF; rw [if_neg h3, if_pos h456]
    rw [e]
    rcases h456 with rfl | rfl | rfl
    · rw [fl4]
      cases (shlR a (b % 32) == 0) <;> cases (shlR a (b % 32) / 2147483648 == 1) <;> cases (outB a (b % 32) (32 - b % 32)) <;> (show _ = _; kernel_rfl)
    · rw [fl5]
      cases (shrR a (b % 32) == 0) <;> cases (shrR a (b % 32) / 2147483648 == 1) <;> cases (outB a (b % 32) ((b % 32 - 1) % 4294967296)) <;> (show _ = _; kernel_rfl)
    · rw [fl6]
      cases (sarR a (b % 32) == 0) <;> cases (sarR a (b % 32) / 2147483648 == 1) <;> cases (outB a (b % 32) ((b % 32 - 1) % 4294967296)) <;> (show _ = _; kernel_rfl)
  by_cases h8 : 8 < op
  · have e : flagsF op a b c = 0 := by unfold flagsF; rw [if_pos h8]
    rw [e, show lo 0 = 0 from rfl, Nat.zero_and]; rfl
  · have e : fixedF op = 0 := by unfold fixedF; rw [if_neg h3, if_neg h456, if_neg h8]
    rw [e, show lo 0 = 0 from rfl, Nat.and_zero]; rfl
theorem zero_andNot (m : Int) : bits .andNot .i64 0 m = 0 := by
  rw [andNot64_lo 0 m (by decide), show lo 0 = 0 from rfl, Nat.zero_and]; rfl
end Go.Proofs.Ytmkjgkldbonpnaa
/- Plain laws: the last expression that Simplify makes has the value of the condition. -/
namespace Go.Proofs.Ytmkjgkldbonpnaa
open Go Go.RowKit Go.Cd
set_option linter.unusedVariables false
set_option linter.unusedSimpArgs false

def Good (had : Int → Option Int) (tmp : Int) (L : List IExpr) (r : Int) : Prop := ∃ vs, Runs had tmp L vs ∧ vs.getLast? = some r ∧ ∃ e, L.getLast? = some e ∧ e.ty = 32
theorem cond_gen (cd op a b c : Int) (h0 : 0 ≤ cd) (h1 : cd ≤ 15) (ho : 1 ≤ op) (ho' : op ≤ 8) :
    condF cd op a b c = holdsZ cd (thunkR op a b c == 0) (thunkR op a b c / 2147483648 == 1) (thunkC op a b c) (thunkV op a b c) := by
  unfold condF holdsF flagsF
  rw [if_neg (by omega), if_neg (by omega), if_neg (by omega)]
  obtain ⟨e1, e2, e3, e4⟩ := has_num (thunkR op a b c == 0) (thunkR op a b c / 2147483648 == 1) (thunkC op a b c) (thunkV op a b c)
  rw [e1, e2, e3, e4]
theorem neg_bit (r : Int) (h : 0 ≤ r ∧ r < 4294967296) : (r / 2147483648 == 1) = decide (sg r < 0) := by
  rw [Bool.eq_iff_iff, beq_iff_eq, decide_eq_true_iff]
  unfold sg
  split <;> omega
theorem zero_bit (r : Int) : (r == 0) = decide (r = 0) := by
  rw [Bool.eq_iff_iff, beq_iff_eq, decide_eq_true_iff]
theorem some_tru {a b : Bool} (h : a = b) : some (tru a) = some (tru b) := by rw [h]
/-- The comparison of a result with zero. -/
theorem cmpR_val (i : Nat) (hi : i < 14) (r : Int) (hr : 0 ≤ r ∧ r < 4294967296) (c v : Bool) (h0 : cmpOpR i ≠ 0) (hcv : 5 < i → c = false ∧ v = false) :
    binV (cmpOpR i) (if cmpExR i = true then 0 else r) (if cmpExR i = true then r else 0) = some (tru (holdsZ i (r == 0) (r / 2147483648 == 1) c v)) := by
  have hs0 : sg 0 = 0 := rfl
  have hsg : sg r = 0 ↔ r = 0 := by unfold sg; split <;> omega
  have h' : i = 0 ∨ i = 1 ∨ i = 2 ∨ i = 3 ∨ i = 4 ∨ i = 5 ∨ i = 6 ∨ i = 7 ∨ i = 8 ∨ i = 9 ∨ i = 10 ∨ i = 11 ∨ i = 12 ∨ i = 13 := by omega
  rw [neg_bit r hr, zero_bit]
  generalize hs : sg r = s
  rw [hs] at hsg
  have hcv' : (c = false ∧ v = false) ∨ i ≤ 5 := by
    by_cases h5 : 5 < i
    · exact .inl (hcv h5)
    · exact .inr (by omega)
  clear hcv
  rcases h' with rfl | rfl | rfl | rfl | rfl | rfl | rfl | rfl | rfl | rfl | rfl | rfl | rfl | rfl
  all_goals first | exact absurd rfl h0 | skip
  all_goals clear h0
  all_goals simp only [cmpOpR, cmpExR, List.getD, List.getElem?_cons_zero, List.getElem?_cons_succ, Option.getD, if_true, Bool.false_eq_true, if_false, binV, hs0, hs]
  all_goals simp (decide := true) only [holdsZ, isAt, hs0, hs]
  all_goals apply some_tru
  all_goals rcases hcv' with ⟨rfl, rfl⟩ | hcv'
  all_goals first | (exfalso; omega) | (by_cases h1 : s < 0 <;> by_cases h2 : r = 0 <;> by_cases h3 : s = 0 <;> first | (exfalso; omega) | (simp [h1, h2, h3]; done) | (simp [h1, h2, h3]; omega))
/-- The comparison that a condition is behind a subtraction. -/
theorem cmpS_val (i : Nat) (hi : i < 14) (x y d : Int) (hx : 0 ≤ x ∧ x < 4294967296) (hy : 0 ≤ y ∧ y < 4294967296) (h0 : cmpOpS i ≠ 0) :
    binV (cmpOpS i) (if cmpExS i = true then y else x) (if cmpExS i = true then x else y) = some (tru (condF i 2 x y d)) := by
  rw [cond_sub i x y d hx hy (by omega) (by omega)]
  have hsg := sg_eq x y hx hy
  generalize hs : sg x = s at hsg ⊢
  generalize ht : sg y = t at hsg ⊢
  have h' : i = 0 ∨ i = 1 ∨ i = 2 ∨ i = 3 ∨ i = 4 ∨ i = 5 ∨ i = 6 ∨ i = 7 ∨ i = 8 ∨ i = 9 ∨ i = 10 ∨ i = 11 ∨ i = 12 ∨ i = 13 := by omega
  rcases h' with rfl | rfl | rfl | rfl | rfl | rfl | rfl | rfl | rfl | rfl | rfl | rfl | rfl | rfl
  all_goals first | exact absurd rfl h0 | skip
  all_goals clear h0
  all_goals simp only [cmpOpS, cmpExS, List.getD, List.getElem?_cons_zero, List.getElem?_cons_succ, Option.getD, if_true, Bool.false_eq_true, if_false, binV, hs, ht]
  all_goals simp (decide := true) only [hs, ht]
  all_goals clear hs ht
  all_goals apply some_tru
  all_goals by_cases h1 : s < t <;> by_cases h2 : x = y <;> by_cases h3 : x < y <;> by_cases h4 : s = t <;> first | (exfalso; omega) | (simp [h1, h2, h3, h4]; done) | (simp [h1, h2, h3, h4]; omega)
end Go.Proofs.Ytmkjgkldbonpnaa
