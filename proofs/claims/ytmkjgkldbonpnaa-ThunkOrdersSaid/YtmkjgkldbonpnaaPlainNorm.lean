/- Plain laws: the normal form has the same flags, and is its own normal form. -/
import Derived.Test.YtmkjgkldbonpnaaWFourEq
namespace Go.Proofs.Ytmkjgkldbonpnaa
open Go Go.RowKit Go.Cd
set_option linter.unusedVariables false

def flagsT (t : Four) : Int := flagsF t.1 t.2.1 t.2.2.1 t.2.2.2
def normT (t : Four) : Four := normF t.1 t.2.1 t.2.2.1 t.2.2.2
theorem fl3 (r x y : Int) : flagsF 3 r x y = flagNum (r == 0) (r / 2147483648 == 1) false false := rfl
theorem fl1 (a b x : Int) : flagsF 1 a b x = flagNum (sumR a b 0 == 0) (sumR a b 0 / 2147483648 == 1) (sumC a b 0) (sumV a b 0) := rfl
theorem fl2 (a b x : Int) : flagsF 2 a b x = flagNum (difR a b 0 == 0) (difR a b 0 / 2147483648 == 1) (difC a b 0) (difV a b 0) := rfl
theorem fl7 (a b x : Int) : flagsF 7 a b x = flagNum (sumR a b (x % 2) == 0) (sumR a b (x % 2) / 2147483648 == 1) (sumC a b (x % 2)) (sumV a b (x % 2)) := rfl
theorem fl8 (a b x : Int) : flagsF 8 a b x = flagNum (difR a b (x % 2) == 0) (difR a b (x % 2) / 2147483648 == 1) (difC a b (x % 2)) (difV a b (x % 2)) := rfl
theorem fl4 (a b x : Int) : flagsF 4 a b x = flagNum (shlR a (b % 32) == 0) (shlR a (b % 32) / 2147483648 == 1) (outB a (b % 32) (32 - b % 32)) false := rfl
theorem fl5 (a b x : Int) : flagsF 5 a b x = flagNum (shrR a (b % 32) == 0) (shrR a (b % 32) / 2147483648 == 1) (outB a (b % 32) ((b % 32 - 1) % 4294967296)) false := rfl
theorem fl6 (a b x : Int) : flagsF 6 a b x = flagNum (sarR a (b % 32) == 0) (sarR a (b % 32) / 2147483648 == 1) (outB a (b % 32) ((b % 32 - 1) % 4294967296)) false := rfl
theorem sum_z (a b : Int) (ha : 0 ≤ a ∧ a < 4294967296) (hb : 0 ≤ b ∧ b < 4294967296) (h : a = 0 ∨ b = 0) : sumR a b 0 = a + b ∧ sumC a b 0 = false ∧ sumV a b 0 = false := by
  have e : (a + b + 0) % 4294967296 = a + b := by omega
  refine ⟨e, ?_, ?_⟩
  · unfold sumC; rw [beq_eq_false_iff_ne]; omega
  · unfold sumV; rw [e, decide_eq_false_iff_not]
    rcases h with rfl | rfl <;> simp [sg]
theorem dif_z (a : Int) (ha : 0 ≤ a ∧ a < 4294967296) : difR a 0 0 = a ∧ difC a 0 0 = false ∧ difV a 0 0 = false := by
  have e : (a - 0 - 0) % 4294967296 = a := by omega
  refine ⟨e, ?_, ?_⟩
  · unfold difC; rw [decide_eq_false_iff_not]; omega
  · unfold difV; rw [e, decide_eq_false_iff_not]; simp [sg]
theorem norm2_1 (a b x : Int) (ha : 0 ≤ a ∧ a < 4294967296) (hb : 0 ≤ b ∧ b < 4294967296) : flagsT (norm2 1 a b) = flagsF 1 a b x := by
  unfold norm2 flagsT
  split
  · rename_i h
    subst h
    obtain ⟨e1, e2, e3⟩ := sum_z a 0 ha hb (.inr rfl)
    rw [fl3, fl1, e1, e2, e3, Int.add_zero]
  · split
    · rename_i h
      obtain ⟨_, rfl⟩ := h
      obtain ⟨e1, e2, e3⟩ := sum_z 0 b ha hb (.inl rfl)
      rw [fl3, fl1, e1, e2, e3, Int.zero_add]
    · rfl
theorem norm2_2 (a b x : Int) (ha : 0 ≤ a ∧ a < 4294967296) (hb : 0 ≤ b ∧ b < 4294967296) : flagsT (norm2 2 a b) = flagsF 2 a b x := by
  unfold norm2 flagsT
  split
  · rename_i h
    subst h
    obtain ⟨e1, e2, e3⟩ := dif_z a ha
    rw [fl3, fl2, e1, e2, e3]
  · rw [if_neg (by omega)]
    rfl
theorem out_z (a l : Int) : outB a 0 l = false := by unfold outB; simp
theorem shl_z (a : Int) (ha : 0 ≤ a ∧ a < 4294967296) : shlR a 0 = a := by
  unfold shlR; simp; omega
theorem shr_z (a : Int) : shrR a 0 = a := by unfold shrR; simp
theorem sar_z (a : Int) (ha : 0 ≤ a ∧ a < 4294967296) : sarR a 0 = a := by
  have h : wrap32 a % 4294967296 = a := by
    unfold wrap32; omega
  unfold sarR; simp [h]
theorem normF_flags (op a b c : Int) (h0 : 0 ≤ op ∧ op < 4294967296) (ha : 0 ≤ a ∧ a < 4294967296) (hb : 0 ≤ b ∧ b < 4294967296) (hc : 0 ≤ c ∧ c < 4294967296) : flagsT (normF op a b c) = flagsF op a b c := by
  unfold normF
  by_cases h : op = 0
  · subst h
    show a % 16 % 16 = a % 16
    omega
  rw [if_neg h]
  by_cases h7 : op = 7
  · subst h7
    rw [if_pos rfl]
    by_cases hc1 : c % 2 = 1
    · rw [if_pos hc1]
      show flagsF 7 a b 1 = _
      rw [fl7, fl7, hc1]; rfl
    · rw [if_neg hc1, norm2_1 a b 0 ha hb, fl1, fl7, show c % 2 = 0 by omega]
  rw [if_neg h7]
  by_cases h8 : op = 8
  · subst h8
    rw [if_pos rfl]
    by_cases hc1 : c % 2 = 1
    · rw [if_pos hc1]
      show flagsF 8 a b 1 = _
      rw [fl8, fl8, hc1]; rfl
    · rw [if_neg hc1, norm2_2 a b 0 ha hb, fl2, fl8, show c % 2 = 0 by omega]
  rw [if_neg h8]
  by_cases h456 : op = 4 ∨ op = 5 ∨ op = 6
  · rw [if_pos h456]
    by_cases hz : b % 32 = 0
    · rw [if_pos hz]
      show flagsF 3 a 0 0 = _
      rcases h456 with rfl | rfl | rfl
      · rw [fl3, fl4, hz, shl_z a ha, out_z]
      · rw [fl3, fl5, hz, shr_z a, out_z]
      · rw [fl3, fl6, hz, sar_z a ha, out_z]
    · rw [if_neg hz]
      have e : b % 32 % 32 = b % 32 := by omega
      show flagsF op a (b % 32) 0 = _
      rcases h456 with rfl | rfl | rfl
      · rw [fl4, fl4, e]
      · rw [fl5, fl5, e]
      · rw [fl6, fl6, e]
  rw [if_neg h456]
  by_cases h12 : op = 1 ∨ op = 2
  · rw [if_pos h12]
    rcases h12 with rfl | rfl
    · exact norm2_1 a b c ha hb
    · exact norm2_2 a b c ha hb
  rw [if_neg h12]
  by_cases h3 : op = 3
  · rw [if_pos h3]; subst h3; rfl
  rw [if_neg h3]
  unfold flagsF
  rw [if_pos (show 8 < op by omega)]
  rfl
theorem norm2_norm (op a b : Int) (h : op = 1 ∨ op = 2) : normT (norm2 op a b) = norm2 op a b := by
  unfold norm2 normT
  split
  · rfl
  · split
    · rfl
    · rename_i h1 h2
      rcases h with rfl | rfl
      · show norm2 1 a b = _
        unfold norm2; rw [if_neg h1, if_neg h2]
      · show norm2 2 a b = _
        unfold norm2; rw [if_neg h1, if_neg h2]
theorem normF_norm (op a b c : Int) (h0 : 0 ≤ op ∧ op < 4294967296) : normT (normF op a b c) = normF op a b c := by
  unfold normF
  by_cases h : op = 0
  · subst h
    show ((0, a % 16 % 16, 0, 0) : Four) = (0, a % 16, 0, 0)
    rw [show a % 16 % 16 = a % 16 by omega]
  rw [if_neg h]
  by_cases h7 : op = 7
  · subst h7
    rw [if_pos rfl]
    by_cases hc1 : c % 2 = 1
    · rw [if_pos hc1]; rfl
    · rw [if_neg hc1]; exact norm2_norm 1 a b (.inl rfl)
  rw [if_neg h7]
  by_cases h8 : op = 8
  · subst h8
    rw [if_pos rfl]
    by_cases hc1 : c % 2 = 1
    · rw [if_pos hc1]; rfl
    · rw [if_neg hc1]; exact norm2_norm 2 a b (.inr rfl)
  rw [if_neg h8]
  by_cases h456 : op = 4 ∨ op = 5 ∨ op = 6
  · rw [if_pos h456]
    by_cases hz : b % 32 = 0
    · rw [if_pos hz]; rfl
    · rw [if_neg hz]
      unfold normT
      dsimp only
      unfold normF
      rw [if_neg h, if_neg h7, if_neg h8, if_pos h456, show b % 32 % 32 = b % 32 by omega, if_neg hz]
  rw [if_neg h456]
  by_cases h12 : op = 1 ∨ op = 2
  · rw [if_pos h12]; exact norm2_norm op a b h12
  rw [if_neg h12]
  by_cases h3 : op = 3
  · rw [if_pos h3]; rfl
  rw [if_neg h3]; rfl
end Go.Proofs.Ytmkjgkldbonpnaa
