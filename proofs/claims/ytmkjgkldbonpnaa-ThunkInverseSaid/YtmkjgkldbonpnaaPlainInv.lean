/- Plain laws: conditions and their inverses; fixed flags; a condition hangs on the flags that it uses alone. -/
import Derived.Test.YtmkjgkldbonpnaaPlainMerge
import Derived.Test.YtmkjgkldbonpnaaWThunk
namespace Go.Cd
open Go
theorem lo_or (x y : Int) : lo (bits .or .i64 x y) = lo x ||| lo y := by
  have e : bits .or .i64 x y = IntKind.i64.wrap (((BitVec.ofInt 64 x ||| BitVec.ofInt 64 y).toNat : Nat) : Int) := rfl
  have h : ((x % 18446744073709551616).toNat ||| (y % 18446744073709551616).toNat) % 16 = (x % 18446744073709551616).toNat % 16 ||| (y % 18446744073709551616).toNat % 16 := Nat.or_mod_two_pow (n := 4)
  rw [e, lo_wrap, BitVec.toNat_or, bv64, bv64, h, lo_mod, lo_mod]
theorem lo_andNot (x y : Int) : lo (bits .andNot .i64 x y) = lo x &&& (15 - lo y) := by
  have e : bits .andNot .i64 x y = IntKind.i64.wrap (((BitVec.ofInt 64 x &&& ~~~BitVec.ofInt 64 y).toNat : Nat) : Int) := rfl
  have h2 : (2 ^ 64 - 1 - (y % 18446744073709551616).toNat) % 16 = 15 - lo y := by unfold lo; omega
  have h : ((x % 18446744073709551616).toNat &&& (2 ^ 64 - 1 - (y % 18446744073709551616).toNat)) % 16 = (x % 18446744073709551616).toNat % 16 &&& (2 ^ 64 - 1 - (y % 18446744073709551616).toNat) % 16 := Nat.and_mod_two_pow (n := 4)
  rw [e, lo_wrap, BitVec.toNat_and, BitVec.toNat_not, bv64, bv64, h, h2, lo_mod]
end Go.Cd
namespace Go.Proofs.Ytmkjgkldbonpnaa
open Go Go.RowKit Go.Cd
set_option linter.unusedVariables false
theorem hasB_lo (x f : Int) (hf : 0 ≤ f ∧ f < 16) : hasB x f = ((lo x &&& lo f) != 0) := by
  unfold hasB
  rw [and64_lo x f hf, Bool.eq_iff_iff, bne_iff_ne, bne_iff_ne]
  omega
/-- What a condition says of the lower four bits. -/
def holdsN (i : Nat) (f : Nat) : Bool := isAt ((f &&& 1) != 0) ((f &&& 2) != 0) ((f &&& 4) != 0) ((f &&& 8) != 0) (i : Int)
def usesN (i : Nat) : Nat := if i = 0 then 1 else if i = 1 then 4 else if i = 2 then 2 else if i = 3 then 8 else if i = 4 then 5 else if i = 5 then 10 else if i = 6 then 11 else 0
theorem usesI_N : ∀ i : Fin 8, usesI ((i.val : Nat) : Int) = (usesN i.val : Int) := by decide +kernel
theorem uses_all : ∀ i : Fin 8, usesN i.val < 16 ∧ ∀ f : Fin 16, ∀ o : Fin 16, holdsN i.val ((f.val &&& usesN i.val) ||| (o.val &&& (15 - usesN i.val))) = holdsN i.val f.val := by decide +kernel
theorem holds_lo (cd f : Int) (h0 : 0 ≤ cd) (h1 : cd ≤ 15) : holdsF cd f = (holdsN (cd / 2).toNat (lo f) == (cd % 2 == 0)) := by
  unfold holdsF
  rw [if_neg (by omega), hasB_lo f 1 (by decide), hasB_lo f 2 (by decide), hasB_lo f 4 (by decide), hasB_lo f 8 (by decide)]
  unfold holdsZ holdsN
  rw [show (((cd / 2).toNat : Nat) : Int) = cd / 2 by omega]
  rfl
/-- A condition hangs on the flags that it uses alone. -/
theorem holds_uses (cd f o : Int) (h0 : 0 ≤ cd) (h1 : cd ≤ 15) : holdsF cd f = holdsF cd (bits .or .i64 (bits .and .i64 f (usesF cd)) (bits .andNot .i64 o (usesF cd))) := by
  rw [holds_lo cd f h0 h1, holds_lo cd _ h0 h1, lo_or, lo_and, lo_andNot]
  have hi : (cd / 2).toNat < 8 := by omega
  obtain ⟨hu, ha⟩ := uses_all ⟨_, hi⟩
  have e : lo (usesF cd) = usesN (cd / 2).toNat := by
    unfold usesF
    rw [if_neg (by omega), show cd / 2 = (((cd / 2).toNat : Nat) : Int) by omega, usesI_N ⟨_, hi⟩, lo_nat _ hu]
    rfl
  rw [e, ha ⟨_, lo_lt f⟩ ⟨_, lo_lt o⟩]
theorem inv_in (cd : Int) (h0 : 0 ≤ cd) (h1 : cd ≤ 15) : 0 ≤ invF cd ∧ invF cd ≤ 15 ∧ invF (invF cd) = cd ∧ usesF (invF cd) = usesF cd ∧ invF cd / 2 = cd / 2 ∧ (invF cd % 2 = 0 ↔ ¬ cd % 2 = 0) := by
  have e : invF cd = if cd % 2 = 0 then cd + 1 else cd - 1 := by unfold invF; rw [if_neg (by omega)]
  have hd : invF cd / 2 = cd / 2 ∧ (invF cd % 2 = 0 ↔ ¬ cd % 2 = 0) ∧ 0 ≤ invF cd ∧ invF cd ≤ 15 := by rw [e]; split <;> omega
  refine ⟨hd.2.2.1, hd.2.2.2, ?_, ?_, hd.1, hd.2.1⟩
  · have e2 : ∀ x, 0 ≤ x → x ≤ 15 → invF x = if x % 2 = 0 then x + 1 else x - 1 := fun x k0 k1 => by
      unfold invF; rw [if_neg (by omega)]
    rw [e2 _ hd.2.2.1 hd.2.2.2, e]
    split <;> split <;> omega
  · unfold usesF
    rw [if_neg (by omega), if_neg (by omega), hd.1]
theorem inv_out (cd : Int) (h : cd < 0 ∨ 15 < cd) : invF cd = -1 ∧ usesF cd = 0 ∧ ∀ f, holdsF cd f = false := by
  refine ⟨?_, ?_, fun f => ?_⟩
  · unfold invF; rw [if_pos h]
  · unfold usesF; rw [if_pos h]
  · unfold holdsF; rw [if_pos h]
/-- Of a condition and its inverse exactly one holds. -/
theorem cond_inv (cd op a b c : Int) (h0 : 0 ≤ cd) (h1 : cd ≤ 15) : condF (invF cd) op a b c = !condF cd op a b c := by
  obtain ⟨k0, k1, _, _, hd, hp⟩ := inv_in cd h0 h1
  unfold condF
  rw [holds_lo _ _ k0 k1, holds_lo _ _ h0 h1, hd]
  cases holdsN (cd / 2).toNat (lo (flagsF op a b c)) <;> by_cases h : cd % 2 = 0 <;> simp_all
/-- Flags that are fixed are so. -/
theorem fixed_and (op a b c : Int) (h0 : 0 ≤ op) : bits .and .i64 (flagsF op a b c) (fixedF op) = 0 := by
  have hx : 0 ≤ fixedF op ∧ fixedF op < 16 := by
    unfold fixedF
    split
    · decide
    split
    · decide
    split <;> decide
  rw [and64_lo _ _ hx]
  by_cases h3 : op = 3
  · subst h3
    rw [fl3, show fixedF 3 = 12 from rfl]
    cases (a == 0) <;> cases (a / 2147483648 == 1) <;> (show _ = _; kernel_rfl)
  by_cases h456 : op = 4 ∨ op = 5 ∨ op = 6
  · have e : fixedF op = 8 := by unfold fixedF; rw [if_neg h3, if_pos h456]
    rw [e]
    rcases h456 with rfl | rfl | rfl
    · rw [fl4]
      cases (shlR a (b % 32) == 0) <;> cases (shlR a (b % 32) / 2147483648 == 1) <;> cases (outB a (b % 32) (32 - b % 32)) <;> (show _ = _; kernel_rfl)
    · rw [fl5]
      cases (shrR a (b % 32) == 0) <;> cases (shrR a (b % 32) / 2147483648 == 1) <;> cases (outB a (b % 32) ((b % 32 - 1) % 4294967296)) <;> (show _ = _; kernel_rfl)
    · rw [fl6]
      cases (sarR a (b % 32) == 0) <;> cases (sarR a (b % 32) / 2147483648 == 1) <;> cases (outB a (b % 32) ((b % 32 - 1) % 4294967296)) <;> (show _ = _; kernel_rfl)
  by_cases h8 : 8 < op
  · have e : flagsF op a b c = 0 := by unfold flagsF; rw [if_pos h8]
    rw [e, show lo 0 = 0 from rfl, Nat.zero_and]; rfl
  · have e : fixedF op = 0 := by unfold fixedF; rw [if_neg h3, if_neg h456, if_neg h8]
    rw [e, show lo 0 = 0 from rfl, Nat.and_zero]; rfl
theorem zero_andNot (m : Int) : bits .andNot .i64 0 m = 0 := by
  rw [andNot64_lo 0 m (by decide), show lo 0 = 0 from rfl, Nat.zero_and]; rfl
end Go.Proofs.Ytmkjgkldbonpnaa
