/- Plain laws of Merge: bits of the lower four. -/
import Derived.Test.YtmkjgkldbonpnaaPlainNorm
import Derived.Test.YtmkjgkldbonpnaaWRefC
namespace Go.Cd
open Go
theorem bv64 (x : Int) : (BitVec.ofInt 64 x).toNat = (x % 18446744073709551616).toNat := by
  rw [BitVec.toNat_ofInt]; rfl
/-- The lower four bits. -/
def lo (x : Int) : Nat := (x % 16).toNat
theorem lo_lt (x : Int) : lo x < 16 := by unfold lo; omega
theorem lo_self (x : Int) (h : 0 ≤ x ∧ x < 16) : (lo x : Int) = x := by unfold lo; omega
theorem and_lo (n y : Nat) (hy : y < 16) : n &&& y = (n % 16) &&& y := by
  apply Nat.eq_of_testBit_eq
  intro i
  rw [Nat.testBit_and, Nat.testBit_and, show (16 : Nat) = 2 ^ 4 from rfl, Nat.testBit_mod_two_pow]
  by_cases hi : i < 4
  · simp [hi]
  · have : y.testBit i = false := Nat.testBit_lt_two_pow (Nat.lt_of_lt_of_le hy (by
      have := Nat.pow_le_pow_right (show 1 ≤ 2 by decide) (show 4 ≤ i by omega)
      simpa using this))
    simp [this]
theorem and64_lo (x y : Int) (hy : 0 ≤ y ∧ y < 16) : bits .and .i64 x y = ((lo x &&& lo y : Nat) : Int) := by
  have e : bits .and .i64 x y = IntKind.i64.wrap (((BitVec.ofInt 64 x &&& BitVec.ofInt 64 y).toNat : Nat) : Int) := rfl
  have hy' : (y % 18446744073709551616).toNat = lo y := by unfold lo; omega
  have hx' : (x % 18446744073709551616).toNat % 16 = lo x := by unfold lo; omega
  rw [e, BitVec.toNat_and, bv64, bv64, hy', and_lo _ _ (lo_lt y), hx', IntKind.wrap_i64]
  have : lo x &&& lo y < 2 ^ 4 := Nat.and_lt_two_pow _ (lo_lt y)
  omega
theorem andNot64_lo (x y : Int) (hx : 0 ≤ x ∧ x < 16) : bits .andNot .i64 x y = ((lo x &&& (15 - lo y) : Nat) : Int) := by
  have e : bits .andNot .i64 x y = IntKind.i64.wrap (((BitVec.ofInt 64 x &&& ~~~BitVec.ofInt 64 y).toNat : Nat) : Int) := rfl
  have hx' : (x % 18446744073709551616).toNat = lo x := by unfold lo; omega
  rw [e, BitVec.toNat_and, BitVec.toNat_not, bv64, bv64, hx', Nat.and_comm, and_lo _ _ (lo_lt x)]
  have h : (2 ^ 64 - 1 - (y % 18446744073709551616).toNat) % 16 = 15 - lo y := by unfold lo; omega
  rw [h, Nat.and_comm, IntKind.wrap_i64]
  have : lo x &&& (15 - lo y) < 2 ^ 4 := Nat.and_lt_two_pow _ (by omega)
  omega
theorem or64_lo (x y : Int) (hx : 0 ≤ x ∧ x < 16) (hy : 0 ≤ y ∧ y < 16) : bits .or .i64 x y = ((lo x ||| lo y : Nat) : Int) := by
  have e : bits .or .i64 x y = IntKind.i64.wrap (((BitVec.ofInt 64 x ||| BitVec.ofInt 64 y).toNat : Nat) : Int) := rfl
  have hx' : (x % 18446744073709551616).toNat = lo x := by unfold lo; omega
  have hy' : (y % 18446744073709551616).toNat = lo y := by unfold lo; omega
  rw [e, BitVec.toNat_or, bv64, bv64, hx', hy', IntKind.wrap_i64]
  have : lo x ||| lo y < 2 ^ 4 := Nat.or_lt_two_pow (lo_lt x) (lo_lt y)
  omega
theorem lo_nat (n : Nat) (h : n < 16) : lo (n : Int) = n := by unfold lo; omega
theorem and_lt16 (a b : Nat) (hb : b < 16) : a &&& b < 16 := by
  have : a &&& b < 2 ^ 4 := Nat.and_lt_two_pow _ hb
  omega
theorem and_lt16' (a b : Nat) (ha : a < 16) : a &&& b < 16 := by rw [Nat.and_comm]; exact and_lt16 b a ha
theorem or_lt16 (a b : Nat) (ha : a < 16) (hb : b < 16) : a ||| b < 16 := by
  have : a ||| b < 2 ^ 4 := Nat.or_lt_two_pow ha hb
  omega
theorem lo_wrap (n : Nat) : lo (IntKind.i64.wrap (n : Int)) = n % 16 := by
  rw [IntKind.wrap_i64]; unfold lo; omega
theorem lo_mod (x : Int) : (x % 18446744073709551616).toNat % 16 = lo x := by unfold lo; omega
theorem lo_and (x y : Int) : lo (bits .and .i64 x y) = lo x &&& lo y := by
  have e : bits .and .i64 x y = IntKind.i64.wrap (((BitVec.ofInt 64 x &&& BitVec.ofInt 64 y).toNat : Nat) : Int) := rfl
  have h : ((x % 18446744073709551616).toNat &&& (y % 18446744073709551616).toNat) % 16 = (x % 18446744073709551616).toNat % 16 &&& (y % 18446744073709551616).toNat % 16 := Nat.and_mod_two_pow (n := 4)
  rw [e, lo_wrap, BitVec.toNat_and, bv64, bv64, h, lo_mod, lo_mod]
/-- Facts of four bits, all cases tried. -/
theorem four_own : ∀ f : Fin 16, ∀ m : Fin 16, ((f.val &&& (15 - m.val)) ||| (f.val &&& m.val)) = f.val := by decide +kernel
theorem four_mix : ∀ f : Fin 16, ∀ m : Fin 16, ∀ a : Fin 16, ((f.val &&& (15 - m.val)) &&& 15) ||| ((a.val &&& m.val) &&& 15) = (f.val &&& (15 - m.val)) ||| (a.val &&& m.val) := by decide +kernel
theorem four_twice : ∀ f : Fin 16, ∀ m : Fin 16, ∀ a : Fin 16, ((f.val &&& (15 - m.val)) ||| (a.val &&& m.val)) &&& (15 - m.val) = f.val &&& (15 - m.val) := by decide +kernel
theorem four_15 : ∀ f : Fin 16, ∀ a : Fin 16, (f.val &&& (15 - 15)) ||| (a.val &&& 15) = a.val &&& 15 := by decide +kernel
theorem four_m15 : ∀ m : Fin 16, m.val &&& 15 = m.val := by decide +kernel
theorem four_z : ∀ f : Fin 16, ∀ a : Fin 16, ((f.val &&& (15 - 0)) &&& 15) ||| ((a.val &&& 0) &&& 15) = f.val := by decide +kernel
end Go.Cd
namespace Go.Proofs.Ytmkjgkldbonpnaa
open Go Go.RowKit Go.Cd
set_option linter.unusedVariables false
theorem flagNum_bd (z n c v : Bool) : 0 ≤ flagNum z n c v ∧ flagNum z n c v < 16 := by
  cases z <;> cases n <;> cases c <;> cases v <;> exact ⟨by decide, by decide⟩
theorem flagsF_bd (op a b c : Int) : 0 ≤ flagsF op a b c ∧ flagsF op a b c < 16 := by
  unfold flagsF
  split
  · decide
  split
  · omega
  · exact flagNum_bd _ _ _ _
theorem mask_lo (mask : Int) : bits .and .i64 mask 15 = (lo mask : Int) := by
  rw [and64_lo mask 15 (by decide), show lo 15 = 15 from rfl, four_m15 ⟨lo mask, lo_lt mask⟩]
theorem mergeX_lo (f mask fl : Int) (hf : 0 ≤ f ∧ f < 16) : mergeX f (bits .and .i64 mask 15) fl = (((lo f &&& (15 - lo mask)) ||| (lo fl &&& lo mask) : Nat) : Int) := by
  have hm := lo_lt mask
  have h1 := and_lt16' (lo f) (15 - lo mask) (lo_lt f)
  have h2 := and_lt16 (lo fl) (lo mask) hm
  unfold mergeX
  rw [mask_lo, andNot64_lo f _ hf, and64_lo fl _ ⟨by omega, by omega⟩, lo_nat _ hm, or64_lo _ _ ⟨by omega, by omega⟩ ⟨by omega, by omega⟩, lo_nat _ h1, lo_nat _ h2]
  have h3 := or_lt16 _ _ h1 h2
  omega
theorem mergeF_bd (op a b c mask fl : Int) (h0 : 0 ≤ op ∧ op < 4294967296) (h1 : 0 ≤ a ∧ a < 4294967296) (h2 : 0 ≤ b ∧ b < 4294967296) (h3 : 0 ≤ c ∧ c < 4294967296) : Bd (mergeF op a b c mask fl) := by
  unfold mergeF
  split
  · exact normF_bd op a b c h0 h1 h2 h3
  · rw [mergeX_lo _ _ _ (flagsF_bd op a b c)]
    have h := or_lt16 _ _ (and_lt16' (lo (flagsF op a b c)) (15 - lo mask) (lo_lt _)) (and_lt16 (lo fl) (lo mask) (lo_lt mask))
    unfold Bd
    dsimp only
    omega
/-- Merge with all flags is a copy of them. -/
theorem merge_all (op a b c fl : Int) : mergeF op a b c 15 fl = (0, bits .and .i64 fl 15 % 4294967296, 0, 0) := by
  unfold mergeF
  rw [if_neg (by rw [mask_lo]; decide), mergeX_lo _ _ _ (flagsF_bd op a b c), show lo 15 = 15 from rfl, four_15 ⟨_, lo_lt _⟩ ⟨_, lo_lt _⟩, and64_lo fl 15 (by decide), show lo 15 = 15 from rfl]
  have := and_lt16 (lo fl) 15 (by decide)
  dsimp only
  congr 2
  omega
theorem copy_flags (x : Nat) (h : x < 16) : flagsT (0, (x : Int), 0, 0) = (x : Int) := by
  show (x : Int) % 16 = x
  omega
/-- Merging a thunk's own flags changes none. -/
theorem merge_own (op a b c mask : Int) (h0 : 0 ≤ op ∧ op < 4294967296) (h1 : 0 ≤ a ∧ a < 4294967296) (h2 : 0 ≤ b ∧ b < 4294967296) (h3 : 0 ≤ c ∧ c < 4294967296) : flagsT (mergeF op a b c mask (flagsF op a b c)) = flagsF op a b c := by
  have hb := flagsF_bd op a b c
  unfold mergeF
  split
  · exact normF_flags op a b c h0 h1 h2 h3
  · rw [mergeX_lo _ _ _ hb, four_own ⟨_, lo_lt _⟩ ⟨_, lo_lt mask⟩, copy_flags _ (lo_lt _)]
    exact lo_self _ hb
/-- The flags behind a merge. -/
theorem merge_flags (op a b c mask fl : Int) (h0 : 0 ≤ op ∧ op < 4294967296) (h1 : 0 ≤ a ∧ a < 4294967296) (h2 : 0 ≤ b ∧ b < 4294967296) (h3 : 0 ≤ c ∧ c < 4294967296) :
    flagsT (mergeF op a b c mask fl) = bits .or .i64 (bits .and .i64 (bits .andNot .i64 (flagsF op a b c) mask) 15) (bits .and .i64 (bits .and .i64 fl mask) 15) := by
  have hb := flagsF_bd op a b c
  have hm := lo_lt mask
  have k1 := and_lt16' (lo (flagsF op a b c)) (15 - lo mask) (lo_lt _)
  have e : bits .or .i64 (bits .and .i64 (bits .andNot .i64 (flagsF op a b c) mask) 15) (bits .and .i64 (bits .and .i64 fl mask) 15) = (((lo (flagsF op a b c) &&& (15 - lo mask)) ||| (lo fl &&& lo mask) : Nat) : Int) := by
    rw [and64_lo _ 15 (by decide), and64_lo _ 15 (by decide), andNot64_lo _ _ hb, lo_nat _ k1, lo_and, show lo 15 = 15 from rfl]
    have k3 := and_lt16 (lo (flagsF op a b c) &&& (15 - lo mask)) 15 (by decide)
    have k4 := and_lt16 (lo fl &&& lo mask) 15 (by decide)
    rw [or64_lo _ _ ⟨by omega, by omega⟩ ⟨by omega, by omega⟩, lo_nat _ k3, lo_nat _ k4, four_mix ⟨_, lo_lt _⟩ ⟨_, hm⟩ ⟨_, lo_lt fl⟩]
  rw [e]
  unfold mergeF
  split
  · rename_i h
    rw [mask_lo] at h
    have hz : lo mask = 0 := by omega
    rw [hz]
    have k := four_z ⟨_, lo_lt (flagsF op a b c)⟩ ⟨_, lo_lt fl⟩
    have k' := four_mix ⟨_, lo_lt (flagsF op a b c)⟩ ⟨0, by decide⟩ ⟨_, lo_lt fl⟩
    dsimp only at k k'
    rw [← k', k]
    exact (normF_flags op a b c h0 h1 h2 h3).trans (lo_self _ hb).symm
  · rw [mergeX_lo _ _ _ hb]
    exact copy_flags _ (or_lt16 _ _ k1 (and_lt16 (lo fl) (lo mask) hm))
/-- Merging twice with one mask is merging the second time alone. -/
theorem merge_twice (op a b c mask fl fm : Int) (h0 : 0 ≤ op ∧ op < 4294967296) :
    mergeF (mergeF op a b c mask fl).1 (mergeF op a b c mask fl).2.1 (mergeF op a b c mask fl).2.2.1 (mergeF op a b c mask fl).2.2.2 mask fm = mergeF op a b c mask fm := by
  have hb := flagsF_bd op a b c
  by_cases h : bits .and .i64 mask 15 = 0
  · have e : ∀ o a b c fl, mergeF o a b c mask fl = normF o a b c := fun o a b c fl => by unfold mergeF; rw [if_pos h]
    rw [e, e op a b c fl, e op a b c fm]
    exact normF_norm op a b c h0
  · have hm := lo_lt mask
    have k1 := and_lt16' (lo (flagsF op a b c)) (15 - lo mask) (lo_lt _)
    have k2 := or_lt16 _ _ k1 (and_lt16 (lo fl) (lo mask) hm)
    have e : ∀ o a b c fl, mergeF o a b c mask fl = (0, mergeX (flagsF o a b c) (bits .and .i64 mask 15) fl, 0, 0) := fun o a b c fl => by unfold mergeF; rw [if_neg h]
    rw [e op a b c fl, e op a b c fm]
    dsimp only
    rw [e, mergeX_lo _ _ fl hb]
    have ef : flagsF 0 (((lo (flagsF op a b c) &&& (15 - lo mask)) ||| (lo fl &&& lo mask) : Nat) : Int) 0 0 = (((lo (flagsF op a b c) &&& (15 - lo mask)) ||| (lo fl &&& lo mask) : Nat) : Int) := copy_flags _ k2
    rw [ef, mergeX_lo _ _ fm ⟨by omega, by omega⟩, lo_nat _ k2, four_twice ⟨_, lo_lt _⟩ ⟨_, hm⟩ ⟨_, lo_lt fl⟩, mergeX_lo _ _ fm hb]
end Go.Proofs.Ytmkjgkldbonpnaa
