/- Parts of the proof: SxN, Kit, KitMap, KitRow, KitHeap, KitRow2. -/
import Derived.Test.YtnoiijjkjcklpaaGreatZ0
import Derived.WalkKit
import Derived.WalkLawsBesides
import Derived.WalkSpells
import Derived.Handy
import Derived.Deep.QuietTactic
import Derived.BigQuiet
import Derived.Laws.EntriesVeiled
import Derived.Deep.RegionHeld3
import Derived.Deep.DrawnRows
import Derived.Lib.Hide
import Derived.Deep.DeepFit
import Derived.Deep.LoopGhost
import Derived.Deep.DeepCutAuto
import Derived.Deep.RegionWith
import Derived.Deep.RegionLaw
import Derived.StillTailTactics
import Derived.Carry
import Derived.MapKept
import Derived.Deep.MidRow
import Derived.RangeFuncRecord
import Derived.RowKit2
/- Terms are made simple as they are made. -/
namespace Go.Sx
set_option linter.unusedSimpArgs false
set_option linter.unusedVariables false
open Go

theorem wrap_congr (k : IntKind) {a b : Int} (h : a % (2 ^ k.bits : Int) = b % (2 ^ k.bits : Int)) : k.wrap a = k.wrap b := by
  unfold IntKind.wrap
  rw [h]
theorem wrap_emod (k : IntKind) (n : Int) : k.wrap n % (2 ^ k.bits : Int) = n % (2 ^ k.bits : Int) := by
  unfold IntKind.wrap
  dsimp only
  split
  · rw [Int.sub_emod, Int.emod_self, Int.sub_zero, Int.emod_emod, Int.emod_emod]
  · rw [Int.emod_emod]
theorem wrap_add (k : IntKind) (a b : Int) : k.wrap (k.wrap a + b) = k.wrap (a + b) := wrap_congr k (by rw [Int.add_emod, wrap_emod, ← Int.add_emod])
theorem wrap_add' (k : IntKind) (a b : Int) : k.wrap (a + k.wrap b) = k.wrap (a + b) := by rw [Int.add_comm, wrap_add, Int.add_comm]
theorem wrap_sub (k : IntKind) (a b : Int) : k.wrap (k.wrap a - b) = k.wrap (a - b) := wrap_congr k (by rw [Int.sub_emod, wrap_emod, ← Int.sub_emod])
theorem wrap_mul (k : IntKind) (a b : Int) : k.wrap (k.wrap a * b) = k.wrap (a * b) := wrap_congr k (by rw [Int.mul_emod, wrap_emod, ← Int.mul_emod])
theorem wrap_mul' (k : IntKind) (a b : Int) : k.wrap (a * k.wrap b) = k.wrap (a * b) := by rw [Int.mul_comm, wrap_mul, Int.mul_comm]
theorem kmin_le (k : IntKind) : k.min ≤ 0 := by cases k <;> decide
theorem kmax_ge (k : IntKind) : 0 ≤ k.max := by cases k <;> decide
def log2? (n : Int) : Option Nat :=
  match n with
  | .ofNat m => match Nat.beq (2 ^ Nat.log2 m) m with
    | true => some (Nat.log2 m)
    | false => none
  | _ => none
theorem log2?_ok {n : Int} {j : Nat} (h : log2? n = some j) : n = 2 ^ j := by
  unfold log2? at h
  split at h
  · rename_i m
    split at h
    · rename_i hb
      injection h with h; subst h
      have e := Nat.eq_of_beq_eq_true hb
      rw [show (2 : Int) ^ Nat.log2 m = ((2 ^ Nat.log2 m : Nat) : Int) by rw [Int.natCast_pow]; rfl, e]; rfl
    · cases h
  · cases h
theorem and_pow (k : IntKind) (x : Int) (j : Nat) (hx : 0 ≤ x) (hx' : x ≤ k.max) (hm : (2 : Int) ^ j - 1 ≤ k.max) : bits .and k x ((2 : Int) ^ j - 1) = x.tmod (2 ^ j) := by
  have e : bits .and k x ((2 : Int) ^ j - 1) = k.wrap (((BitVec.ofInt k.bits x &&& BitVec.ofInt k.bits ((2 : Int) ^ j - 1)).toNat : Nat) : Int) := rfl
  have hp : (0 : Int) < 2 ^ j := Int.pow_pos (by decide)
  have hb : k.max < ((2 ^ k.bits : Nat) : Int) := by cases k <;> decide
  obtain ⟨X, rfl⟩ := Int.eq_ofNat_of_zero_le hx
  have hpn : ((2 ^ j : Nat) : Int) = 2 ^ j := by rw [Int.natCast_pow]; rfl
  have hp2 : 1 ≤ 2 ^ j := Nat.one_le_two_pow
  have hm' : (2 : Int) ^ j - 1 = ((2 ^ j - 1 : Nat) : Int) := by rw [← hpn]; omega
  rw [hm'] at hm
  rw [e, hm', BitVec.toNat_and, BitVec.ofInt_natCast, BitVec.ofInt_natCast, BitVec.toNat_ofNat, BitVec.toNat_ofNat, Nat.mod_eq_of_lt (by omega), Nat.mod_eq_of_lt (by omega), Nat.and_two_pow_sub_one_eq_mod, ← hpn, ← Int.ofNat_tmod]
  have : X % 2 ^ j ≤ X := Nat.mod_le _ _
  exact wrap_same k (by have := kmin_le k; omega) (by omega)
theorem or_zero' (k : IntKind) (x : Int) (h : k.min ≤ x) (h' : x ≤ k.max) : bits .or k x 0 = x := by
  have e : bits .or k x 0 = k.wrap (((BitVec.ofInt k.bits x ||| BitVec.ofInt k.bits 0).toNat : Nat) : Int) := rfl
  have z : BitVec.ofInt k.bits 0 = 0#k.bits := by apply BitVec.eq_of_toNat_eq; simp
  rw [e, z, BitVec.or_zero]
  have h1 : (((BitVec.ofInt k.bits x).toNat : Nat) : Int) = x % ((2 ^ k.bits : Nat) : Int) := by
    rw [BitVec.toNat_ofInt]
    have h3 := Int.emod_nonneg x (b := ((2 ^ k.bits : Nat) : Int)) (by have := Nat.two_pow_pos k.bits; omega)
    omega
  rw [h1]
  have : k.wrap (x % ((2 ^ k.bits : Nat) : Int)) = k.wrap x := wrap_congr k (by rw [Int.natCast_pow]; exact Int.emod_emod _ _)
  rw [this, wrap_same k h h']
theorem bits_comm (k : IntKind) (x y : Int) : bits .and k x y = bits .and k y x ∧ bits .or k x y = bits .or k y x ∧ bits .xor k x y = bits .xor k y x := by
  refine ⟨?_, ?_, ?_⟩
  · show k.wrap (((BitVec.ofInt k.bits x &&& BitVec.ofInt k.bits y).toNat : Nat) : Int) = k.wrap (((BitVec.ofInt k.bits y &&& BitVec.ofInt k.bits x).toNat : Nat) : Int)
    rw [BitVec.and_comm]
  · show k.wrap (((BitVec.ofInt k.bits x ||| BitVec.ofInt k.bits y).toNat : Nat) : Int) = k.wrap (((BitVec.ofInt k.bits y ||| BitVec.ofInt k.bits x).toNat : Nat) : Int)
    rw [BitVec.or_comm]
  · show k.wrap (((BitVec.ofInt k.bits x ^^^ BitVec.ofInt k.bits y).toNat : Nat) : Int) = k.wrap (((BitVec.ofInt k.bits y ^^^ BitVec.ofInt k.bits x).toNat : Nat) : Int)
    rw [BitVec.xor_comm]
theorem op_comm (f : IOp) (h : (match f with | .add _ | .mul _ | .and _ | .or _ | .xor _ => true | _ => false) = true) (x y : Int) : f.f x y = f.f y x := by
  cases f <;> simp at h <;> simp only [IOp.f]
  · rw [Int.add_comm]
  · rw [Int.mul_comm]
  · exact (bits_comm _ _ _).1
  · exact (bits_comm _ _ _).2.1
  · exact (bits_comm _ _ _).2.2

def iteT (c : Bm) (a : Tm) : Tm :=
  match a with
  | .ite d x y => match Bm.same c d with
    | true => x
    | false => .ite d x y
  | a => a
def iteF (c : Bm) (a : Tm) : Tm :=
  match a with
  | .ite d x y => match Bm.same c d with
    | true => y
    | false => .ite d x y
  | a => a
theorem iteT_v [Val] {c : Bm} {a : Tm} (h : c.v = true) : (iteT c a).v = a.v := by
  unfold iteT
  split
  · split
    · rename_i hs
      have := Bm.same_eq hs; subst this
      rw [Tm.v, if_pos h]
    · rfl
  · rfl
theorem iteF_v [Val] {c : Bm} {a : Tm} (h : c.v = false) : (iteF c a).v = a.v := by
  unfold iteF
  split
  · split
    · rename_i hs
      have := Bm.same_eq hs; subst this
      rw [Tm.v, h]; rfl
    · rfl
  · rfl
def mkIte0 (c : Bm) (a b : Tm) : Tm :=
  match Tm.same a b with
  | true => a
  | false => .ite c a b
theorem mkIte0_v [Val] (c : Bm) (a b : Tm) : (mkIte0 c a b).v = if c.v then a.v else b.v := by
  unfold mkIte0
  split
  · rename_i hs
    have := Tm.same_eq hs; subst this
    split <;> rfl
  · rw [Tm.v]
def mkIte : Bm → Tm → Tm → Tm
  | .not c, a, b => mkIte c b a
  | .lit t, a, b => match t with
    | true => a
    | false => b
  | c, a, b => mkIte0 c (iteT c a) (iteF c b)
theorem mkIte1_v [Val] (c : Bm) (a b : Tm) : (mkIte0 c (iteT c a) (iteF c b)).v = if c.v then a.v else b.v := by
  rw [mkIte0_v]
  cases h : c.v with
  | true => exact iteT_v h
  | false => exact iteF_v h
theorem mkIte_v [Val] : ∀ (c : Bm) (a b : Tm), (mkIte c a b).v = if c.v then a.v else b.v
  | .not c, a, b => by
    rw [mkIte, mkIte_v c, Bm.v]
    cases c.v <;> rfl
  | .lit t, a, b => by cases t <;> rfl
  | .var i, a, b => mkIte1_v (.var i) a b
  | .cmp o x y, a, b => mkIte1_v (.cmp o x y) a b
  | .lop o x y, a, b => mkIte1_v (.lop o x y) a b
  | .ite x y z, a, b => mkIte1_v (.ite x y z) a b
  | .fn f l, a, b => mkIte1_v (.fn f l) a b

def wthn (t : Tm) (l h : Int) : Bool := t.within l h
def posIn (k : IntKind) (t : Tm) : Bool := t.within 0 k.max
def inK (k : IntKind) (t : Tm) : Bool := t.within k.min k.max
theorem inK_ok [Val] {k : IntKind} {t : Tm} (h : inK k t = true) : k.wrap t.v = t.v := by
  obtain ⟨h1, h2⟩ := Tm.within_ok h
  exact wrap_same k h1 h2
def apartB (k j : IntKind) (x y : Tm) (n : Int) : Bool :=
  match decide (0 < n), x.within 0 (n - 1), y.within 0 ((match decide (j.max ≤ k.max) with
    | true => j.max + 1
    | false => k.max + 1) / n - 1) with
  | true, true, true => true
  | _, _, _ => false
theorem apartB_ok [Val] {k j : IntKind} {x y : Tm} {n : Int} (h : apartB k j x y n = true) : 0 < n ∧ 0 ≤ x.v ∧ x.v < n ∧ 0 ≤ y.v ∧ j.wrap (y.v * n) = y.v * n ∧ k.wrap (x.v + y.v * n) = x.v + y.v * n ∧ x.v + y.v * n ≤ k.max ∧ 0 ≤ y.v * n := by
  unfold apartB at h
  split at h <;> try (cases h; done)
  rename_i h1 h2 h3
  have h1 := of_decide_eq_true h1
  obtain ⟨h2, h2'⟩ := Tm.within_ok h2
  obtain ⟨h3, h3'⟩ := Tm.within_ok h3
  generalize hB : (match decide (j.max ≤ k.max) with
    | true => j.max + 1
    | false => k.max + 1) = B at h3'
  have hBj : B ≤ j.max + 1 ∧ B ≤ k.max + 1 := by
    by_cases hd : j.max ≤ k.max
    · have hB : j.max + 1 = B := by rw [← hB, decide_eq_true hd]
      omega
    · have hB : k.max + 1 = B := by rw [← hB, decide_eq_false hd]
      omega
  have h4 : (y.v + 1) * n ≤ B := by
    have : y.v + 1 ≤ B / n := by omega
    exact Int.le_trans (Int.mul_le_mul_of_nonneg_right this (by omega)) (Int.ediv_mul_le _ (by omega))
  have h5 : (y.v + 1) * n = y.v * n + n := by rw [Int.add_mul, Int.one_mul]
  have h6 : 0 ≤ y.v * n := Int.mul_nonneg h3 (by omega)
  have := kmin_le k
  have := kmin_le j
  exact ⟨h1, h2, by omega, h3, wrap_same j (by omega) (by omega), wrap_same k (by omega) (by omega), by omega, h6⟩
def remS (x : Tm) (m : Int) : Tm := match x.within 0 (m - 1) with
  | true => x
  | false => .op .rem x (.lit m)
theorem remS_v [Val] (x : Tm) (m : Int) : (remS x m).v = x.v.tmod m := by
  unfold remS
  split
  · rename_i h
    obtain ⟨h1, h2⟩ := Tm.within_ok h
    exact (Int.tmod_eq_of_lt h1 (by omega)).symm
  · simp only [Tm.v, IOp.f]
def opRem (a : Tm) (m : Int) : Tm :=
  match a.within 0 (m - 1) with
  | true => a
  | false => match a with
    | .op .rem x (.lit n) => match decide (0 < m), decide (n % m = 0), x.within 0 IntKind.u64.max with
      | true, true, true => .op .rem x (.lit m)
      | _, _, _ => .op .rem a (.lit m)
    | .op (.add k) x (.op (.mul j) y (.lit n)) => match decide (0 < m), decide (n % m = 0), apartB k j x y n with
      | true, true, true => remS x m
      | _, _, _ => .op .rem a (.lit m)
    | a => .op .rem a (.lit m)
theorem opRem_v [Val] (a : Tm) (m : Int) : (opRem a m).v = a.v.tmod m := by
  unfold opRem
  split
  · rename_i h
    obtain ⟨h1, h2⟩ := Tm.within_ok h
    exact (Int.tmod_eq_of_lt h1 (by omega)).symm
  · split
    · rename_i x n _
      split
      · rename_i h1 h2 h3
        have h1 := of_decide_eq_true h1
        have h2 := of_decide_eq_true h2
        obtain ⟨h3, _⟩ := Tm.within_ok h3
        simp only [Tm.v, IOp.f]
        have hn : m ∣ n := Int.dvd_of_emod_eq_zero h2
        exact (Int.tmod_tmod_of_dvd _ hn).symm
      · simp only [Tm.v, IOp.f]
    · rename_i k j x y n _
      split
      · rename_i h1 h2 h3
        have h1 := of_decide_eq_true h1
        have h2 := of_decide_eq_true h2
        obtain ⟨g1, g2, g3, g4, g5, g6, g7, g8⟩ := apartB_ok h3
        rw [remS_v]
        simp only [Tm.v, IOp.f]
        rw [g5, g6, Int.tmod_eq_emod_of_nonneg g2, Int.tmod_eq_emod_of_nonneg (by omega)]
        obtain ⟨c, rfl⟩ : m ∣ n := Int.dvd_of_emod_eq_zero h2
        rw [Int.mul_comm m c, ← Int.mul_assoc, Int.add_mul_emod_self_right]
      · simp only [Tm.v, IOp.f]
    · simp only [Tm.v, IOp.f]
def quoT (k : IntKind) (a : Tm) (m : Int) : Tm := match decide (0 < m), a.within 0 k.max, a.within 0 4294967295 with
  | true, true, true => .op (.quo .u32) a (.lit m)
  | _, _, _ => .op (.quo k) a (.lit m)
theorem quoT_v [Val] (k : IntKind) (a : Tm) (m : Int) : (quoT k a m).v = k.wrap (a.v.tdiv m) := by
  unfold quoT
  split
  · rename_i h1 h2 h3
    have h1 := of_decide_eq_true h1
    obtain ⟨h2, h2'⟩ := Tm.within_ok h2
    obtain ⟨h3, h3'⟩ := Tm.within_ok h3
    simp only [Tm.v, IOp.f]
    rw [Int.tdiv_eq_ediv_of_nonneg h2]
    have g1 : 0 ≤ a.v / m := Int.ediv_nonneg h2 (by omega)
    have g2 : a.v / m ≤ a.v := Int.ediv_le_self _ h2
    have := kmin_le k
    rw [wrap_same k (by omega) (by omega)]
    exact wrap_same .u32 (show (0 : Int) ≤ _ from g1) (show _ ≤ (4294967295 : Int) by omega)
  · simp only [Tm.v, IOp.f]
def opQuo (k : IntKind) (a : Tm) (m : Int) : Tm :=
  match decide (m = 1), inK k a with
  | true, true => a
  | _, _ => match decide (0 < m), a.within 0 (m - 1) with
    | true, true => .lit 0
    | _, _ => match a with
      | .op (.add k') x (.op (.mul j) y (.lit n)) => match decide (n = m), apartB k' j x y n, inK k y with
        | true, true, true => y
        | _, _, _ => quoT k a m
      | a => quoT k a m
theorem opQuo_v [Val] (k : IntKind) (a : Tm) (m : Int) : (opQuo k a m).v = k.wrap (a.v.tdiv m) := by
  unfold opQuo
  split
  · rename_i h1 h2
    have h1 := of_decide_eq_true h1
    subst h1
    rw [Int.tdiv_one, inK_ok h2]
  · split
    · rename_i h1 h2
      have h1 := of_decide_eq_true h1
      obtain ⟨h2, h3⟩ := Tm.within_ok h2
      rw [Int.tdiv_eq_zero_of_lt h2 (by omega)]
      exact (wrap_same k (kmin_le k) (kmax_ge k)).symm
    · split
      · rename_i k' j x y n _
        split
        · rename_i h1 h2 h3
          have h1 := of_decide_eq_true h1; subst h1
          obtain ⟨g1, g2, g3, g4, g5, g6, g7, g8⟩ := apartB_ok h2
          have h3 := inK_ok h3
          simp only [Tm.v, IOp.f]
          rw [g5, g6, Int.tdiv_eq_ediv_of_nonneg (by omega), Int.add_mul_ediv_right _ _ (by omega), Int.ediv_eq_zero_of_lt g2 g3, Int.zero_add, h3]
        · exact quoT_v _ _ _
      · exact quoT_v _ _ _
def opMul (k : IntKind) (a : Tm) (m : Int) : Tm :=
  match decide (m = 1), inK k a with
  | true, true => a
  | _, _ => match decide (m = 0) with
    | true => .lit 0
    | false => match a with
      | .op (.mul j) x (.lit n) => match decide (j = k) with
        | true => .op (.mul k) x (.lit (k.wrap (n * m)))
        | false => .op (.mul k) a (.lit m)
      | a => .op (.mul k) a (.lit m)
theorem opMul_v [Val] (k : IntKind) (a : Tm) (m : Int) : (opMul k a m).v = k.wrap (a.v * m) := by
  unfold opMul
  split
  · rename_i h1 h2
    have h1 := of_decide_eq_true h1
    subst h1
    rw [Int.mul_one, inK_ok h2]
  · split
    · rename_i h1
      have h1 := of_decide_eq_true h1
      subst h1
      rw [Int.mul_zero]
      exact (wrap_same k (kmin_le k) (kmax_ge k)).symm
    · split
      · rename_i j x n
        split
        · rename_i hj
          have hj := of_decide_eq_true hj; subst hj
          simp only [Tm.v, IOp.f]
          rw [wrap_mul, wrap_mul', Int.mul_assoc]
        · simp only [Tm.v, IOp.f]
      · simp only [Tm.v, IOp.f]
def opAdd (k : IntKind) (a : Tm) (m : Int) : Tm :=
  match decide (m = 0), inK k a with
  | true, true => a
  | _, _ => match a with
    | .op (.add j) x (.lit n) => match decide (j = k) with
      | true => match decide (k.wrap (n + m) = 0), inK k x with
        | true, true => x
        | _, _ => .op (.add k) x (.lit (k.wrap (n + m)))
      | false => .op (.add k) a (.lit m)
    | a => .op (.add k) a (.lit m)
theorem opAdd_v [Val] (k : IntKind) (a : Tm) (m : Int) : (opAdd k a m).v = k.wrap (a.v + m) := by
  unfold opAdd
  split
  · rename_i h1 h2
    have h1 := of_decide_eq_true h1
    subst h1
    rw [Int.add_zero, inK_ok h2]
  · split
    · rename_i j x n _
      split
      · rename_i hj
        have hj := of_decide_eq_true hj; subst hj
        have e : ∀ z : Int, j.wrap (j.wrap (z + n) + m) = j.wrap (z + j.wrap (n + m)) := fun z => by rw [wrap_add, wrap_add', Int.add_assoc]
        split
        · rename_i h1 h2
          have h1 := of_decide_eq_true h1
          simp only [Tm.v, IOp.f]
          rw [e, h1, Int.add_zero, inK_ok h2]
        · simp only [Tm.v, IOp.f]
          rw [e]
      · simp only [Tm.v, IOp.f]
    · simp only [Tm.v, IOp.f]
def opR (f : IOp) (a : Tm) (m : Int) : Tm :=
  match f with
  | .shr k => match decide (m = 0) with
    | true => a
    | false => match decide (0 ≤ m), decide (m ≤ k.bits), posIn k a with
      | true, true, true => opQuo k a (2 ^ m.toNat)
      | _, _, _ => .op f a (.lit m)
  | .shl k => match decide (0 ≤ m), decide (m ≤ k.bits) with
    | true, true => opMul k a (2 ^ m.toNat)
    | _, _ => .op f a (.lit m)
  | .add k => opAdd k a m
  | .sub k => opAdd k a (k.wrap (0 - m))
  | .mul k => opMul k a m
  | .quo k => opQuo k a m
  | .rem => opRem a m
  | .and k => match log2? (m + 1), decide (m ≤ k.max), posIn k a with
    | some j, true, true => opRem a (2 ^ j)
    | _, _, _ => .op f a (.lit m)
  | .or k => match decide (m = 0), inK k a with
    | true, true => a
    | _, _ => .op f a (.lit m)
  | f => .op f a (.lit m)
theorem opR_v [Val] (f : IOp) (a : Tm) (m : Int) : (opR f a m).v = f.f a.v m := by
  cases f <;> simp only [opR]
  case add k => rw [opAdd_v, IOp.f]
  case sub k =>
    rw [opAdd_v, IOp.f, wrap_add']
    congr 1; omega
  case mul k => rw [opMul_v, IOp.f]
  case quo k => rw [opQuo_v, IOp.f]
  case rem => rw [opRem_v, IOp.f]
  case and k =>
    split
    · rename_i j h1 h2 h3
      have h1 := log2?_ok h1
      have h2 := of_decide_eq_true h2
      obtain ⟨h3, h4⟩ := Tm.within_ok h3
      rw [opRem_v, IOp.f]
      have e : m = 2 ^ j - 1 := by omega
      rw [e] at h2 ⊢
      exact (and_pow k _ j h3 h4 h2).symm
    · simp only [Tm.v]
  case or k =>
    split
    · rename_i h1 h2
      have h1 := of_decide_eq_true h1
      subst h1
      obtain ⟨h2, h3⟩ := Tm.within_ok h2
      rw [IOp.f]
      exact (or_zero' k _ h2 h3).symm
    · simp only [Tm.v]
  case shl k =>
    split
    · rename_i h1 h2
      have h1 := of_decide_eq_true h1
      have h2 := of_decide_eq_true h2
      rw [opMul_v, IOp.f, Nat.min_eq_left (by omega)]
    · simp only [Tm.v]
  case shr k =>
    split
    · rename_i h
      have h := of_decide_eq_true h
      subst h
      simp [IOp.f]
    · split
      · rename_i h1 h2 h3
        have h1 := of_decide_eq_true h1
        have h2 := of_decide_eq_true h2
        obtain ⟨h3, h4⟩ := Tm.within_ok h3
        have hp : (0 : Int) < 2 ^ m.toNat := Int.pow_pos (by decide)
        rw [opQuo_v, IOp.f, Nat.min_eq_left (by omega), Int.tdiv_eq_ediv_of_nonneg h3, Int.fdiv_eq_ediv_of_nonneg _ (by omega)]
        have h5 : 0 ≤ a.v / 2 ^ m.toNat := Int.ediv_nonneg h3 (by omega)
        have h6 : a.v / 2 ^ m.toNat ≤ a.v := Int.ediv_le_self _ h3
        exact wrap_same k (by have := kmin_le k; omega) (by omega)
      · simp only [Tm.v]
  all_goals simp only [Tm.v]
def commO : IOp → Bool
  | .add _ | .mul _ | .and _ | .or _ | .xor _ => true
  | _ => false
def joinT (k j : IntKind) (a y : Tm) (m : Int) : Tm :=
  match a, y with
  | .op .rem x (.lit m1), .op .rem (.op (.quo q) x2 (.lit m2)) (.lit n) => match decide (m1 = m), decide (m2 = m), Tm.same x x2, x.within 0 q.max, decide (0 < n), decide (0 < m) with
    | true, true, true, true, true, true => opRem x (m * n)
    | _, _, _, _, _, _ => .op (.add k) a (.op (.mul j) y (.lit m))
  | .op .rem x (.lit m1), .op (.quo q) x2 (.lit m2) => match decide (m1 = m), decide (m2 = m), Tm.same x x2, x.within 0 q.max, decide (0 < m) with
    | true, true, true, true, true => x
    | _, _, _, _, _ => .op (.add k) a (.op (.mul j) y (.lit m))
  | a, y => .op (.add k) a (.op (.mul j) y (.lit m))
theorem mod_parts (x m n : Int) (hm : 0 < m) (hn : 0 < n) : x % m + x / m % n * m = x % (m * n) := by
  have h1 := Int.mul_ediv_add_emod x m
  have h2 := Int.mul_ediv_add_emod (x / m) n
  have h3 := Int.emod_lt_of_pos x hm
  have h4 := Int.emod_nonneg x (Int.ne_of_gt hm)
  have h5 := Int.emod_lt_of_pos (x / m) hn
  have h6 := Int.emod_nonneg (x / m) (Int.ne_of_gt hn)
  have e : x = (x % m + x / m % n * m) + (m * n) * (x / m / n) := by
    have a1 : (m * n) * (x / m / n) = m * (n * (x / m / n)) := Int.mul_assoc _ _ _
    have a2 : m * (n * (x / m / n) + x / m % n) = m * (x / m) := by rw [h2]
    rw [Int.mul_add] at a2
    have a3 : x / m % n * m = m * (x / m % n) := Int.mul_comm _ _
    omega
  have h7 : x % m + x / m % n * m < m * n := by
    have a1 : (x / m % n + 1) * m ≤ n * m := Int.mul_le_mul_of_nonneg_right (by omega) (by omega)
    have a2 : (x / m % n + 1) * m = x / m % n * m + m := by rw [Int.add_mul, Int.one_mul]
    have a3 : n * m = m * n := Int.mul_comm _ _
    omega
  have h8 : 0 ≤ x % m + x / m % n * m := by
    have : 0 ≤ x / m % n * m := Int.mul_nonneg h6 (by omega)
    omega
  conv => rhs; rw [e]
  rw [Int.add_mul_emod_self_left, Int.emod_eq_of_lt h8 h7]
theorem joinT_v [Val] {k j : IntKind} {a y : Tm} {m : Int} (h5 : j.wrap (y.v * m) = y.v * m) (h6 : k.wrap (a.v + y.v * m) = a.v + y.v * m) : (joinT k j a y m).v = a.v + y.v * m := by
  unfold joinT
  split
  · rename_i x m1 q x2 m2 n
    split
    · rename_i g1 g2 g3 g4 g5 g6
      have g1 := of_decide_eq_true g1
      have g2 := of_decide_eq_true g2
      have g3 := Tm.same_eq g3
      rw [← g3, g1, g2]
      obtain ⟨g4, g4'⟩ := Tm.within_ok g4
      have g5 := of_decide_eq_true g5
      have g6 := of_decide_eq_true g6
      rw [opRem_v]
      simp only [Tm.v, IOp.f]
      have hq : x.v.tdiv m = x.v / m := Int.tdiv_eq_ediv_of_nonneg g4
      have hqb : 0 ≤ x.v / m ∧ x.v / m ≤ x.v := ⟨Int.ediv_nonneg g4 (by omega), Int.ediv_le_self _ g4⟩
      have := kmin_le q
      rw [hq, wrap_same q (by omega) (by omega), Int.tmod_eq_emod_of_nonneg g4, Int.tmod_eq_emod_of_nonneg g4, Int.tmod_eq_emod_of_nonneg hqb.1]
      exact (mod_parts _ _ _ g6 g5).symm
    · simp only [Tm.v, IOp.f] at h5 h6 ⊢
      rw [h5, h6]
  · rename_i x m1 q x2 m2
    split
    · rename_i g1 g2 g3 g4 g6
      have g1 := of_decide_eq_true g1
      have g2 := of_decide_eq_true g2
      have g3 := Tm.same_eq g3
      rw [← g3, g1, g2]
      obtain ⟨g4, g4'⟩ := Tm.within_ok g4
      have g6 := of_decide_eq_true g6
      simp only [Tm.v, IOp.f]
      have hq : x.v.tdiv m = x.v / m := Int.tdiv_eq_ediv_of_nonneg g4
      have hqb : 0 ≤ x.v / m ∧ x.v / m ≤ x.v := ⟨Int.ediv_nonneg g4 (by omega), Int.ediv_le_self _ g4⟩
      have := kmin_le q
      rw [hq, wrap_same q (by omega) (by omega), Int.tmod_eq_emod_of_nonneg g4]
      have h1 := Int.mul_ediv_add_emod x.v m
      have a3 : x.v / m * m = m * (x.v / m) := Int.mul_comm _ _
      omega
    · simp only [Tm.v, IOp.f] at h5 h6 ⊢
      rw [h5, h6]
  · simp only [Tm.v, IOp.f] at h5 h6 ⊢
    rw [h5, h6]
theorem or_nat (k : IntKind) (a b : Nat) (ha : (a : Int) ≤ k.max) (hb : (b : Int) ≤ k.max) (h : ((a ||| b : Nat) : Int) ≤ k.max) : bits .or k (a : Int) (b : Int) = ((a ||| b : Nat) : Int) := by
  have e : bits .or k (a : Int) (b : Int) = k.wrap (((BitVec.ofInt k.bits (a : Int) ||| BitVec.ofInt k.bits (b : Int)).toNat : Nat) : Int) := rfl
  have hk : k.max < ((2 ^ k.bits : Nat) : Int) := by cases k <;> decide
  rw [e, BitVec.toNat_or, BitVec.ofInt_natCast, BitVec.ofInt_natCast, BitVec.toNat_ofNat, BitVec.toNat_ofNat, Nat.mod_eq_of_lt (by omega), Nat.mod_eq_of_lt (by omega)]
  exact wrap_same k (by have := kmin_le k; omega) h
theorem or_low (k : IntKind) (x y : Int) (n : Nat) (hx : 0 ≤ x) (hx' : x < 2 ^ n) (hy : 0 ≤ y) (h : x + y * 2 ^ n ≤ k.max) : bits .or k x (y * 2 ^ n) = x + y * 2 ^ n := by
  obtain ⟨a, rfl⟩ := Int.eq_ofNat_of_zero_le hx
  obtain ⟨b, rfl⟩ := Int.eq_ofNat_of_zero_le hy
  have ha : a < 2 ^ n := by
    have : ((a : Nat) : Int) < ((2 ^ n : Nat) : Int) := by rw [Int.natCast_pow]; exact hx'
    omega
  have e : ((b : Int) * 2 ^ n) = ((b * 2 ^ n : Nat) : Int) := by rw [Int.natCast_mul, Int.natCast_pow]; rfl
  rw [e] at h ⊢
  have hor : a ||| b * 2 ^ n = a + b * 2 ^ n := by
    rw [Nat.or_comm, Nat.mul_comm b, ← Nat.two_pow_add_eq_or_of_lt ha, Nat.add_comm]
  have hk : ((a + b * 2 ^ n : Nat) : Int) ≤ k.max := by omega
  rw [or_nat k a (b * 2 ^ n) (by omega) (by omega) (by rw [hor]; exact hk), hor]
  omega
def op2 (f : IOp) (a b : Tm) : Tm :=
  match f, b with
  | .or k, .op (.mul j) y (.lit m) => match log2? m, apartB k j a y m with
    | some _, true => joinT k j a y m
    | _, _ => .op f a b
  | f, b => .op f a b
theorem op2_v [Val] (f : IOp) (a b : Tm) : (op2 f a b).v = f.f a.v b.v := by
  unfold op2
  split
  · rename_i k j y m
    split
    · rename_i n h1 h2
      have h1 := log2?_ok h1
      obtain ⟨g1, g2, g3, g4, g5, g6, g7, g8⟩ := apartB_ok h2
      rw [joinT_v g5 g6]
      simp only [Tm.v, IOp.f]
      rw [g5]
      subst h1
      exact (or_low k _ _ n g2 g3 g4 g7).symm
    · simp only [Tm.v]
  · simp only [Tm.v]
def mkOp (f : IOp) (a b : Tm) : Tm :=
  match a, b with
  | .lit x, .lit y => .lit (f.f x y)
  | .ite c (.lit x) (.lit y), .lit z => mkIte c (.lit (f.f x z)) (.lit (f.f y z))
  | .lit z, .ite c (.lit x) (.lit y) => mkIte c (.lit (f.f z x)) (.lit (f.f z y))
  | a, .lit m => opR f a m
  | .lit m, b => match commO f with
    | true => opR f b m
    | false => .op f (.lit m) b
  | a, b => op2 f a b
theorem mkOp_v [Val] (f : IOp) (a b : Tm) : (mkOp f a b).v = f.f a.v b.v := by
  unfold mkOp
  split
  · simp only [Tm.v]
  · rw [mkIte_v]; simp only [Tm.v]; split <;> rfl
  · rw [mkIte_v]; simp only [Tm.v]; split <;> rfl
  · rw [opR_v]; simp only [Tm.v]
  · split
    · rename_i h
      rw [opR_v]; simp only [Tm.v]
      exact op_comm f (by cases f <;> first | rfl | cases h) _ _
    · simp only [Tm.v]
  · exact op2_v _ _ _
def mkWrap (k : IntKind) (a : Tm) : Tm :=
  match inK k a with
  | true => a
  | false => match a with
    | .lit n => .lit (k.wrap n)
    | .ite c (.lit x) (.lit y) => mkIte c (.lit (k.wrap x)) (.lit (k.wrap y))
    | .un (.wrap j) x => match decide (k.bits ≤ j.bits) with
      | true => match inK k x with
        | true => x
        | false => .un (.wrap k) x
      | false => .un (.wrap k) a
    | a => match k.signed, a.within 0 IntKind.u64.max with
      | false, true => opRem a (2 ^ k.bits)
      | _, _ => .un (.wrap k) a
theorem wrap_wrap (k j : IntKind) (h : k.bits ≤ j.bits) (n : Int) : k.wrap (j.wrap n) = k.wrap n := by
  refine wrap_congr k ?_
  have hd : (2 : Int) ^ k.bits ∣ 2 ^ j.bits := by
    have : (2 ^ k.bits : Nat) ∣ 2 ^ j.bits := Nat.pow_dvd_pow 2 h
    have e := Int.natCast_dvd_natCast.2 this
    simpa using e
  rw [← Int.emod_emod_of_dvd (j.wrap n) hd, wrap_emod, Int.emod_emod_of_dvd _ hd]
theorem mkWrap_v [Val] (k : IntKind) (a : Tm) : (mkWrap k a).v = k.wrap a.v := by
  unfold mkWrap
  split
  · rename_i h; exact (inK_ok h).symm
  · split
    · simp only [Tm.v]
    · rw [mkIte_v]; simp only [Tm.v]; split <;> rfl
    · rename_i j x _
      split
      · rename_i h
        have h := of_decide_eq_true h
        split
        · rename_i h2
          simp only [Tm.v, UOp.f]
          rw [wrap_wrap k j h, inK_ok h2]
        · simp only [Tm.v, UOp.f]
          rw [wrap_wrap k j h]
      · simp only [Tm.v, UOp.f]
    · split
      · rename_i h1 h2
        obtain ⟨h2, _⟩ := Tm.within_ok h2
        rw [opRem_v, Int.tmod_eq_emod_of_nonneg h2]
        unfold IntKind.wrap
        rw [h1]
        simp
      · simp only [Tm.v, UOp.f]
def SI.ofTm : Tm → SI
  | .lit n => .lit n
  | t => .sym t
@[simp] theorem SI.ofTm_v [Val] (t : Tm) : (SI.ofTm t).v = t.v := by cases t <;> rfl
end Go.Sx
/- Small laws for walks: a call through a function value in a slot; what is below stays. -/
namespace Go.Cd
open Go Go.RowKit

def callValue (v : Value) (args : Array Value) : Sem Next := do let d ← Deferred.ofValue v args; invoke d.target d.args
theorem execOp_call_tmp (a : Act) (dst : Option Tmp) (t : Nat) (xs : Array Operand) (ats : Array TypeId) (ty : TypeId) (pos : String) (after : Array Edge) (guard : Option (Nat × Bool)) :
    execOp a.eval { dst, op := .call { callee := .value (.tmp t), args := xs, argTypes := ats }, type := ty, pos, after, guard } = callValue (a.eval (.tmp t)) (xs.map a.eval) := rfl
theorem callValue_func (f : FuncId) (first captured args : Array Value) : callValue (.func (.func f) first captured) args = callFunc f (first ++ args ++ captured) := rfl
theorem callValue_yield (l : Nat) (first captured args : Array Value) : callValue (.func (.yield l) first captured) args = Instr.yield l (first ++ args) := rfl
attribute [go_sem ↓] execOp_call_tmp callValue_func callValue_yield

abbrev New (w w' : World) : Prop := Below w.heap.size w w'
theorem New.refl (w : World) : New w w := Below.refl _ _

theorem bcell {W w1 : World} (hb : New W w1) : (∀ b o, b < W.heap.size → w1.cell? ⟨b, o, none⟩ = W.cell? ⟨b, o, none⟩) ∧ (∀ b o, b < W.heap.size → w1.frozen? ⟨b, o, none⟩ = W.frozen? ⟨b, o, none⟩) :=
  ⟨fun b o h => hb.cell (p := ⟨b, o, none⟩) h, fun b o h => hb.frozen (p := ⟨b, o, none⟩) h⟩
theorem bcell3 {W w1 : World} (hb : New W w1) : (∀ b o, b < W.heap.size → w1.cell? ⟨b, o, none⟩ = W.cell? ⟨b, o, none⟩) ∧ (∀ b o, b < W.heap.size → w1.frozen? ⟨b, o, none⟩ = W.frozen? ⟨b, o, none⟩) ∧ W.heap.size ≤ w1.heap.size :=
  ⟨fun b o h => hb.cell (p := ⟨b, o, none⟩) h, fun b o h => hb.frozen (p := ⟨b, o, none⟩) h, hb.size⟩
theorem Calls.new {P : Program} {f : FuncId} {args : Array Value} {w : World} {v : Value} (h : Calls P f args w fun e w' => e = .returned v ∧ w = w') : Calls P f args w fun e w' => e = .returned v ∧ New w w' :=
  h.mono fun _ _ ⟨he, hw⟩ => ⟨he, hw ▸ New.refl _⟩
theorem ret_bool {a b : Bool} (h : a = b) : Ending.returned (.bool a) = .returned (.bool b) := by rw [h]
theorem ret_int {k : IntKind} {a b : Int} (h : a = b) : Ending.returned (.int k a) = .returned (.int k b) := by rw [h]
end Go.Cd
/- Laws for small maps that a function makes itself: whole numbers as keys, all entries known. -/
namespace Go.Cd
open Go Go.RowKit Go.MapKept

theorem heap_alloc_at (w : World) (o : Obj) (r : Nat) (hr : r = w.heap.size) : (w.alloc o).heap[r]? = some o := by
  subst hr; exact (MapKept.heap_alloc w _).1
theorem alloc_set_at (w : World) (o o' : Obj) (r : Nat) (hr : r = w.heap.size) : ({ (w.alloc o) with heap := (w.alloc o).heap.setIfInBounds r o' } : World) = w.alloc o' := by
  subst hr
  show ({ heap := (w.heap.push o).setIfInBounds w.heap.size o', tape := w.tape, drawn := w.drawn, os := w.os, output := w.output } : World) = { heap := w.heap.push o', tape := w.tape, drawn := w.drawn, os := w.os, output := w.output }
  have e : (w.heap.push o).setIfInBounds w.heap.size o' = w.heap.push o' := by
    rw [← Array.toList_inj, Array.toList_setIfInBounds, Array.toList_push, Array.toList_push, ← Array.length_toList, List.set_append_right _ _ (Nat.le_refl _)]
    simp
  rw [e]

theorem isKey_int (j : IntKind) (k : Int) : IsKey (.int j) (.int j k) := rfl
section
variable {P : Program} {T K E : TypeId} {j : IntKind} (hT : P.underlying T = some (.map K E)) (hK : P.underlying K = some (.int j))
include hT hK
theorem run_mapInsert (es : Array MapEntry) (c : Nat) (k : Int) (v : Value) (w : World) (r : Nat) (hr : r = w.heap.size) (hf : Instr.findNow (.int j) (.int j k) es.toList 0 = some none) :
    (Instr.mapUpdate T (.map (some r)) (.int j k) v).run P (w.alloc (.map es c)) = .ok () (w.alloc (.map (es.push { key := .int j k, val := v, born := c }) (c + 1))) := by
  have h1 := heap_alloc_at w (.map es c) r hr
  have h2 := alloc_set_at w (.map es c) (.map (es.push { key := .int j k, val := v, born := c }) (c + 1)) r hr
  simp only [Instr.mapUpdate, Sem.run_bind, run_underlying hT, MapKept.run_getObj_map h1, run_checkKey hK (isKey_int j k), run_findKey hK hf, MapKept.run_setObj_map _ h1, Result.andThen, h2]
theorem run_mapGet (es : Array MapEntry) (c : Nat) (k : Int) (i : Nat) (v : Value) (w : World) (r : Nat) (hb : w.heap[r]? = some (.map es c)) (hf : Instr.findNow (.int j) (.int j k) es.toList 0 = some (some (i, v))) (ok : Bool) :
    (Instr.lookup T (.map (some r)) (.int j k) ok).run P w = .ok (if ok then .tuple #[v, .bool true] else v) w := by
  simp [Instr.lookup, run_underlying hT, MapKept.run_getObj_map hb, run_checkKey hK (isKey_int j k), run_findKey hK hf, Result.andThen]
theorem run_mapGet_at (es : Array MapEntry) (c : Nat) (k : Int) (i : Nat) (v : Value) (w : World) (r : Nat) (hr : r = w.heap.size) (hf : Instr.findNow (.int j) (.int j k) es.toList 0 = some (some (i, v))) (ok : Bool) :
    (Instr.lookup T (.map (some r)) (.int j k) ok).run P (w.alloc (.map es c)) = .ok (if ok then .tuple #[v, .bool true] else v) (w.alloc (.map es c)) :=
  run_mapGet hT hK es c k i v _ r (heap_alloc_at w _ r hr) hf ok
theorem run_mapMiss (es : Array MapEntry) (c : Nat) (k : Int) (z : Value) (w : World) (r : Nat) (hb : w.heap[r]? = some (.map es c)) (hz : (zeroValue E).run P w = .ok z w) (hf : Instr.findNow (.int j) (.int j k) es.toList 0 = some none) (ok : Bool) :
    (Instr.lookup T (.map (some r)) (.int j k) ok).run P w = .ok (if ok then .tuple #[z, .bool false] else z) w := by
  simp [Instr.lookup, run_underlying hT, MapKept.run_getObj_map hb, run_checkKey hK (isKey_int j k), run_findKey hK hf, hz, Result.andThen]
end
end Go.Cd
/- Whole structs and arrays, stored into blocks of the call's own and loaded from them, with no unrolling. -/
namespace Go.Cd
open Go Go.RowKit

def spl (c : Array Value) : Nat → List Value → Array Value
  | _, [] => c
  | o, v :: r => spl (c.setIfInBounds o v) (o + 1) r
theorem spl_size : ∀ (vs : List Value) (c : Array Value) (o : Nat), (spl c o vs).size = c.size
  | [], _, _ => rfl
  | v :: r, c, o => by rw [spl, spl_size r, Array.size_setIfInBounds]
theorem spl_get : ∀ (vs : List Value) (c : Array Value) (o i : Nat), o + vs.length ≤ c.size → (spl c o vs)[i]? = if o ≤ i ∧ i < o + vs.length then vs[i - o]? else c[i]?
  | [], c, o, i, _ => by rw [if_neg (by simp only [List.length_nil]; omega)]; rfl
  | v :: r, c, o, i, h => by
    rw [spl, spl_get r _ _ _ (by simp at h ⊢; omega)]
    simp only [List.length_cons] at h ⊢
    by_cases h1 : o + 1 ≤ i ∧ i < o + 1 + r.length
    · rw [if_pos h1, if_pos (by omega), show i - o = (i - (o + 1)) + 1 by omega]; rfl
    · rw [if_neg h1]
      by_cases h2 : i = o
      · subst h2
        rw [if_pos (by omega), Nat.sub_self, Array.getElem?_setIfInBounds_self]
        simp; omega
      · rw [if_neg (by omega)]
        simp [Ne.symm h2]
theorem spl_full (vs : List Value) (c : Array Value) (h : c.size = vs.length) : spl c 0 vs = vs.toArray := by
  apply Array.ext_getElem?
  intro i
  rw [spl_get vs c 0 i (by omega)]
  by_cases hi : i < vs.length
  · rw [if_pos (by omega)]; simp
  · rw [if_neg (by omega), Array.getElem?_eq_none (by omega), Array.getElem?_eq_none (by simpa using Nat.le_of_not_lt hi)]
theorem setCell_new (w : World) (c : Array Value) (t : TypeId) (b o : Nat) (v : Value) (hb : b = w.heap.size) : (w.alloc (.cells c t)).setCell ⟨b, o, none⟩ v = w.alloc (.cells (c.setIfInBounds o v) t) := by
  subst hb
  exact World.setCell_alloc_at _ _ _ _ _ rfl
theorem setCells_new (w : World) (t : TypeId) (b : Nat) (hb : b = w.heap.size) : ∀ (vs : List Value) (c : Array Value) (o : Nat), (w.alloc (.cells c t)).setCells b o vs = w.alloc (.cells (spl c o vs) t)
  | [], _, _ => rfl
  | v :: r, c, o => by rw [World.setCells, setCell_new w c t b o v hb, setCells_new w t b hb r]; rfl
theorem setCells_past (b : Nat) (ob : Obj) : ∀ (vs : List Value) (o : Nat) (w : World), b < w.heap.size → (w.alloc ob).setCells b o vs = (w.setCells b o vs).alloc ob
  | [], _, _, _ => rfl
  | v :: r, o, w, h => by
    have e : (w.alloc ob).setCell ⟨b, o, none⟩ v = (w.setCell ⟨b, o, none⟩ v).alloc ob := World.setCell_alloc_past _ _ _ _ h
    rw [World.setCells, World.setCells, e, setCells_past b ob r (o + 1) _ (by simpa using h)]
theorem there_new (w : World) (c : Array Value) (t : TypeId) (b : Nat) (hb : b = w.heap.size) : (w.alloc (.cells c t)).there b 0 c.size := by
  subst hb
  intro j hj
  refine ⟨?_, ?_⟩
  · rw [Nat.zero_add, World.cell?_alloc_new]; simp [hj]
  · rw [frozen?_alloc_cells]
    simp [World.frozen?]
def Ones (l : List Value) : Prop := ∀ v ∈ l, v.oneCell' = true
theorem ones_nil : Ones [] = True := by simp [Ones]
theorem ones_int (k : IntKind) (n : Int) (l : List Value) : Ones (.int k n :: l) = Ones l := by simp [Ones, Value.oneCell']
theorem ones_bool (b : Bool) (l : List Value) : Ones (.bool b :: l) = Ones l := by simp [Ones, Value.oneCell']
theorem ones_slice (a : Option Addr) (n c : Nat) (l : List Value) : Ones (.slice a n c :: l) = Ones l := by simp [Ones, Value.oneCell']
theorem ones_pointer (a : Option Addr) (l : List Value) : Ones (.pointer a :: l) = Ones l := by simp [Ones, Value.oneCell']
theorem ones_all {l : List Value} (h : Ones l) : l.toArray.all (·.oneCell') = true := all_oneCell_toArray h
section
variable {P : Program}
theorem store_new (ty : TypeId) (n : Nat) (c cs : Array Value) (t : TypeId) (w : World) (hn : n = w.heap.size) (hc : c.size = cs.size) (hi : (P.info? ty).map (·.size) = some cs.size) (h1 : cs.all (·.oneCell') = true) :
    (storeVar ty ⟨n, 0, none⟩ (.agg cs)).run P (w.alloc (.cells c t)) = .ok () (w.alloc (.cells cs t)) := by
  rw [run_storeVar_mid _ n 0 ty cs (by rw [← hc]; exact there_new w c t n hn) hi h1, setCells_new w t n hn, spl_full _ _ (by simpa using hc)]
theorem store_new2 (ty : TypeId) (n : Nat) (c cs : Array Value) (t : TypeId) (ob : Obj) (w : World) (hn : n = w.heap.size) (hc : c.size = cs.size) (hi : (P.info? ty).map (·.size) = some cs.size) (h1 : cs.all (·.oneCell') = true) :
    (storeVar ty ⟨n, 0, none⟩ (.agg cs)).run P ((w.alloc (.cells c t)).alloc ob) = .ok () ((w.alloc (.cells cs t)).alloc ob) := by
  rw [run_storeVar_mid _ n 0 ty cs (World.there_alloc (by rw [← hc]; exact there_new w c t n hn) ob) hi h1, setCells_past _ _ _ _ _ (by simp; omega), setCells_new w t n hn, spl_full _ _ (by simpa using hc)]
theorem load_row (ty : TypeId) (n : Nat) (cs : Array Value) (t : TypeId) (d : TypeDesc) (w : World) (hb : w.heap[n]? = some (.cells cs t)) (hu : P.underlying ty = some d) (hd : d.isRow = true) (hi : (P.info? ty).map (·.size) = some cs.size) :
    (loadVar ty ⟨n, 0, none⟩).run P w = .ok (.agg cs) w := by
  have h := run_loadVar_mid (P := P) w n 0 ty cs.toList d (by
    have := World.rangeAt_of_block hb 0 cs.size
    rwa [Nat.zero_add, Array.extract_size] at this) hu hd (by simpa using hi)
  simpa using h
theorem load_new (ty : TypeId) (n : Nat) (cs : Array Value) (t : TypeId) (d : TypeDesc) (w : World) (hn : n = w.heap.size) (hu : P.underlying ty = some d) (hd : d.isRow = true) (hi : (P.info? ty).map (·.size) = some cs.size) :
    (loadVar ty ⟨n, 0, none⟩).run P (w.alloc (.cells cs t)) = .ok (.agg cs) (w.alloc (.cells cs t)) := load_row ty n cs t d _ (heap_alloc_at _ _ _ hn) hu hd hi
theorem load_new2 (ty : TypeId) (n : Nat) (cs : Array Value) (t : TypeId) (ob : Obj) (d : TypeDesc) (w : World) (hn : n = w.heap.size) (hu : P.underlying ty = some d) (hd : d.isRow = true) (hi : (P.info? ty).map (·.size) = some cs.size) :
    (loadVar ty ⟨n, 0, none⟩).run P ((w.alloc (.cells cs t)).alloc ob) = .ok (.agg cs) ((w.alloc (.cells cs t)).alloc ob) :=
  load_row ty n cs t d _ (((MapKept.heap_alloc (w.alloc (.cells cs t)) ob).2 n (by simp; omega)).trans (heap_alloc_at _ _ _ hn)) hu hd hi
def storeRow (t : TypeId) (p v : Value) : Sem Next := do Instr.storeAt t p v; pure .skip
def loadRow (t : TypeId) (p : Value) : Sem Next := do pure (.value (← Instr.loadAt t p))
theorem execOp_storeRow (a : Act) (dst : Option Tmp) (t : TypeId) (x y : Operand) (ty : TypeId) (pos : String) (after : Array Edge) (guard : Option (Nat × Bool)) :
    execOp a.eval { dst, op := .store t x y, type := ty, pos, after, guard } = storeRow t (a.eval x) (a.eval y) := rfl
theorem execOp_loadRow (a : Act) (dst : Option Tmp) (t : TypeId) (x : Operand) (ty : TypeId) (pos : String) (after : Array Edge) (guard : Option (Nat × Bool)) :
    execOp a.eval { dst, op := .load t x, type := ty, pos, after, guard } = loadRow t (a.eval x) := rfl
theorem run_storeRow (ty : TypeId) (n k : Nat) (v : Value) (w w' : World) (h : (storeVar ty ⟨n, k, none⟩ v).run P w = .ok () w') : (storeRow ty (.pointer (some ⟨n, k, none⟩)) v).run P w = .ok .skip w' := by
  simp only [storeRow, Instr.storeAt, Instr.sureAddr, Sem.run_bind, Sem.run_pure, Result.andThen_ok, h]
theorem run_loadRow (ty : TypeId) (n k : Nat) (v : Value) (w w' : World) (h : (loadVar ty ⟨n, k, none⟩).run P w = .ok v w') : (loadRow ty (.pointer (some ⟨n, k, none⟩))).run P w = .ok (.value v) w' := by
  simp only [loadRow, Instr.loadAt, Instr.sureAddr, Sem.run_bind, Sem.run_pure, Result.andThen_ok, h]
theorem results_rows2 {fn : Func} {p q : Tmp} {ty ty2 : TypeId} (h : fn.results = #[.cell p ty, .cell q ty2]) (tmps : Array Value) (w : World) (a b : Addr) (v1 v2 : Value)
    (hp : tmps.getD p undef = .pointer (some a)) (hq : tmps.getD q undef = .pointer (some b)) (h1 : (loadVar ty a).run P w = .ok v1 w) (h2 : (loadVar ty2 b).run P w = .ok v2 w) : (results fn tmps).run P w = .ok (.tuple #[v1, v2]) w := by
  simp only [results, h]
  simp only [Array.getD_eq_getD_getElem?] at hp hq
  simp [hp, hq, asAddr, h1, h2]
end
end Go.Cd
/- Blocks of memory: what a cell holds, worlds that are alike but for one block. -/
namespace Go.Proofs.YtnoiijjkjcklpaaGreat
open Go Go.RowKit Go.MapKept Go.Cd

theorem cell_of_heap {w : World} {b i : Nat} {c : Array Value} {t : TypeId} {v : Value} (h : w.heap[b]? = some (.cells c t)) (hc : c[i]? = some v) : w.cell? ⟨b, i, none⟩ = some v := by
  simp [World.cell?, h, hc]
theorem frozen_of_heap {w : World} {b i : Nat} {c : Array Value} {t : TypeId} (h : w.heap[b]? = some (.cells c t)) : w.frozen? ⟨b, i, none⟩ = false := by
  simp [World.frozen?, h]
structure Only (r : Nat) (w w' : World) : Prop where
  size : w'.heap.size = w.heap.size
  os : w'.os = w.os
  tape : w'.tape = w.tape
  output : w'.output = w.output
  block : ∀ k, k ≠ r → w'.heap[k]? = w.heap[k]?
theorem addr_ne (b : Nat) {i j : Nat} (h : i ≠ j) : (⟨b, i, none⟩ : Addr) ≠ ⟨b, j, none⟩ := fun q => h (by injection q)
theorem only_setCell (w : World) (b o : Nat) (v : Value) : Only b w (w.setCell ⟨b, o, none⟩ v) :=
  ⟨by simp, rfl, rfl, rfl, fun k hk => Below.heap_setCell _ _ _ _ hk⟩
theorem only_putObj (w : World) (b : Nat) (o : Obj) : Only b w (w.putObj b o) :=
  ⟨by simp, rfl, rfl, rfl, fun k hk => World.putObj_heap_other hk⟩
theorem Only.cell {r : Nat} {w w' : World} (h : Only r w w') {b o : Nat} (hb : b ≠ r) : w'.cell? ⟨b, o, none⟩ = w.cell? ⟨b, o, none⟩ := by
  simp only [World.cell?, h.block b hb]
theorem Only.frozen {r : Nat} {w w' : World} (h : Only r w w') {b o : Nat} (hb : b ≠ r) : w'.frozen? ⟨b, o, none⟩ = w.frozen? ⟨b, o, none⟩ := by
  simp only [World.frozen?, h.block b hb]
theorem new_only {r : Nat} {a b c : World} (h : New a b) (k : Only r b c) (hr : a.heap.size ≤ r) : New a c :=
  ⟨k.os.trans h.os, k.tape.trans h.tape, k.output.trans h.output, by rw [k.size]; exact h.size, fun x hx => (k.block x (by omega)).trans (h.block x hx)⟩
theorem lt_of_heap {w : World} {k : Nat} {c : Obj} (h : w.heap[k]? = some c) : k < w.heap.size := by
  rcases Nat.lt_or_ge k w.heap.size with h' | h'
  · exact h'
  · rw [Array.getElem?_eq_none h'] at h; cases h
theorem heap_keep {w : World} {o : Obj} {k : Nat} {c : Obj} (h : w.heap[k]? = some c) : (w.alloc o).heap[k]? = some c := by
  rw [(MapKept.heap_alloc w o).2 k (lt_of_heap h)]; exact h
theorem own_of_heap {w w' : World} {base : Nat} {e : TypeId} {size : Nat} {v : Value} {n : Nat} {xs : List Value} (h : w.ownsRow base e size v n xs) (hh : ∀ g, v.ownBlock = some g → w'.heap[g]? = w.heap[g]?) : w'.ownsRow base e size v n xs := by
  obtain ⟨h1, h2⟩ := h
  refine ⟨h1, ?_⟩
  rcases h2 with h2 | ⟨g, cap, cur, hv, hb, hg, r⟩
  · exact .inl h2
  · refine .inr ⟨g, cap, cur, hv, hb, ?_, r⟩
    rw [hh g (by rw [hv]; rfl)]; exact hg
theorem own_lt {w : World} {base : Nat} {e : TypeId} {size : Nat} {v : Value} {n : Nat} {xs : List Value} (h : w.ownsRow base e size v n xs) {g : Nat} (hg : v.ownBlock = some g) : g < w.heap.size := (h.lt g hg).2
theorem own_new {w w' : World} {base : Nat} {e : TypeId} {size : Nat} {v : Value} {n : Nat} {xs : List Value} (h : w.ownsRow base e size v n xs) (hn : New w w') : w'.ownsRow base e size v n xs :=
  own_of_heap h fun g hg => hn.block g (own_lt h hg)
theorem grow_new {w wr w' : World} {e : TypeId} {size : Nat} {v : Value} {n : Nat} {xs : List Value} (hN : New w wr) (h : wr.ownsRow w.heap.size e size v n xs) (hg : wr.grownBy w' v.ownBlock) : New w w' :=
  ⟨hg.os.trans hN.os, hg.tape.trans hN.tape, hg.output.trans hN.output, Nat.le_trans hN.size hg.size, fun k hk => (hg.block k (Nat.lt_of_lt_of_le hk hN.size) (fun q => by have := (h.lt k q.symm).1; omega)).trans (hN.block k hk)⟩
end Go.Proofs.YtnoiijjkjcklpaaGreat
/- Whole values, and parts of them, stored into a block that is known; single cells likewise. -/
namespace Go.Proofs.YtnoiijjkjcklpaaGreat
open Go Go.RowKit Go.Cd

theorem setCell_at {w : World} {b o : Nat} {c : Array Value} {t : TypeId} (h : w.heap[b]? = some (.cells c t)) (v : Value) : (w.setCell ⟨b, o, none⟩ v).heap[b]? = some (.cells (c.setIfInBounds o v) t) := by
  have hlt := lt_of_heap h
  have h' : w.heap[b] = .cells c t := by simpa [Array.getElem?_eq_getElem hlt] using h
  show (w.heap.modify b _)[b]? = _
  rw [Array.getElem?_eq_getElem (by simpa using hlt), Array.getElem_modify_self, h']
  rfl
theorem only_trans {b : Nat} {u v w : World} (h : Only b u v) (k : Only b v w) : Only b u w :=
  ⟨k.size.trans h.size, k.os.trans h.os, k.tape.trans h.tape, k.output.trans h.output, fun x hx => (k.block x hx).trans (h.block x hx)⟩
theorem only_refl (b : Nat) (w : World) : Only b w w := ⟨rfl, rfl, rfl, rfl, fun _ _ => rfl⟩
theorem setCells_at {b : Nat} {t : TypeId} : ∀ (vs : List Value) (o : Nat) (w : World) (c : Array Value), w.heap[b]? = some (.cells c t) → (w.setCells b o vs).heap[b]? = some (.cells (spl c o vs) t)
  | [], _, _, _, h => h
  | v :: r, o, w, c, h => by
    rw [World.setCells, spl]
    exact setCells_at r (o + 1) _ _ (setCell_at h v)
theorem only_setCells (b : Nat) : ∀ (vs : List Value) (o : Nat) (w : World), Only b w (w.setCells b o vs)
  | [], _, w => only_refl b w
  | v :: r, o, w => by
    rw [World.setCells]
    exact only_trans (only_setCell w b o v) (only_setCells b r (o + 1) _)
theorem there_at {w : World} {b o n : Nat} {c : Array Value} {t : TypeId} (h : w.heap[b]? = some (.cells c t)) (hn : o + n ≤ c.size) : w.there b o n := fun j hj => by
  refine ⟨?_, frozen_of_heap h⟩
  simp only [World.cell?, h]
  simp
  omega
section
variable {P : Program}
theorem store_mid (ty : TypeId) (b o : Nat) (c cs : Array Value) (t : TypeId) (w : World) (hb : w.heap[b]? = some (.cells c t)) (hc : o + cs.size ≤ c.size) (hi : (P.info? ty).map (·.size) = some cs.size) (h1 : cs.all (·.oneCell') = true) :
    ∃ w', (storeRow ty (.pointer (some ⟨b, o, none⟩)) (.agg cs)).run P w = .ok .skip w' ∧ w'.heap[b]? = some (.cells (spl c o cs.toList) t) ∧ Only b w w' := by
  refine ⟨w.setCells b o cs.toList, run_storeRow _ _ _ _ _ _ (run_storeVar_mid w b o ty cs (there_at hb hc) hi h1), setCells_at _ _ _ _ hb, only_setCells _ _ _ _⟩
theorem store_all (ty : TypeId) (b : Nat) (c cs : Array Value) (t : TypeId) (w : World) (hb : w.heap[b]? = some (.cells c t)) (hc : c.size = cs.size) (hi : (P.info? ty).map (·.size) = some cs.size) (h1 : cs.all (·.oneCell') = true) :
    ∃ w', (storeRow ty (.pointer (some ⟨b, 0, none⟩)) (.agg cs)).run P w = .ok .skip w' ∧ w'.heap[b]? = some (.cells cs t) ∧ Only b w w' := by
  obtain ⟨w', h2, h3, h4⟩ := store_mid ty b 0 c cs t w hb (by omega) hi h1
  rw [spl_full _ _ (by simpa using hc)] at h3
  exact ⟨w', h2, h3, h4⟩
theorem load_mid (ty : TypeId) (b o : Nat) (c cs : Array Value) (t : TypeId) (d : TypeDesc) (w : World) (hb : w.heap[b]? = some (.cells c t)) (hcs : c.extract o (o + cs.size) = cs) (hu : P.underlying ty = some d) (hd : d.isRow = true) (hi : (P.info? ty).map (·.size) = some cs.size) :
    (loadRow ty (.pointer (some ⟨b, o, none⟩))).run P w = .ok (.value (.agg cs)) w := by
  have h := run_loadVar_mid (P := P) w b o ty cs.toList d (by
    have := World.rangeAt_of_block hb o cs.size
    rw [hcs] at this
    exact this) hu hd (by simpa using hi)
  exact run_loadRow _ _ _ _ _ _ (by simpa using h)
theorem load_all (ty : TypeId) (b : Nat) (cs : Array Value) (t : TypeId) (d : TypeDesc) (w : World) (hb : w.heap[b]? = some (.cells cs t)) (hu : P.underlying ty = some d) (hd : d.isRow = true) (hi : (P.info? ty).map (·.size) = some cs.size) :
    (loadRow ty (.pointer (some ⟨b, 0, none⟩))).run P w = .ok (.value (.agg cs)) w := run_loadRow _ _ _ _ _ _ (load_row ty b cs t d w hb hu hd hi)
theorem results_row1 {fn : Func} {p : Tmp} {ty : TypeId} (h : fn.results = #[.cell p ty]) (tmps : Array Value) (w : World) (a : Addr) (v1 : Value)
    (hp : tmps.getD p undef = .pointer (some a)) (h1 : (loadVar ty a).run P w = .ok v1 w) : (results fn tmps).run P w = .ok v1 w := by
  simp only [results, h]
  simp only [Array.getD_eq_getD_getElem?] at hp
  simp [hp, asAddr, h1]
theorem results_cell_slot {fn : Func} {p q : Tmp} {ty : TypeId} (h : fn.results = #[.cell p ty, .tmp q]) (tmps : Array Value) (w : World) (a : Addr) (v : Value)
    (hp : tmps.getD p undef = .pointer (some a)) (h1 : (loadVar ty a).run P w = .ok v w) : (results fn tmps).run P w = .ok (.tuple #[v, tmps.getD q undef]) w := by
  simp only [results, h]
  simp only [Array.getD_eq_getD_getElem?] at hp ⊢
  simp [hp, asAddr, h1]
theorem results_cell_slot2 {fn : Func} {p q r : Tmp} {ty : TypeId} (h : fn.results = #[.cell p ty, .tmp q, .tmp r]) (tmps : Array Value) (w : World) (a : Addr) (v : Value)
    (hp : tmps.getD p undef = .pointer (some a)) (h1 : (loadVar ty a).run P w = .ok v w) : (results fn tmps).run P w = .ok (.tuple #[v, tmps.getD q undef, tmps.getD r undef]) w := by
  simp only [results, h]
  simp only [Array.getD_eq_getD_getElem?] at hp ⊢
  simp [hp, asAddr, h1]
end
end Go.Proofs.YtnoiijjkjcklpaaGreat
