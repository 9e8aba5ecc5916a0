/- Parts of the proof: PlainShifts, PlainWideL. -/
import Derived.Test.YtpooghnemlnopaaZ13
/- The plain law of shifts. -/
namespace Go.Proofs.Ytpooghnemlnopaa
open Go Go.Sx Go.RowKit Go.Cd Go.MapKept
set_option linter.unusedVariables false
theorem and_low (a : Int) (ha : 0 ≤ a ∧ a < 4294967296) (j : Nat) (hj : j ≤ 32) : bits .and .u32 a ((2 : Int) ^ j - 1) = a % (2 : Int) ^ j := by
  have hp : (2 : Int) ^ j = ((2 ^ j : Nat) : Int) := by simp
  have hp0 : 0 < 2 ^ j := Nat.two_pow_pos j
  have hp1 : 2 ^ j ≤ 2 ^ 32 := Nat.pow_le_pow_right (by decide) hj
  have e : bits .and .u32 a ((2 : Int) ^ j - 1) = IntKind.u32.wrap (((BitVec.ofInt 32 a &&& BitVec.ofInt 32 ((2 : Int) ^ j - 1)).toNat : Nat) : Int) := rfl
  obtain ⟨x, rfl⟩ := Int.eq_ofNat_of_zero_le ha.1
  have h1 : (BitVec.ofInt 32 ((2 : Int) ^ j - 1)).toNat = 2 ^ j - 1 := by
    rw [BitVec.toNat_ofInt, hp, Int.emod_eq_of_lt (by omega) (by omega)]
    omega
  have h2 : (BitVec.ofInt 32 (x : Int)).toNat = x := by
    rw [BitVec.toNat_ofInt, Int.emod_eq_of_lt (by omega) (by omega)]
    omega
  rw [e, BitVec.toNat_and, h1, h2, Nat.and_two_pow_sub_one_eq_mod, hp, ← Int.natCast_emod]
  exact u32_wrap ⟨by omega, by have := Nat.mod_le x (2 ^ j); omega⟩
theorem i32_wrap (n : Int) : IntKind.i32.wrap n = (n + 2147483648) % 4294967296 - 2147483648 := by
  simp only [IntKind.wrap, IntKind.bits, IntKind.signed]
  simp
  split <;> omega
theorem pow_cases (k : Nat) (h : k < 32) : ∃ P Q : Int, (2 : Int) ^ k = P ∧ (2 : Int) ^ (32 - k) = Q ∧ P * Q = 4294967296 ∧ 0 < P ∧ 0 < Q := by
  refine ⟨_, _, rfl, rfl, ?_, Int.pow_pos (by decide), Int.pow_pos (by decide)⟩
  rw [← Int.pow_add, show k + (32 - k) = 32 by omega]
  decide
theorem shl_shr (a P Q : Int) (h : P * Q = 4294967296) (hP : 0 < P) (hQ : 0 < Q) : a * P % 4294967296 / P = a % Q := by
  rw [← h, Int.mul_comm a P, Int.mul_emod_mul_of_pos _ _ hP]
  exact Int.mul_ediv_cancel_left _ (by omega)
theorem floor_of (s P : Int) (hP : 0 < P) : s / P = if s.tmod P < 0 then s.tdiv P - 1 else s.tdiv P := by
  have e := Int.mul_tdiv_add_tmod s P
  have h1 := Int.tmod_lt_of_pos s hP
  have h2 : -P < s.tmod P := Int.lt_tmod_of_pos s hP
  split
  · have := (Int.ediv_emod_unique (a := s) (q := s.tdiv P - 1) (r := s.tmod P + P) hP).2 ⟨by rw [Int.mul_sub]; omega, by omega, by omega⟩
    exact this.1
  · have := (Int.ediv_emod_unique (a := s) (q := s.tdiv P) (r := s.tmod P) hP).2 ⟨by omega, by omega, by omega⟩
    exact this.1
/-- The letters of the law. -/
abbrev shV (a n : Int) : Val := cpuVal (fun i => [a, n].getD i 0) (fun _ => false)
theorem sh_k (a n : Int) (ha : 0 ≤ a ∧ a < 4294967296) (hn : 0 ≤ n ∧ n < 4294967296) : letI := shV a n; (Tm.op .rem (.var .u32 1) (.lit 32)).v = n % 32 := by
  letI := shV a n
  show (IntKind.u32.wrap n).tmod 32 = n % 32
  rw [u32_wrap hn, Int.tmod_eq_emod_of_nonneg hn.1]
theorem sh_a (a n : Int) (ha : 0 ≤ a ∧ a < 4294967296) (hn : 0 ≤ n ∧ n < 4294967296) : letI := shV a n; (Tm.var .u32 0).v = a := u32_wrap ha
theorem sh_n (a n : Int) (ha : 0 ≤ a ∧ a < 4294967296) (hn : 0 ≤ n ∧ n < 4294967296) : letI := shV a n; (Tm.var .u32 1).v = n := u32_wrap hn
theorem sh_pow (a n : Int) (ha : 0 ≤ a ∧ a < 4294967296) (hn : 0 ≤ n ∧ n < 4294967296) (k : IntKind) (hk : k = .u32 ∨ k = .i64) : letI := shV a n; (Tm.op (.shl k) (.lit 1) (.op .rem (.var .u32 1) (.lit 32))).v = (2 : Int) ^ (n % 32).toNat := by
  letI := shV a n
  show k.wrap (1 * 2 ^ (min (Tm.op .rem (.var .u32 1) (.lit 32)).v.toNat k.bits)) = _
  rw [sh_k a n ha hn]
  have h31 : (n % 32).toNat ≤ 31 := by omega
  have h1 : (2 : Int) ^ (n % 32).toNat ≤ 2 ^ 31 := by exact_mod_cast Nat.pow_le_pow_right (show 0 < 2 by decide) h31
  have h2 : (0 : Int) < 2 ^ (n % 32).toNat := Int.pow_pos (by decide)
  rcases hk with rfl | rfl
  · rw [show min (n % 32).toNat (IntKind.bits .u32) = (n % 32).toNat from Nat.min_eq_left (by show _ ≤ 32; omega), Int.one_mul]
    exact u32_wrap ⟨by omega, by omega⟩
  · rw [show min (n % 32).toNat (IntKind.bits .i64) = (n % 32).toNat from Nat.min_eq_left (by show _ ≤ 64; omega), Int.one_mul]
    exact wrap_same _ (by show (-9223372036854775808 : Int) ≤ _; omega) (by show _ ≤ (9223372036854775807 : Int); omega)
theorem sh_t0 (a n : Int) (ha : 0 ≤ a ∧ a < 4294967296) (hn : 0 ≤ n ∧ n < 4294967296) : letI := shV a n; shiftst0.v = a * 2 ^ (n % 32).toNat % 4294967296 := by
  letI := shV a n
  show IntKind.u32.wrap (aluT 8 (Tm.var .u32 0).v (Tm.var .u32 1).v 0).1 = _
  rw [sh_a a n ha hn, sh_n a n ha hn, u32_wrap (aluT_bd 8 a n 0 ha hn).1]
  rfl
theorem sh_t1 (a n : Int) (ha : 0 ≤ a ∧ a < 4294967296) (hn : 0 ≤ n ∧ n < 4294967296) : letI := shV a n; shiftst1.v = a * 2 ^ (n % 32).toNat % 4294967296 := by
  letI := shV a n
  show IntKind.u32.wrap (aluT 11 (Tm.var .u32 0).v (Tm.op (.shl .u32) (.lit 1) (.op .rem (.var .u32 1) (.lit 32))).v 0).1 = _
  rw [sh_a a n ha hn, sh_pow a n ha hn _ (.inl rfl)]
  show IntKind.u32.wrap (a * 2 ^ (n % 32).toNat % 4294967296) = _
  exact u32_wrap (by omega)
theorem sh_t2 (a n : Int) (ha : 0 ≤ a ∧ a < 4294967296) (hn : 0 ≤ n ∧ n < 4294967296) : letI := shV a n; shiftst2.v = a / 2 ^ (n % 32).toNat := by
  letI := shV a n
  show IntKind.u32.wrap (aluT 9 (Tm.var .u32 0).v (Tm.var .u32 1).v 0).1 = _
  rw [sh_a a n ha hn, sh_n a n ha hn, u32_wrap (aluT_bd 9 a n 0 ha hn).1]
  rfl
theorem sh_t3 (a n : Int) (ha : 0 ≤ a ∧ a < 4294967296) (hn : 0 ≤ n ∧ n < 4294967296) : letI := shV a n; shiftst3.v = a / 2 ^ (n % 32).toNat := by
  letI := shV a n
  show IntKind.u32.wrap (aluT 13 (Tm.var .u32 0).v (Tm.op (.shl .u32) (.lit 1) (.op .rem (.var .u32 1) (.lit 32))).v 0).1 = _
  have h2 : (0 : Int) < 2 ^ (n % 32).toNat := Int.pow_pos (by decide)
  rw [sh_a a n ha hn, sh_pow a n ha hn _ (.inl rfl)]
  have e : (aluT 13 a (2 ^ (n % 32).toNat) 0).1 = a / 2 ^ (n % 32).toNat := by
    unfold aluT
    repeat rw [if_neg (by decide)]
    rw [if_neg (by omega), if_pos rfl]
  rw [e]
  exact u32_wrap ⟨Int.ediv_nonneg ha.1 (by omega), Int.lt_of_le_of_lt (Int.ediv_le_self _ ha.1) ha.2⟩
theorem sh_b1 (a n : Int) (ha : 0 ≤ a ∧ a < 4294967296) (hn : 0 ≤ n ∧ n < 4294967296) : letI := shV a n; shiftsb1.v = true := by
  letI := shV a n
  show (shiftst0.v == shiftst1.v) = true
  rw [sh_t0 a n ha hn, sh_t1 a n ha hn, beq_self_eq_true]
theorem sh_b2 (a n : Int) (ha : 0 ≤ a ∧ a < 4294967296) (hn : 0 ≤ n ∧ n < 4294967296) : letI := shV a n; shiftsb2.v = true := by
  letI := shV a n
  show (shiftst2.v == shiftst3.v) = true
  rw [sh_t2 a n ha hn, sh_t3 a n ha hn, beq_self_eq_true]
theorem sh_b3 (a n : Int) (ha : 0 ≤ a ∧ a < 4294967296) (hn : 0 ≤ n ∧ n < 4294967296) : letI := shV a n; shiftsb3.v = true := by
  letI := shV a n
  obtain ⟨P, Q, hP, hQ, hPQ, h0, h1⟩ := pow_cases (n % 32).toNat (by omega)
  have hQ2 : Q ≤ 4294967296 := by
    have := Int.mul_le_mul_of_nonneg_right (show 1 ≤ P by omega) (show 0 ≤ Q by omega)
    omega
  have e1 : shiftst4.v = a % Q := by
    show IntKind.u32.wrap (aluT 9 shiftst0.v (Tm.var .u32 1).v 0).1 = _
    rw [sh_t0 a n ha hn, sh_n a n ha hn, hP]
    have hb : 0 ≤ a * P % 4294967296 ∧ a * P % 4294967296 < 4294967296 := by omega
    rw [u32_wrap (aluT_bd 9 _ n 0 hb hn).1]
    show a * P % 4294967296 / 2 ^ (n % 32).toNat = _
    rw [hP, shl_shr a P Q hPQ h0 h1]
  have e2 : (Tm.op (.sub .u64) (.op (.shl .u64) (.lit 1) (.op (.sub .u32) (.lit 32) (.op .rem (.var .u32 1) (.lit 32)))) (.lit 1)).v = 2 ^ (32 - (n % 32).toNat) - 1 := by
    show IntKind.u64.wrap (IntKind.u64.wrap (1 * 2 ^ (min (IntKind.u32.wrap (32 - (Tm.op .rem (.var .u32 1) (.lit 32)).v)).toNat 64)) - 1) = _
    rw [sh_k a n ha hn, u32_wrap (n := 32 - n % 32) (by omega), show (32 - n % 32).toNat = 32 - (n % 32).toNat by omega, Nat.min_eq_left (by omega), Int.one_mul, hQ]
    rw [wrap_same .u64 (n := Q) (by show (0 : Int) ≤ _; omega) (by show _ ≤ (18446744073709551615 : Int); omega)]
    exact wrap_same _ (by show (0 : Int) ≤ _; omega) (by show _ ≤ (18446744073709551615 : Int); omega)
  show (shiftst4.v == bits .and .u32 (Tm.var .u32 0).v (Tm.op (.sub .u64) (.op (.shl .u64) (.lit 1) (.op (.sub .u32) (.lit 32) (.op .rem (.var .u32 1) (.lit 32)))) (.lit 1)).v) = true
  rw [e1, e2, sh_a a n ha hn, and_low a ha _ (by omega), hQ, beq_self_eq_true]
theorem sh_sar (a n : Int) (ha : 0 ≤ a ∧ a < 4294967296) (hn : 0 ≤ n ∧ n < 4294967296) : letI := shV a n; (Tm.un (.wrap .i32) shiftst5).v = IntKind.i32.wrap a / 2 ^ (n % 32).toNat := by
  letI := shV a n
  show IntKind.i32.wrap (IntKind.u32.wrap (aluT 10 (Tm.var .u32 0).v (Tm.var .u32 1).v 0).1) = _
  rw [sh_a a n ha hn, sh_n a n ha hn, u32_wrap (aluT_bd 10 a n 0 ha hn).1]
  show IntKind.i32.wrap (wrap32 a / 2 ^ (n % 32).toNat % 4294967296) = _
  have hw : wrap32 a = IntKind.i32.wrap a := by rw [i32_wrap]; unfold wrap32; omega
  obtain ⟨P, Q, hP, hQ, hPQ, h0, h1⟩ := pow_cases (n % 32).toNat (by omega)
  rw [hw, hP]
  have hb : -2147483648 ≤ IntKind.i32.wrap a ∧ IntKind.i32.wrap a < 2147483648 := by rw [i32_wrap]; omega
  generalize IntKind.i32.wrap a = s at hb
  have g1 : -2147483648 ≤ s / P := by
    have := Int.le_ediv_of_mul_le h0 (show -2147483648 * P ≤ s by
      have := Int.mul_le_mul_of_nonneg_left (show 1 ≤ P by omega) (show (0 : Int) ≤ 2147483648 by decide)
      omega)
    exact this
  have g2 : s / P < 2147483648 := by
    refine Int.ediv_lt_of_lt_mul h0 ?_
    have := Int.mul_le_mul_of_nonneg_left (show 1 ≤ P by omega) (show (0 : Int) ≤ 2147483648 by decide)
    omega
  rw [i32_wrap]
  omega
theorem sh_down (a n : Int) (ha : 0 ≤ a ∧ a < 4294967296) (hn : 0 ≤ n ∧ n < 4294967296) : letI := shV a n; (shiftsb0.v = true → shiftsb4.v = true) ∧ (shiftsb0.v = false → shiftsb5.v = true) := by
  letI := shV a n
  obtain ⟨P, Q, hP, hQ, hPQ, h0, h1⟩ := pow_cases (n % 32).toNat (by omega)
  have hb : -2147483648 ≤ IntKind.i32.wrap a ∧ IntKind.i32.wrap a < 2147483648 := by rw [i32_wrap]; omega
  have hs : (Tm.un (.wrap .i32) (.var .u32 0)).v = IntKind.i32.wrap a := by
    show IntKind.i32.wrap (Tm.var .u32 0).v = _
    rw [sh_a a n ha hn]
  have hp := sh_pow a n ha hn .i64 (.inr rfl)
  rw [hP] at hp
  have hsar := sh_sar a n ha hn
  rw [hP] at hsar
  have hfl := floor_of (IntKind.i32.wrap a) P h0
  have e0 : shiftsb0.v = decide ((IntKind.i32.wrap a).tmod P < 0) := by
    show decide ((Tm.un (.wrap .i32) (.var .u32 0)).v.tmod (Tm.op (.shl .i64) (.lit 1) (.op .rem (.var .u32 1) (.lit 32))).v < 0) = _
    rw [hs, hp]
  have hq : (Tm.op (.quo .i64) (.un (.wrap .i32) (.var .u32 0)) (.op (.shl .i64) (.lit 1) (.op .rem (.var .u32 1) (.lit 32)))).v = (IntKind.i32.wrap a).tdiv P := by
    show IntKind.i64.wrap ((Tm.un (.wrap .i32) (.var .u32 0)).v.tdiv (Tm.op (.shl .i64) (.lit 1) (.op .rem (.var .u32 1) (.lit 32))).v) = _
    rw [hs, hp]
    generalize IntKind.i32.wrap a = s at hb
    have e := Int.mul_tdiv_add_tmod s P
    have b1 : (s.tdiv P).natAbs ≤ s.natAbs := by rw [Int.natAbs_tdiv]; exact Nat.div_le_self _ _
    exact wrap_same _ (by show (-9223372036854775808 : Int) ≤ _; omega) (by show _ ≤ (9223372036854775807 : Int); omega)
  have b1 : ((IntKind.i32.wrap a).tdiv P).natAbs ≤ (IntKind.i32.wrap a).natAbs := by rw [Int.natAbs_tdiv]; exact Nat.div_le_self _ _
  refine ⟨fun h => ?_, fun h => ?_⟩
  · rw [e0, decide_eq_true_eq] at h
    rw [if_pos h] at hfl
    show ((Tm.un (.wrap .i32) shiftst5).v == IntKind.i64.wrap ((Tm.op (.quo .i64) (.un (.wrap .i32) (.var .u32 0)) (.op (.shl .i64) (.lit 1) (.op .rem (.var .u32 1) (.lit 32)))).v - 1)) = true
    rw [hq, hsar, hfl, wrap_same .i64 (by show (-9223372036854775808 : Int) ≤ _; omega) (by show _ ≤ (9223372036854775807 : Int); omega), beq_self_eq_true]
  · rw [e0, decide_eq_false_iff_not] at h
    rw [if_neg h] at hfl
    show ((Tm.un (.wrap .i32) shiftst5).v == (Tm.op (.quo .i64) (.un (.wrap .i32) (.var .u32 0)) (.op (.shl .i64) (.lit 1) (.op .rem (.var .u32 1) (.lit 32)))).v) = true
    rw [hq, hsar, hfl, beq_self_eq_true]
theorem sh_all (a n : Int) (ha : 0 ≤ a ∧ a < 4294967296) (hn : 0 ≤ n ∧ n < 4294967296) : letI := shV a n; shiftsT.sat fun b => b.v = true := by
  letI := shV a n
  have h1 := sh_b1 a n ha hn
  have h2 := sh_b2 a n ha hn
  have h3 := sh_b3 a n ha hn
  obtain ⟨h4, h5⟩ := sh_down a n ha hn
  have l : ∀ x y : Bm, (Bm.lop .and x y).v = (x.v && y.v) := fun _ _ => rfl
  have f : (SB.lit false).v = false := rfl
  have s : ∀ x : Bm, (SB.sym x).v = x.v := fun _ => rfl
  simp only [shiftsT, Tree.sat, l, f, s, h1, h2, h3, Bool.true_and, true_implies, Bool.true_eq_false, false_implies, and_true]
  exact ⟨h4, h5⟩
end Go.Proofs.Ytpooghnemlnopaa
/- CpuWide: the plain law. -/
namespace Go.Proofs.Ytpooghnemlnopaa
open Go Go.Sx Go.RowKit Go.Cd Go.MapKept
set_option linter.unusedVariables false
set_option linter.unusedSimpArgs false
abbrev weI (a b : Int) : Nat → Int := fun i => [a, b].getD i 0
abbrev weV (a b : Int) : Val := cpuVal (weI a b) (fun _ => false)
def U64 (a : Int) : Prop := 0 ≤ a ∧ a < 18446744073709551616
theorem we_a (a b : Int) (ha : U64 a) : letI := weV a b; (Tm.var .u64 0).v = a := by
  letI := weV a b
  show IntKind.u64.wrap a = a
  rw [wrap_u64]; exact Int.emod_eq_of_lt ha.1 ha.2
theorem we_b (a b : Int) (hb : U64 b) : letI := weV a b; (Tm.var .u64 1).v = b := by
  letI := weV a b
  show IntKind.u64.wrap b = b
  rw [wrap_u64]; exact Int.emod_eq_of_lt hb.1 hb.2
theorem wrap_u32' (n : Int) : IntKind.u32.wrap n = n % 4294967296 := by
  simp only [IntKind.wrap, IntKind.bits, IntKind.signed]
  simp
theorem we_al (a b : Int) (ha : U64 a) : letI := weV a b; (Tm.un (.wrap .u32) (.var .u64 0)).v = a % 4294967296 := by
  letI := weV a b
  show IntKind.u32.wrap (Tm.var .u64 0).v = _
  rw [we_a a b ha, wrap_u32']
theorem we_bl (a b : Int) (hb : U64 b) : letI := weV a b; (Tm.un (.wrap .u32) (.var .u64 1)).v = b % 4294967296 := by
  letI := weV a b
  show IntKind.u32.wrap (Tm.var .u64 1).v = _
  rw [we_b a b hb, wrap_u32']
theorem we_ah (a b : Int) (ha : U64 a) : letI := weV a b; (Tm.op (.shr .u64) (.var .u64 0) (.lit 32)).v = a / 4294967296 := by
  letI := weV a b
  show (Tm.var .u64 0).v.fdiv (2 ^ 32) = _
  rw [we_a a b ha, Int.fdiv_eq_ediv_of_nonneg _ (by decide)]
  rfl
theorem we_bh (a b : Int) (hb : U64 b) : letI := weV a b; (Tm.op (.shr .u64) (.var .u64 1) (.lit 32)).v = b / 4294967296 := by
  letI := weV a b
  show (Tm.var .u64 1).v.fdiv (2 ^ 32) = _
  rw [we_b a b hb, Int.fdiv_eq_ediv_of_nonneg _ (by decide)]
  rfl
theorem flag_shr (z n c v : Bool) : (flagNum z n c v).fdiv (2 ^ 2) % 2 = if c then 1 else 0 := by cases z <;> cases n <;> cases c <;> cases v <;> rfl
/-- The carry and the upper words of a sum. -/
theorem sum_parts (a b : Int) (ha : U64 a) (hb : U64 b) : ∃ c : Int, 0 ≤ c ∧ c ≤ 1 ∧ (if sumC (a % 4294967296) (b % 4294967296) 0 then (1 : Int) else 0) = c ∧ IntKind.u64.wrap (a + b) = sumR (a / 4294967296) (b / 4294967296) c * 4294967296 + sumR (a % 4294967296) (b % 4294967296) 0 ∧
    sumC (a / 4294967296) (b / 4294967296) c = decide (IntKind.u64.wrap (a + b) < a) ∧ sumR (a / 4294967296) (b / 4294967296) c = IntKind.u64.wrap (a + b) / 4294967296 := by
  obtain ⟨a0, a1⟩ := ha
  obtain ⟨b0, b1⟩ := hb
  refine ⟨(a % 4294967296 + b % 4294967296) / 4294967296, by omega, by omega, ?_, ?_, ?_, ?_⟩
  · unfold sumC
    rw [Int.add_zero]
    by_cases h : (a % 4294967296 + b % 4294967296) / 4294967296 = 1
    · simp [h]
    · have : (a % 4294967296 + b % 4294967296) / 4294967296 = 0 := by omega
      simp [this]
  · rw [wrap_u64]; unfold sumR; omega
  · rw [wrap_u64, Bool.eq_iff_iff]
    unfold sumC
    simp only [beq_iff_eq, decide_eq_true_eq]
    omega
  · rw [wrap_u64]; unfold sumR; omega
theorem dif_parts (a b : Int) (ha : U64 a) (hb : U64 b) : ∃ c : Int, 0 ≤ c ∧ c ≤ 1 ∧ (if difC (a % 4294967296) (b % 4294967296) 0 then (1 : Int) else 0) = c ∧ IntKind.u64.wrap (a - b) = difR (a / 4294967296) (b / 4294967296) c * 4294967296 + difR (a % 4294967296) (b % 4294967296) 0 ∧
    difC (a / 4294967296) (b / 4294967296) c = decide (a < b) ∧ difR (a / 4294967296) (b / 4294967296) c = IntKind.u64.wrap (a - b) / 4294967296 := by
  obtain ⟨a0, a1⟩ := ha
  obtain ⟨b0, b1⟩ := hb
  refine ⟨if a % 4294967296 < b % 4294967296 then 1 else 0, by split <;> omega, by split <;> omega, ?_, ?_, ?_, ?_⟩
  · unfold difC
    rw [Int.add_zero]
    simp
  · rw [wrap_u64]; unfold difR; split <;> omega
  · rw [Bool.eq_iff_iff]
    unfold difC
    simp only [decide_eq_true_eq]
    split <;> omega
  · rw [wrap_u64]; unfold difR; split <;> omega
theorem top_hi (x : Int) (h : U64 x) : top64 x = decide (2147483648 ≤ x / 4294967296) := by
  unfold top64
  rw [Bool.eq_iff_iff]
  simp only [decide_eq_true_eq]
  obtain ⟨h0, h1⟩ := h
  omega
theorem lo_w (a : Int) : 0 ≤ a % 4294967296 ∧ a % 4294967296 < 4294967296 := by omega
theorem hi_w (a : Int) (h : U64 a) : 0 ≤ a / 4294967296 ∧ a / 4294967296 < 4294967296 := by obtain ⟨h0, h1⟩ := h; omega
theorem flags_w (z n c v : Bool) : IntKind.i64.wrap (flagNum z n c v) = flagNum z n c v := i64_wrap (flagNum_bd z n c v)
theorem sumR_w (a b c : Int) : 0 ≤ sumR a b c ∧ sumR a b c < 4294967296 := by unfold sumR; omega
theorem difR_w (a b c : Int) : 0 ≤ difR a b c ∧ difR a b c < 4294967296 := by unfold difR; omega
theorem u64_bd (n : Int) : U64 (IntKind.u64.wrap n) := by rw [wrap_u64]; unfold U64; omega
theorem we_add (a b : Int) (ha : U64 a) (hb : U64 b) : letI := weV a b; wideb0.v = true ∧ ((!wideb1.v) == wideb2.v) = true ∧ ((!wideb3.v) == wideb4.v) = true := by
  letI := weV a b
  obtain ⟨c, c0, c1, hc, hs, hC, hR⟩ := sum_parts a b ha hb
  have t0 : widet0.v = sumFl (a % 4294967296) (b % 4294967296) 0 := by
    show IntKind.i64.wrap (aluT 3 (Tm.un (.wrap .u32) (.var .u64 0)).v (Tm.un (.wrap .u32) (.var .u64 1)).v 0).2.1 = _
    rw [we_al a b ha, we_bl a b hb]
    exact flags_w _ _ _ _
  have k : (Tm.op (.shr .i64) widet0 (.lit 2)).v % 2 = c := by
    show widet0.v.fdiv (2 ^ 2) % 2 = c
    rw [t0]
    unfold sumFl
    rw [flag_shr, hc]
  have t2 : widet2.v = sumR (a % 4294967296) (b % 4294967296) 0 := by
    show IntKind.u32.wrap (aluT 3 (Tm.un (.wrap .u32) (.var .u64 0)).v (Tm.un (.wrap .u32) (.var .u64 1)).v 0).1 = _
    rw [we_al a b ha, we_bl a b hb]
    exact u32_wrap (sumR_w _ _ _)
  have t1 : widet1.v = sumR (a / 4294967296) (b / 4294967296) c := by
    show IntKind.u32.wrap (sumR (Tm.op (.shr .u64) (.var .u64 0) (.lit 32)).v (Tm.op (.shr .u64) (.var .u64 1) (.lit 32)).v ((Tm.op (.shr .i64) widet0 (.lit 2)).v % 2)) = _
    rw [we_ah a b ha, we_bh a b hb, k]
    exact u32_wrap (sumR_w _ _ _)
  have t3 : widet3.v = sumFl (a / 4294967296) (b / 4294967296) c := by
    show IntKind.i64.wrap (sumFl (Tm.op (.shr .u64) (.var .u64 0) (.lit 32)).v (Tm.op (.shr .u64) (.var .u64 1) (.lit 32)).v ((Tm.op (.shr .i64) widet0 (.lit 2)).v % 2)) = _
    rw [we_ah a b ha, we_bh a b hb, k]
    exact flags_w _ _ _ _
  have sv : (Tm.op (.add .u64) (.var .u64 0) (.var .u64 1)).v = IntKind.u64.wrap (a + b) := by
    show IntKind.u64.wrap ((Tm.var .u64 0).v + (Tm.var .u64 1).v) = _
    rw [we_a a b ha, we_b a b hb]
  refine ⟨?_, ?_, ?_⟩
  · show (bits .or .u64 (IntKind.u64.wrap (widet1.v * 2 ^ 32)) widet2.v == (Tm.op (.add .u64) (.var .u64 0) (.var .u64 1)).v) = true
    rw [t1, t2, sv, or_add64 _ _ (sumR_w _ _ _) (sumR_w _ _ _), hs, beq_self_eq_true]
  · have e1 : wideb1.v = !sumC (a / 4294967296) (b / 4294967296) c := by
      show (bits .and .i64 widet3.v 4 == 0) = _
      rw [t3]
      exact flag_4 _ _ _ _
    have e2 : wideb2.v = decide (IntKind.u64.wrap (a + b) < a) := by
      show ((if (decide ((Tm.op (.add .u64) (.var .u64 0) (.var .u64 1)).v < (Tm.var .u64 0).v)) = true then (1 : Int) else 0) == 1) = _
      rw [sv, we_a a b ha]
      by_cases h : IntKind.u64.wrap (a + b) < a <;> simp [h]
    rw [e1, e2, hC]
    cases decide (IntKind.u64.wrap (a + b) < a) <;> rfl
  · have e3 : wideb3.v = !sumV (a / 4294967296) (b / 4294967296) c := by
      show (bits .and .i64 widet3.v 8 == 0) = _
      rw [t3]
      exact flag_8 _ _ _ _
    have e4 : wideb4.v = ((top64 a != top64 (IntKind.u64.wrap (a + b))) && (top64 b != top64 (IntKind.u64.wrap (a + b)))) := by
      show ((bits .and .u64 (bits .xor .u64 (Tm.var .u64 0).v (Tm.op (.add .u64) (.var .u64 0) (.var .u64 1)).v) (bits .xor .u64 (Tm.var .u64 1).v (Tm.op (.add .u64) (.var .u64 0) (.var .u64 1)).v)).fdiv (2 ^ 63) == 1) = _
      rw [sv, we_a a b ha, we_b a b hb, Int.fdiv_eq_ediv_of_nonneg _ (by decide)]
      exact tops_xor a b _ _ ha hb (u64_bd _) (u64_bd _)
    rw [e3, e4, over_add _ _ c _ (hi_w a ha) (hi_w b hb) ⟨c0, c1⟩ rfl, top_hi a ha, top_hi b hb, top_hi _ (u64_bd _), ← hR]
    unfold sumR
    rw [Bool.not_not, beq_self_eq_true]
theorem we_sub (a b : Int) (ha : U64 a) (hb : U64 b) : letI := weV a b; wideb5.v = true ∧ ((!wideb6.v) == wideb7.v) = true ∧ ((!wideb8.v) == wideb9.v) = true := by
  letI := weV a b
  obtain ⟨c, c0, c1, hc, hs, hC, hR⟩ := dif_parts a b ha hb
  have t0 : widet4.v = difFl (a % 4294967296) (b % 4294967296) 0 := by
    show IntKind.i64.wrap (aluT 4 (Tm.un (.wrap .u32) (.var .u64 0)).v (Tm.un (.wrap .u32) (.var .u64 1)).v 0).2.1 = _
    rw [we_al a b ha, we_bl a b hb]
    exact flags_w _ _ _ _
  have k : (Tm.op (.shr .i64) widet4 (.lit 2)).v % 2 = c := by
    show widet4.v.fdiv (2 ^ 2) % 2 = c
    rw [t0]
    unfold difFl
    rw [flag_shr, hc]
  have t2 : widet6.v = difR (a % 4294967296) (b % 4294967296) 0 := by
    show IntKind.u32.wrap (aluT 4 (Tm.un (.wrap .u32) (.var .u64 0)).v (Tm.un (.wrap .u32) (.var .u64 1)).v 0).1 = _
    rw [we_al a b ha, we_bl a b hb]
    exact u32_wrap (difR_w _ _ _)
  have t1 : widet5.v = difR (a / 4294967296) (b / 4294967296) c := by
    show IntKind.u32.wrap (difR (Tm.op (.shr .u64) (.var .u64 0) (.lit 32)).v (Tm.op (.shr .u64) (.var .u64 1) (.lit 32)).v ((Tm.op (.shr .i64) widet4 (.lit 2)).v % 2)) = _
    rw [we_ah a b ha, we_bh a b hb, k]
    exact u32_wrap (difR_w _ _ _)
  have t3 : widet7.v = difFl (a / 4294967296) (b / 4294967296) c := by
    show IntKind.i64.wrap (difFl (Tm.op (.shr .u64) (.var .u64 0) (.lit 32)).v (Tm.op (.shr .u64) (.var .u64 1) (.lit 32)).v ((Tm.op (.shr .i64) widet4 (.lit 2)).v % 2)) = _
    rw [we_ah a b ha, we_bh a b hb, k]
    exact flags_w _ _ _ _
  have sv : (Tm.op (.sub .u64) (.var .u64 0) (.var .u64 1)).v = IntKind.u64.wrap (a - b) := by
    show IntKind.u64.wrap ((Tm.var .u64 0).v - (Tm.var .u64 1).v) = _
    rw [we_a a b ha, we_b a b hb]
  refine ⟨?_, ?_, ?_⟩
  · show (bits .or .u64 (IntKind.u64.wrap (widet5.v * 2 ^ 32)) widet6.v == (Tm.op (.sub .u64) (.var .u64 0) (.var .u64 1)).v) = true
    rw [t1, t2, sv, or_add64 _ _ (difR_w _ _ _) (difR_w _ _ _), hs, beq_self_eq_true]
  · have e1 : wideb6.v = !difC (a / 4294967296) (b / 4294967296) c := by
      show (bits .and .i64 widet7.v 4 == 0) = _
      rw [t3]
      exact flag_4 _ _ _ _
    have e2 : wideb7.v = decide (a < b) := by
      show ((if (decide ((Tm.var .u64 0).v < (Tm.var .u64 1).v)) = true then (1 : Int) else 0) == 1) = _
      rw [we_a a b ha, we_b a b hb]
      by_cases h : a < b <;> simp [h]
    rw [e1, e2, hC]
    cases decide (a < b) <;> rfl
  · have e3 : wideb8.v = !difV (a / 4294967296) (b / 4294967296) c := by
      show (bits .and .i64 widet7.v 8 == 0) = _
      rw [t3]
      exact flag_8 _ _ _ _
    have e4 : wideb9.v = ((top64 a != top64 b) && (top64 a != top64 (IntKind.u64.wrap (a - b)))) := by
      show ((bits .and .u64 (bits .xor .u64 (Tm.var .u64 0).v (Tm.var .u64 1).v) (bits .xor .u64 (Tm.var .u64 0).v (Tm.op (.sub .u64) (.var .u64 0) (.var .u64 1)).v)).fdiv (2 ^ 63) == 1) = _
      rw [sv, we_a a b ha, we_b a b hb, Int.fdiv_eq_ediv_of_nonneg _ (by decide)]
      exact tops_xor a a _ _ ha ha hb (u64_bd _)
    rw [e3, e4, over_sub _ _ c _ (hi_w a ha) (hi_w b hb) ⟨c0, c1⟩ rfl, top_hi a ha, top_hi b hb, top_hi _ (u64_bd _), ← hR]
    unfold difR
    rw [Bool.not_not, beq_self_eq_true]
theorem mul_bd (x y : Int) (hx : 0 ≤ x ∧ x < 4294967296) (hy : 0 ≤ y ∧ y < 4294967296) : 0 ≤ x * y ∧ x * y < 18446744073709551616 := by
  have h0 := Int.mul_nonneg hx.1 hy.1
  have h1 : x * y ≤ x * 4294967296 := Int.mul_le_mul_of_nonneg_left (by omega) hx.1
  omega
theorem aluT_div (x y : Int) (h : y ≠ 0) : aluT 13 x y 0 = (x / y, 0, true) ∧ aluT 14 x y 0 = (x % y, 0, true) ∧ aluT 15 x y 0 = (divS x y, 0, true) := by
  refine ⟨?_, ?_, ?_⟩
  · unfold aluT; repeat rw [if_neg (by decide)]
    rw [if_neg h, if_pos rfl]
  · unfold aluT; repeat rw [if_neg (by decide)]
    rw [if_neg h, if_neg (by decide), if_pos rfl]
  · unfold aluT; repeat rw [if_neg (by decide)]
    rw [if_neg h, if_neg (by decide), if_neg (by decide), if_pos rfl]
theorem we_mul (a b : Int) (ha : U64 a) (hb : U64 b) : letI := weV a b; wideb10.v = true ∧ wideb11.v = decide (b % 4294967296 = 0) ∧ wideb12.v = decide (a % 4294967296 = 2147483648) ∧ wideb13.v = decide (b % 4294967296 = 4294967295) := by
  letI := weV a b
  have hm := mul_bd _ _ (lo_w a) (lo_w b)
  have t8 : widet8.v = (a % 4294967296) * (b % 4294967296) / 4294967296 := by
    show IntKind.u32.wrap ((Tm.un (.wrap .u32) (.var .u64 0)).v * (Tm.un (.wrap .u32) (.var .u64 1)).v / 4294967296) = _
    rw [we_al a b ha, we_bl a b hb]
    exact u32_wrap (by omega)
  have t9 : widet9.v = (a % 4294967296) * (b % 4294967296) % 4294967296 := by
    show IntKind.u32.wrap ((Tm.un (.wrap .u32) (.var .u64 0)).v * (Tm.un (.wrap .u32) (.var .u64 1)).v % 4294967296) = _
    rw [we_al a b ha, we_bl a b hb]
    exact u32_wrap (by omega)
  refine ⟨?_, ?_, ?_, ?_⟩
  · show (bits .or .u64 (IntKind.u64.wrap (widet8.v * 2 ^ 32)) widet9.v == IntKind.u64.wrap ((Tm.un (.wrap .u32) (.var .u64 0)).v * (Tm.un (.wrap .u32) (.var .u64 1)).v)) = true
    rw [t8, t9, we_al a b ha, we_bl a b hb, or_add64 _ _ (by omega) (by omega), wrap_u64, beq_iff_eq]
    omega
  · show ((Tm.un (.wrap .u32) (.var .u64 1)).v == 0) = _
    rw [we_bl a b hb]; rfl
  · show ((Tm.un (.wrap .u32) (.var .u64 0)).v == 2147483648) = _
    rw [we_al a b ha]; rfl
  · show ((Tm.un (.wrap .u32) (.var .u64 1)).v == 4294967295) = _
    rw [we_bl a b hb]; rfl
theorem we_div (a b : Int) (ha : U64 a) (hb : U64 b) (h0 : b % 4294967296 ≠ 0) : letI := weV a b; wideb14.v = true ∧ wideb15.v = true := by
  letI := weV a b
  have wa := lo_w a
  have wb := lo_w b
  have t10 : widet10.v = (a % 4294967296) / (b % 4294967296) := by
    show IntKind.u32.wrap (aluT 13 (Tm.un (.wrap .u32) (.var .u64 0)).v (Tm.un (.wrap .u32) (.var .u64 1)).v 0).1 = _
    rw [we_al a b ha, we_bl a b hb, (aluT_div _ _ h0).1]
    exact u32_wrap ⟨Int.ediv_nonneg wa.1 wb.1, Int.lt_of_le_of_lt (Int.ediv_le_self _ wa.1) wa.2⟩
  have t11 : widet11.v = (a % 4294967296) % (b % 4294967296) := by
    show IntKind.u32.wrap (aluT 14 (Tm.un (.wrap .u32) (.var .u64 0)).v (Tm.un (.wrap .u32) (.var .u64 1)).v 0).1 = _
    rw [we_al a b ha, we_bl a b hb, (aluT_div _ _ h0).2.1]
    exact u32_wrap ⟨Int.emod_nonneg _ h0, Int.lt_trans (Int.emod_lt_of_pos _ (by omega)) wb.2⟩
  generalize hx : a % 4294967296 = x at *
  generalize hy : b % 4294967296 = y at *
  have e := Int.emod_add_mul_ediv x y
  have r0 := Int.emod_nonneg x h0
  have r1 := Int.emod_lt_of_pos x (show 0 < y by omega)
  have q0 := Int.ediv_nonneg wa.1 wb.1
  have q1 := Int.mul_nonneg wb.1 q0
  refine ⟨?_, ?_⟩
  · show (IntKind.u64.wrap (IntKind.u64.wrap (widet10.v * (Tm.un (.wrap .u32) (.var .u64 1)).v) + widet11.v) == (Tm.un (.wrap .u32) (.var .u64 0)).v) = true
    rw [t10, t11, we_al a b ha, we_bl a b hb, hx, hy, wrap_u64, wrap_u64, Int.mul_comm (x / y) y, Int.emod_eq_of_lt (a := y * (x / y)) q1 (by omega), beq_iff_eq]
    omega
  · show decide (widet11.v < (Tm.un (.wrap .u32) (.var .u64 1)).v) = true
    rw [t11, we_bl a b hb, hy]
    simpa using r1
theorem i32_sg (x : Int) (h : 0 ≤ x ∧ x < 4294967296) : IntKind.i32.wrap x = sg x := by
  rw [i32_wrap]; unfold sg; split <;> omega
theorem i64_in (n : Int) (h : -9223372036854775808 ≤ n ∧ n ≤ 9223372036854775807) : IntKind.i64.wrap n = n := wrap_same .i64 (by have := h.1; show (-9223372036854775808 : Int) ≤ n; omega) (by have := h.2; show n ≤ (9223372036854775807 : Int); omega)
/-- The size of a number, as the law makes it. -/
def sizeT (t : Tm) : Tm := .ite (.cmp .gt (.un (.neg .i64) t) t) (.un (.neg .i64) t) t
theorem sizeT_v [Val] (t : Tm) (h : -4611686018427387904 ≤ t.v ∧ t.v ≤ 4611686018427387904) : (sizeT t).v = t.v.natAbs := by
  show (if decide (IntKind.i64.wrap (0 - t.v) > t.v) = true then IntKind.i64.wrap (0 - t.v) else t.v) = _
  rw [i64_in (0 - t.v) (by omega)]
  simp only [decide_eq_true_eq]
  split <;> omega
theorem we_signed (a b : Int) (ha : U64 a) (hb : U64 b) (h0 : b % 4294967296 ≠ 0) : letI := weV a b; wideb16.v = true ∧ (¬ (a % 4294967296 = 2147483648 ∧ b % 4294967296 = 4294967295) → wideb17.v = true ∧ (wideb18.v || (wideb19.v == wideb20.v)) = true) := by
  letI := weV a b
  have wa := lo_w a
  have wb := lo_w b
  have sA : (Tm.un (.wrap .i32) (.un (.wrap .u32) (.var .u64 0))).v = sg (a % 4294967296) := by
    show IntKind.i32.wrap (Tm.un (.wrap .u32) (.var .u64 0)).v = _
    rw [we_al a b ha, i32_sg _ wa]
  have sB : (Tm.un (.wrap .i32) (.un (.wrap .u32) (.var .u64 1))).v = sg (b % 4294967296) := by
    show IntKind.i32.wrap (Tm.un (.wrap .u32) (.var .u64 1)).v = _
    rw [we_bl a b hb, i32_sg _ wb]
  have bA : -2147483648 ≤ sg (a % 4294967296) ∧ sg (a % 4294967296) ≤ 2147483647 := by unfold sg; split <;> omega
  have bB : -2147483648 ≤ sg (b % 4294967296) ∧ sg (b % 4294967296) ≤ 2147483647 := by unfold sg; split <;> omega
  have nB : sg (b % 4294967296) ≠ 0 := by unfold sg; split <;> omega
  refine ⟨?_, fun hno => ?_⟩
  · show decide (0 < (sizeT (.un (.wrap .i32) (.un (.wrap .u32) (.var .u64 1)))).v) = true
    rw [sizeT_v _ (by rw [sB]; omega), sB, decide_eq_true_eq]
    omega
  · have t12 : (Tm.un (.wrap .i32) widet12).v = (sg (a % 4294967296)).tdiv (sg (b % 4294967296)) := by
      show IntKind.i32.wrap (IntKind.u32.wrap (aluT 15 (Tm.un (.wrap .u32) (.var .u64 0)).v (Tm.un (.wrap .u32) (.var .u64 1)).v 0).1) = _
      rw [we_al a b ha, we_bl a b hb, (aluT_div _ _ h0).2.2]
      show IntKind.i32.wrap (IntKind.u32.wrap (divS (a % 4294967296) (b % 4294967296))) = _
      have hd : divS (a % 4294967296) (b % 4294967296) = (sg (a % 4294967296)).tdiv (sg (b % 4294967296)) % 4294967296 := rfl
      rw [hd, u32_wrap (by omega)]
      have hq : -2147483648 ≤ (sg (a % 4294967296)).tdiv (sg (b % 4294967296)) ∧ (sg (a % 4294967296)).tdiv (sg (b % 4294967296)) ≤ 2147483647 := by
        have n1 : ((sg (a % 4294967296)).tdiv (sg (b % 4294967296))).natAbs ≤ (sg (a % 4294967296)).natAbs := by rw [Int.natAbs_tdiv]; exact Nat.div_le_self _ _
        by_cases hm : sg (a % 4294967296) = -2147483648
        · have hb1 : sg (b % 4294967296) ≠ -1 := by
            intro hh
            refine hno ⟨?_, ?_⟩
            · unfold sg at hm; split at hm <;> omega
            · unfold sg at hh; split at hh <;> omega
          have n2 : ((sg (a % 4294967296)).tdiv (sg (b % 4294967296))).natAbs = 2147483648 / (sg (b % 4294967296)).natAbs := by rw [Int.natAbs_tdiv, hm]; rfl
          by_cases hone : sg (b % 4294967296) = 1
          · rw [hone, hm, Int.tdiv_one]; omega
          · have : 2 ≤ (sg (b % 4294967296)).natAbs := by omega
            have n3 : 2147483648 / (sg (b % 4294967296)).natAbs ≤ 2147483648 / 2 := Nat.div_le_div_left this (by decide)
            omega
        · omega
      rw [i32_wrap]
      omega
    generalize sg (a % 4294967296) = S at *
    generalize sg (b % 4294967296) = B at *
    have e := Int.mul_tdiv_add_tmod S B
    have hr : (S.tmod B).natAbs < B.natAbs := by rw [Int.natAbs_tmod]; exact Nat.mod_lt _ (by omega)
    have hr2 : (S.tmod B).natAbs ≤ S.natAbs := by rw [Int.natAbs_tmod]; exact Nat.mod_le _ _
    have rest : (Tm.op (.sub .i64) (.un (.wrap .i32) (.un (.wrap .u32) (.var .u64 0))) (.op (.mul .i64) (.un (.wrap .i32) widet12) (.un (.wrap .i32) (.un (.wrap .u32) (.var .u64 1))))).v = S.tmod B := by
      show IntKind.i64.wrap ((Tm.un (.wrap .i32) (.un (.wrap .u32) (.var .u64 0))).v - IntKind.i64.wrap ((Tm.un (.wrap .i32) widet12).v * (Tm.un (.wrap .i32) (.un (.wrap .u32) (.var .u64 1))).v)) = _
      rw [sA, sB, t12, Int.mul_comm (S.tdiv B) B, i64_in (B * S.tdiv B) (by omega), i64_in _ (by omega)]
      omega
    refine ⟨?_, ?_⟩
    · show decide ((sizeT (.op (.sub .i64) (.un (.wrap .i32) (.un (.wrap .u32) (.var .u64 0))) (.op (.mul .i64) (.un (.wrap .i32) widet12) (.un (.wrap .i32) (.un (.wrap .u32) (.var .u64 1)))))).v < (sizeT (.un (.wrap .i32) (.un (.wrap .u32) (.var .u64 1)))).v) = true
      rw [sizeT_v _ (by rw [rest]; omega), sizeT_v _ (by rw [sB]; omega), rest, sB, decide_eq_true_eq]
      omega
    · have e18 : wideb18.v = decide (S.tmod B = 0) := by
        show ((Tm.op (.sub .i64) (.un (.wrap .i32) (.un (.wrap .u32) (.var .u64 0))) (.op (.mul .i64) (.un (.wrap .i32) widet12) (.un (.wrap .i32) (.un (.wrap .u32) (.var .u64 1))))).v == 0) = _
        rw [rest]; rfl
      have e19 : wideb19.v = decide (S.tmod B < 0) := by
        show decide ((Tm.op (.sub .i64) (.un (.wrap .i32) (.un (.wrap .u32) (.var .u64 0))) (.op (.mul .i64) (.un (.wrap .i32) widet12) (.un (.wrap .i32) (.un (.wrap .u32) (.var .u64 1))))).v < 0) = _
        rw [rest]
      have e20 : wideb20.v = decide (S < 0) := by
        show decide ((Tm.un (.wrap .i32) (.un (.wrap .u32) (.var .u64 0))).v < 0) = _
        rw [sA]
      rw [e18, e19, e20]
      by_cases hz : S.tmod B = 0
      · simp [hz]
      · by_cases hs : S < 0
        · have : S.tmod B ≤ 0 := by
            have h1 : (-S).tmod B = -(S.tmod B) := Int.neg_tmod S B
            have h2 := Int.tmod_nonneg B (show 0 ≤ -S by omega)
            omega
          simp [hz, hs]; omega
        · have := Int.tmod_nonneg B (show 0 ≤ S by omega)
          simp [hz, hs]; omega
theorem we_all (a b : Int) (ha : U64 a) (hb : U64 b) : letI := weV a b; wideT.sat fun b => b.v = true := by
  letI := weV a b
  obtain ⟨x0, y1, y3⟩ := we_add a b ha hb
  obtain ⟨x5, y6, y8⟩ := we_sub a b ha hb
  obtain ⟨x10, x11, x12, x13⟩ := we_mul a b ha hb
  have l : ∀ x y : Bm, (Bm.lop .and x y).v = (x.v && y.v) := fun _ _ => rfl
  have l' : ∀ x y : Bm, (Bm.lop .or x y).v = (x.v || y.v) := fun _ _ => rfl
  have le : ∀ x y : Bm, (Bm.lop .eq x y).v = (x.v == y.v) := fun _ _ => rfl
  have nn : ∀ x : Bm, (Bm.not x).v = !x.v := fun _ => rfl
  have f : (SB.lit false).v = false := rfl
  have s : ∀ x : Bm, (SB.sym x).v = x.v := fun _ => rfl
  by_cases h0 : b % 4294967296 = 0
  · have x11 : wideb11.v = true := by rw [x11]; simpa using h0
    simp only [wideT, Tree.sat, l, l', le, nn, f, s, x0, y1, y3, x5, y6, y8, x10, x11, Bool.not_true, Bool.not_false, Bool.or_false, Bool.and_true, Bool.true_and, true_implies, Bool.true_eq_false, Bool.false_eq_true, false_implies, and_true, true_and, and_self]
  · have x11 : wideb11.v = false := by rw [x11]; simpa using h0
    obtain ⟨x14, x15⟩ := we_div a b ha hb h0
    obtain ⟨x16, hs⟩ := we_signed a b ha hb h0
    by_cases h1 : a % 4294967296 = 2147483648
    · have x12 : wideb12.v = true := by rw [x12]; simpa using h1
      by_cases h2 : b % 4294967296 = 4294967295
      · have x13 : wideb13.v = true := by rw [x13]; simpa using h2
        simp only [wideT, Tree.sat, l, l', le, nn, f, s, x0, y1, y3, x5, y6, y8, x10, x11, x12, x13, x14, x15, x16, Bool.not_true, Bool.not_false, Bool.or_false, Bool.and_true, Bool.true_and, true_implies, Bool.true_eq_false, Bool.false_eq_true, false_implies, and_true, true_and, and_self]
      · have x13 : wideb13.v = false := by rw [x13]; simpa using h2
        obtain ⟨x17, x18⟩ := hs fun h => h2 h.2
        simp only [wideT, Tree.sat, l, l', le, nn, f, s, x0, y1, y3, x5, y6, y8, x10, x11, x12, x13, x14, x15, x17, x18, Bool.not_true, Bool.not_false, Bool.or_false, Bool.and_true, Bool.and_false, Bool.true_and, true_implies, Bool.true_eq_false, Bool.false_eq_true, false_implies, implies_true, and_true, true_and, and_self]
    · have x12 : wideb12.v = false := by rw [x12]; simpa using h1
      obtain ⟨x17, x18⟩ := hs fun h => h1 h.1
      simp only [wideT, Tree.sat, l, l', le, nn, f, s, x0, y1, y3, x5, y6, y8, x10, x11, x12, x14, x15, x17, x18, Bool.not_true, Bool.not_false, Bool.or_false, Bool.and_true, Bool.true_and, true_implies, Bool.true_eq_false, Bool.false_eq_true, false_implies, implies_true, and_true, true_and, and_self]
end Go.Proofs.Ytpooghnemlnopaa
