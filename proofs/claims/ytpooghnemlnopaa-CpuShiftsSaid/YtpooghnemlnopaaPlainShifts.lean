/- The plain law of shifts. -/
import Derived.Test.YtpooghnemlnopaaLShiftsT
namespace Go.Proofs.Ytpooghnemlnopaa
open Go Go.Sx Go.RowKit Go.Cd Go.MapKept
set_option linter.unusedVariables false
theorem and_low (a : Int) (ha : 0 ≤ a ∧ a < 4294967296) (j : Nat) (hj : j ≤ 32) : bits .and .u32 a ((2 : Int) ^ j - 1) = a % (2 : Int) ^ j := by
  have hp : (2 : Int) ^ j = ((2 ^ j : Nat) : Int) := by simp
  have hp0 : 0 < 2 ^ j := Nat.two_pow_pos j
  have hp1 : 2 ^ j ≤ 2 ^ 32 := Nat.pow_le_pow_right (by decide) hj
  have e : bits .and .u32 a ((2 : Int) ^ j - 1) = IntKind.u32.wrap (((BitVec.ofInt 32 a &&& BitVec.ofInt 32 ((2 : Int) ^ j - 1)).toNat : Nat) : Int) := rfl
  obtain ⟨x, rfl⟩ := Int.eq_ofNat_of_zero_le ha.1
  have h1 : (BitVec.ofInt 32 ((2 : Int) ^ j - 1)).toNat = 2 ^ j - 1 := by
    rw [BitVec.toNat_ofInt, hp, Int.emod_eq_of_lt (by omega) (by omega)]
    omega
  have h2 : (BitVec.ofInt 32 (x : Int)).toNat = x := by
    rw [BitVec.toNat_ofInt, Int.emod_eq_of_lt (by omega) (by omega)]
    omega
  rw [e, BitVec.toNat_and, h1, h2, Nat.and_two_pow_sub_one_eq_mod, hp, ← Int.natCast_emod]
  exact u32_wrap ⟨by omega, by have := Nat.mod_le x (2 ^ j); omega⟩
theorem i32_wrap (n : Int) : IntKind.i32.wrap n = (n + 2147483648) % 4294967296 - 2147483648 := by
  simp only [IntKind.wrap, IntKind.bits, IntKind.signed]
  simp
  split <;> omega
theorem pow_cases (k : Nat) (h : k < 32) : ∃ P Q : Int, (2 : Int) ^ k = P ∧ (2 : Int) ^ (32 - k) = Q ∧ P * Q = 4294967296 ∧ 0 < P ∧ 0 < Q := by
  refine ⟨_, _, rfl, rfl, ?_, Int.pow_pos (by decide), Int.pow_pos (by decide)⟩
  rw [← Int.pow_add, show k + (32 - k) = 32 by omega]
  decide
theorem shl_shr (a P Q : Int) (h : P * Q = 4294967296) (hP : 0 < P) (hQ : 0 < Q) : a * P % 4294967296 / P = a % Q := by
  rw [← h, Int.mul_comm a P, Int.mul_emod_mul_of_pos _ _ hP]
  exact Int.mul_ediv_cancel_left _ (by omega)
theorem floor_of (s P : Int) (hP : 0 < P) : s / P = if s.tmod P < 0 then s.tdiv P - 1 else s.tdiv P := by
  have e := Int.mul_tdiv_add_tmod s P
  have h1 := Int.tmod_lt_of_pos s hP
  have h2 : -P < s.tmod P := Int.lt_tmod_of_pos s hP
  split
  · have := (Int.ediv_emod_unique (a := s) (q := s.tdiv P - 1) (r := s.tmod P + P) hP).2 ⟨by rw [Int.mul_sub]; omega, by omega, by omega⟩
    exact this.1
  · have := (Int.ediv_emod_unique (a := s) (q := s.tdiv P) (r := s.tmod P) hP).2 ⟨by omega, by omega, by omega⟩
    exact this.1
/-- The letters of the law. -/
abbrev shV (a n : Int) : Val := cpuVal (fun i => [a, n].getD i 0) (fun _ => false)
theorem sh_k (a n : Int) (ha : 0 ≤ a ∧ a < 4294967296) (hn : 0 ≤ n ∧ n < 4294967296) : letI := shV a n; (Tm.op .rem (.var .u32 1) (.lit 32)).v = n % 32 := by
  letI := shV a n
  show (IntKind.u32.wrap n).tmod 32 = n % 32
  rw [u32_wrap hn, Int.tmod_eq_emod_of_nonneg hn.1]
theorem sh_a (a n : Int) (ha : 0 ≤ a ∧ a < 4294967296) (hn : 0 ≤ n ∧ n < 4294967296) : letI := shV a n; (Tm.var .u32 0).v = a := u32_wrap ha
theorem sh_n (a n : Int) (ha : 0 ≤ a ∧ a < 4294967296) (hn : 0 ≤ n ∧ n < 4294967296) : letI := shV a n; (Tm.var .u32 1).v = n := u32_wrap hn
theorem sh_pow (a n : Int) (ha : 0 ≤ a ∧ a < 4294967296) (hn : 0 ≤ n ∧ n < 4294967296) (k : IntKind) (hk : k = .u32 ∨ k = .i64) : letI := shV a n; (Tm.op (.shl k) (.lit 1) (.op .rem (.var .u32 1) (.lit 32))).v = (2 : Int) ^ (n % 32).toNat := by
  letI := shV a n
  show k.wrap (1 * 2 ^ (min (Tm.op .rem (.var .u32 1) (.lit 32)).v.toNat k.bits)) = _
  rw [sh_k a n ha hn]
  have h31 : (n % 32).toNat ≤ 31 := by omega
  have h1 : (2 : Int) ^ (n % 32).toNat ≤ 2 ^ 31 := by exact_mod_cast Nat.pow_le_pow_right (show 0 < 2 by decide) h31
  have h2 : (0 : Int) < 2 ^ (n % 32).toNat := Int.pow_pos (by decide)
  rcases hk with rfl | rfl
  · rw [show min (n % 32).toNat (IntKind.bits .u32) = (n % 32).toNat from Nat.min_eq_left (by show _ ≤ 32; omega), Int.one_mul]
    exact u32_wrap ⟨by omega, by omega⟩
  · rw [show min (n % 32).toNat (IntKind.bits .i64) = (n % 32).toNat from Nat.min_eq_left (by show _ ≤ 64; omega), Int.one_mul]
    exact wrap_same _ (by show (-9223372036854775808 : Int) ≤ _; omega) (by show _ ≤ (9223372036854775807 : Int); omega)
theorem sh_t0 (a n : Int) (ha : 0 ≤ a ∧ a < 4294967296) (hn : 0 ≤ n ∧ n < 4294967296) : letI := shV a n; shiftst0.v = a * 2 ^ (n % 32).toNat % 4294967296 := by
  letI := shV a n
  show IntKind.u32.wrap (aluT 8 (Tm.var .u32 0).v (Tm.var .u32 1).v 0).1 = _
  rw [sh_a a n ha hn, sh_n a n ha hn, u32_wrap (aluT_bd 8 a n 0 ha hn).1]
  rfl
theorem sh_t1 (a n : Int) (ha : 0 ≤ a ∧ a < 4294967296) (hn : 0 ≤ n ∧ n < 4294967296) : letI := shV a n; shiftst1.v = a * 2 ^ (n % 32).toNat % 4294967296 := by
  letI := shV a n
  show IntKind.u32.wrap (aluT 11 (Tm.var .u32 0).v (Tm.op (.shl .u32) (.lit 1) (.op .rem (.var .u32 1) (.lit 32))).v 0).1 = _
  rw [sh_a a n ha hn, sh_pow a n ha hn _ (.inl rfl)]
  show IntKind.u32.wrap (a * 2 ^ (n % 32).toNat % 4294967296) = _
  exact u32_wrap (by omega)
theorem sh_t2 (a n : Int) (ha : 0 ≤ a ∧ a < 4294967296) (hn : 0 ≤ n ∧ n < 4294967296) : letI := shV a n; shiftst2.v = a / 2 ^ (n % 32).toNat := by
  letI := shV a n
  show IntKind.u32.wrap (aluT 9 (Tm.var .u32 0).v (Tm.var .u32 1).v 0).1 = _
  rw [sh_a a n ha hn, sh_n a n ha hn, u32_wrap (aluT_bd 9 a n 0 ha hn).1]
  rfl
theorem sh_t3 (a n : Int) (ha : 0 ≤ a ∧ a < 4294967296) (hn : 0 ≤ n ∧ n < 4294967296) : letI := shV a n; shiftst3.v = a / 2 ^ (n % 32).toNat := by
  letI := shV a n
  show IntKind.u32.wrap (aluT 13 (Tm.var .u32 0).v (Tm.op (.shl .u32) (.lit 1) (.op .rem (.var .u32 1) (.lit 32))).v 0).1 = _
  have h2 : (0 : Int) < 2 ^ (n % 32).toNat := Int.pow_pos (by decide)
  rw [sh_a a n ha hn, sh_pow a n ha hn _ (.inl rfl)]
  have e : (aluT 13 a (2 ^ (n % 32).toNat) 0).1 = a / 2 ^ (n % 32).toNat := by
    unfold aluT
    repeat rw [if_neg (by decide)]
    rw [if_neg (by omega), if_pos rfl]
  rw [e]
  exact u32_wrap ⟨Int.ediv_nonneg ha.1 (by omega), Int.lt_of_le_of_lt (Int.ediv_le_self _ ha.1) ha.2⟩
theorem sh_b1 (a n : Int) (ha : 0 ≤ a ∧ a < 4294967296) (hn : 0 ≤ n ∧ n < 4294967296) : letI := shV a n; shiftsb1.v = true := by
  letI := shV a n
  show (shiftst0.v == shiftst1.v) = true
  rw [sh_t0 a n ha hn, sh_t1 a n ha hn, beq_self_eq_true]
theorem sh_b2 (a n : Int) (ha : 0 ≤ a ∧ a < 4294967296) (hn : 0 ≤ n ∧ n < 4294967296) : letI := shV a n; shiftsb2.v = true := by
  letI := shV a n
  show (shiftst2.v == shiftst3.v) = true
  rw [sh_t2 a n ha hn, sh_t3 a n ha hn, beq_self_eq_true]
theorem sh_b3 (a n : Int) (ha : 0 ≤ a ∧ a < 4294967296) (hn : 0 ≤ n ∧ n < 4294967296) : letI := shV a n; shiftsb3.v = true := by
  letI := shV a n
  obtain ⟨P, Q, hP, hQ, hPQ, h0, h1⟩ := pow_cases (n % 32).toNat (by omega)
  have hQ2 : Q ≤ 4294967296 := by
    have := Int.mul_le_mul_of_nonneg_right (show 1 ≤ P by omega) (show 0 ≤ Q by omega)
    omega
  have e1 : shiftst4.v = a % Q := by
    show IntKind.u32.wrap (aluT 9 shiftst0.v (Tm.var .u32 1).v 0).1 = _
    rw [sh_t0 a n ha hn, sh_n a n ha hn, hP]
    have hb : 0 ≤ a * P % 4294967296 ∧ a * P % 4294967296 < 4294967296 := by omega
    rw [u32_wrap (aluT_bd 9 _ n 0 hb hn).1]
    show a * P % 4294967296 / 2 ^ (n % 32).toNat = _
    rw [hP, shl_shr a P Q hPQ h0 h1]
  have e2 : (Tm.op (.sub .u64) (.op (.shl .u64) (.lit 1) (.op (.sub .u32) (.lit 32) (.op .rem (.var .u32 1) (.lit 32)))) (.lit 1)).v = 2 ^ (32 - (n % 32).toNat) - 1 := by
    show IntKind.u64.wrap (IntKind.u64.wrap (1 * 2 ^ (min (IntKind.u32.wrap (32 - (Tm.op .rem (.var .u32 1) (.lit 32)).v)).toNat 64)) - 1) = _
    rw [sh_k a n ha hn, u32_wrap (n := 32 - n % 32) (by omega), show (32 - n % 32).toNat = 32 - (n % 32).toNat by omega, Nat.min_eq_left (by omega), Int.one_mul, hQ]
    rw [wrap_same .u64 (n := Q) (by show (0 : Int) ≤ _; omega) (by show _ ≤ (18446744073709551615 : Int); omega)]
    exact wrap_same _ (by show (0 : Int) ≤ _; omega) (by show _ ≤ (18446744073709551615 : Int); omega)
  show (shiftst4.v == bits .and .u32 (Tm.var .u32 0).v (Tm.op (.sub .u64) (.op (.shl .u64) (.lit 1) (.op (.sub .u32) (.lit 32) (.op .rem (.var .u32 1) (.lit 32)))) (.lit 1)).v) = true
  rw [e1, e2, sh_a a n ha hn, and_low a ha _ (by omega), hQ, beq_self_eq_true]
theorem sh_sar (a n : Int) (ha : 0 ≤ a ∧ a < 4294967296) (hn : 0 ≤ n ∧ n < 4294967296) : letI := shV a n; (Tm.un (.wrap .i32) shiftst5).v = IntKind.i32.wrap a / 2 ^ (n % 32).toNat := by
  letI := shV a n
  show IntKind.i32.wrap (IntKind.u32.wrap (aluT 10 (Tm.var .u32 0).v (Tm.var .u32 1).v 0).1) = _
  rw [sh_a a n ha hn, sh_n a n ha hn, u32_wrap (aluT_bd 10 a n 0 ha hn).1]
  show IntKind.i32.wrap (wrap32 a / 2 ^ (n % 32).toNat % 4294967296) = _
  have hw : wrap32 a = IntKind.i32.wrap a := by rw [i32_wrap]; unfold wrap32; omega
  obtain ⟨P, Q, hP, hQ, hPQ, h0, h1⟩ := pow_cases (n % 32).toNat (by omega)
  rw [hw, hP]
  have hb : -2147483648 ≤ IntKind.i32.wrap a ∧ IntKind.i32.wrap a < 2147483648 := by rw [i32_wrap]; omega
  generalize IntKind.i32.wrap a = s at hb
  have g1 : -2147483648 ≤ s / P := by
    have := Int.le_ediv_of_mul_le h0 (show -2147483648 * P ≤ s by
      have := Int.mul_le_mul_of_nonneg_left (show 1 ≤ P by omega) (show (0 : Int) ≤ 2147483648 by decide)
      omega)
    exact this
  have g2 : s / P < 2147483648 := by
    refine Int.ediv_lt_of_lt_mul h0 ?_
    have := Int.mul_le_mul_of_nonneg_left (show 1 ≤ P by omega) (show (0 : Int) ≤ 2147483648 by decide)
    omega
  rw [i32_wrap]
  omega
theorem sh_down (a n : Int) (ha : 0 ≤ a ∧ a < 4294967296) (hn : 0 ≤ n ∧ n < 4294967296) : letI := shV a n; (shiftsb0.v = true → shiftsb4.v = true) ∧ (shiftsb0.v = false → shiftsb5.v = true) := by
  letI := shV a n
  obtain ⟨P, Q, hP, hQ, hPQ, h0, h1⟩ := pow_cases (n % 32).toNat (by omega)
  have hb : -2147483648 ≤ IntKind.i32.wrap a ∧ IntKind.i32.wrap a < 2147483648 := by rw [i32_wrap]; omega
  have hs : (Tm.un (.wrap .i32) (.var .u32 0)).v = IntKind.i32.wrap a := by
    show IntKind.i32.wrap (Tm.var .u32 0).v = _
    rw [sh_a a n ha hn]
  have hp := sh_pow a n ha hn .i64 (.inr rfl)
  rw [hP] at hp
  have hsar := sh_sar a n ha hn
  rw [hP] at hsar
  have hfl := floor_of (IntKind.i32.wrap a) P h0
  have e0 : shiftsb0.v = decide ((IntKind.i32.wrap a).tmod P < 0) := by
    show decide ((Tm.un (.wrap .i32) (.var .u32 0)).v.tmod (Tm.op (.shl .i64) (.lit 1) (.op .rem (.var .u32 1) (.lit 32))).v < 0) = _
    rw [hs, hp]
  have hq : (Tm.op (.quo .i64) (.un (.wrap .i32) (.var .u32 0)) (.op (.shl .i64) (.lit 1) (.op .rem (.var .u32 1) (.lit 32)))).v = (IntKind.i32.wrap a).tdiv P := by
    show IntKind.i64.wrap ((Tm.un (.wrap .i32) (.var .u32 0)).v.tdiv (Tm.op (.shl .i64) (.lit 1) (.op .rem (.var .u32 1) (.lit 32))).v) = _
    rw [hs, hp]
    generalize IntKind.i32.wrap a = s at hb
    have e := Int.mul_tdiv_add_tmod s P
    have b1 : (s.tdiv P).natAbs ≤ s.natAbs := by rw [Int.natAbs_tdiv]; exact Nat.div_le_self _ _
    exact wrap_same _ (by show (-9223372036854775808 : Int) ≤ _; omega) (by show _ ≤ (9223372036854775807 : Int); omega)
  have b1 : ((IntKind.i32.wrap a).tdiv P).natAbs ≤ (IntKind.i32.wrap a).natAbs := by rw [Int.natAbs_tdiv]; exact Nat.div_le_self _ _
  refine ⟨fun h => ?_, fun h => ?_⟩
  · rw [e0, decide_eq_true_eq] at h
    rw [if_pos h] at hfl
    show ((Tm.un (.wrap .i32) shiftst5).v == IntKind.i64.wrap ((Tm.op (.quo .i64) (.un (.wrap .i32) (.var .u32 0)) (.op (.shl .i64) (.lit 1) (.op .rem (.var .u32 1) (.lit 32)))).v - 1)) = true
    rw [hq, hsar, hfl, wrap_same .i64 (by show (-9223372036854775808 : Int) ≤ _; omega) (by show _ ≤ (9223372036854775807 : Int); omega), beq_self_eq_true]
  · rw [e0, decide_eq_false_iff_not] at h
    rw [if_neg h] at hfl
    show ((Tm.un (.wrap .i32) shiftst5).v == (Tm.op (.quo .i64) (.un (.wrap .i32) (.var .u32 0)) (.op (.shl .i64) (.lit 1) (.op .rem (.var .u32 1) (.lit 32)))).v) = true
    rw [hq, hsar, hfl, beq_self_eq_true]
theorem sh_all (a n : Int) (ha : 0 ≤ a ∧ a < 4294967296) (hn : 0 ≤ n ∧ n < 4294967296) : letI := shV a n; shiftsT.sat fun b => b.v = true := by
  letI := shV a n
  have h1 := sh_b1 a n ha hn
  have h2 := sh_b2 a n ha hn
  have h3 := sh_b3 a n ha hn
  obtain ⟨h4, h5⟩ := sh_down a n ha hn
  have l : ∀ x y : Bm, (Bm.lop .and x y).v = (x.v && y.v) := fun _ _ => rfl
  have f : (SB.lit false).v = false := rfl
  have s : ∀ x : Bm, (SB.sym x).v = x.v := fun _ => rfl
  simp only [shiftsT, Tree.sat, l, f, s, h1, h2, h3, Bool.true_and, true_implies, Bool.true_eq_false, false_implies, and_true]
  exact ⟨h4, h5⟩
end Go.Proofs.Ytpooghnemlnopaa
