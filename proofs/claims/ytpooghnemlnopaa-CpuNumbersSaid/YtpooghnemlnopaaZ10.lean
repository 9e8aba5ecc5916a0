/- Parts of the proof: CNum2, Num2, CAlu. -/
import Derived.Test.YtpooghnemlnopaaZ9
import Derived.Test.YtpooghnemlnopaaZ1
import Derived.IntWalk
/- Contracts of cpu's operations and Alu. -/
namespace Go.Proofs.Ytpooghnemlnopaa
open Go Go.RowKit Go.Cd
set_option linter.unusedVariables false

theorem op1_c (a b c : Int) (w : World) (ha : 0 ≤ a ∧ a < 4294967296) (hb : 0 ≤ b ∧ b < 4294967296) :
    Calls Try.prog 52 #[.int .u32 a, .int .u32 b, .int .u32 c] w fun e w' => e = .returned (.tuple #[.int .u32 (sumR a b 0), .int .i64 (sumFl a b 0)]) ∧ New w w' := by
  go_enter Try.func52, Try.ntmps52
  go_wp2_with (go_at_call 53; refine (csum_c _ _ _ _ ha.1 ha.2 hb.1 hb.2 (by omega) (by omega)).mono ?_; rintro e w1 ⟨rfl, hb1⟩)
  go_ret2
  exact ⟨rfl, hb1⟩
theorem op2_c (a b c : Int) (w : World) (ha : 0 ≤ a ∧ a < 4294967296) (hb : 0 ≤ b ∧ b < 4294967296) :
    Calls Try.prog 54 #[.int .u32 a, .int .u32 b, .int .u32 c] w fun e w' => e = .returned (.tuple #[.int .u32 (difR a b 0), .int .i64 (difFl a b 0)]) ∧ New w w' := by
  go_enter Try.func54, Try.ntmps54
  go_wp2_with (go_at_call 33; refine (cdif_c _ _ _ _ ha.1 ha.2 hb.1 hb.2 (by omega) (by omega)).mono ?_; rintro e w1 ⟨rfl, hb1⟩)
  go_ret2
  exact ⟨rfl, hb1⟩
theorem op3_c (a b c : Int) (w : World) :
    Calls Try.prog 55 #[.int .u32 a, .int .u32 b, .int .u32 c] w fun e w' => e = .returned (.tuple #[.int .u32 (bits .and .u32 a b), .int .i64 (logFl (bits .and .u32 a b))]) ∧ New w w' := by
  go_enter Try.func55, Try.ntmps55
  go_wp2_with (go_at_call 56; refine (clogic_c _ _ (bits_nonneg _ _ _) (bits_lt _ _ _)).mono ?_; rintro e w1 ⟨rfl, hb1⟩)
  go_ret2
  exact ⟨rfl, hb1⟩
theorem op4_c (a b c : Int) (w : World) :
    Calls Try.prog 57 #[.int .u32 a, .int .u32 b, .int .u32 c] w fun e w' => e = .returned (.tuple #[.int .u32 (bits .or .u32 a b), .int .i64 (logFl (bits .or .u32 a b))]) ∧ New w w' := by
  go_enter Try.func57, Try.ntmps57
  go_wp2_with (go_at_call 56; refine (clogic_c _ _ (bits_nonneg _ _ _) (bits_lt _ _ _)).mono ?_; rintro e w1 ⟨rfl, hb1⟩)
  go_ret2
  exact ⟨rfl, hb1⟩
theorem op5_c (a b c : Int) (w : World) :
    Calls Try.prog 58 #[.int .u32 a, .int .u32 b, .int .u32 c] w fun e w' => e = .returned (.tuple #[.int .u32 (bits .xor .u32 a b), .int .i64 (logFl (bits .xor .u32 a b))]) ∧ New w w' := by
  go_enter Try.func58, Try.ntmps58
  go_wp2_with (go_at_call 56; refine (clogic_c _ _ (bits_nonneg _ _ _) (bits_lt _ _ _)).mono ?_; rintro e w1 ⟨rfl, hb1⟩)
  go_ret2
  exact ⟨rfl, hb1⟩
theorem shlR_bd (a n : Int) : 0 ≤ shlR a n ∧ shlR a n < 4294967296 := by unfold shlR; omega
theorem sarR_bd (a n : Int) : 0 ≤ sarR a n ∧ sarR a n < 4294967296 := by unfold sarR; omega
theorem shrR_bd (a n : Int) (ha : 0 ≤ a ∧ a < 4294967296) : 0 ≤ shrR a n ∧ shrR a n < 4294967296 := ⟨Int.ediv_nonneg ha.1 (Int.le_of_lt (pow_pos' _)), Int.lt_of_le_of_lt (Int.ediv_le_self _ ha.1) ha.2⟩
theorem op6_c (a b c : Int) (w : World) (ha : 0 ≤ a ∧ a < 4294967296) (hb : 0 ≤ b ∧ b < 4294967296) :
    Calls Try.prog 59 #[.int .u32 a, .int .u32 b, .int .u32 c] w fun e w' => e = .returned (.tuple #[.int .u32 (shlR a (b % 32)), .int .i64 (shFl (shlR a (b % 32)) a (b % 32) true)]) ∧ New w w' := by
  have hs := shlR_bd a (b % 32)
  have h0 : 0 ≤ b := hb.1
  go_enter Try.func59, Try.ntmps59
  go_wp2_with (go_at_call 60; refine (cshifted_c _ _ _ _ _ hs.1 hs.2 ha.1 ha.2 (by omega) (by omega)).mono ?_; rintro e w1 ⟨rfl, hb1⟩)
  go_ret2
  exact ⟨rfl, hb1⟩
theorem op7_c (a b c : Int) (w : World) (ha : 0 ≤ a ∧ a < 4294967296) (hb : 0 ≤ b ∧ b < 4294967296) :
    Calls Try.prog 61 #[.int .u32 a, .int .u32 b, .int .u32 c] w fun e w' => e = .returned (.tuple #[.int .u32 (shrR a (b % 32)), .int .i64 (shFl (shrR a (b % 32)) a (b % 32) false)]) ∧ New w w' := by
  have hs := shrR_bd a (b % 32) ha
  have h0 : 0 ≤ b := hb.1
  have h1 : 0 ≤ a := ha.1
  go_enter Try.func61, Try.ntmps61
  go_wp2_with (go_at_call 60; refine (cshifted_c _ _ _ _ _ hs.1 hs.2 ha.1 ha.2 (by omega) (by omega)).mono ?_; rintro e w1 ⟨rfl, hb1⟩)
  go_ret2
  exact ⟨rfl, hb1⟩
theorem op8_c (a b c : Int) (w : World) (ha : 0 ≤ a ∧ a < 4294967296) (hb : 0 ≤ b ∧ b < 4294967296) :
    Calls Try.prog 62 #[.int .u32 a, .int .u32 b, .int .u32 c] w fun e w' => e = .returned (.tuple #[.int .u32 (sarR a (b % 32)), .int .i64 (shFl (sarR a (b % 32)) a (b % 32) false)]) ∧ New w w' := by
  have hs := sarR_bd a (b % 32)
  have h0 : 0 ≤ b := hb.1
  go_enter Try.func62, Try.ntmps62
  go_wp2_with (go_at_call 60; refine (cshifted_c _ _ _ _ _ hs.1 hs.2 ha.1 ha.2 (by omega) (by omega)).mono ?_; rintro e w1 ⟨rfl, hb1⟩)
  go_ret2
  exact ⟨rfl, hb1⟩
theorem op9_c (a b : Int) (w : World) : Calls Try.prog 64 #[.int .u32 a, .int .u32 b] w fun e w' => e = .returned (.int .u32 (a * b % 4294967296)) ∧ New w w' := by
  go_enter Try.func64, Try.ntmps64
  go_wp2
  go_ret
  exact ⟨rfl, New.refl _⟩
theorem op10_c (a b : Int) (w : World) (ha : 0 ≤ a ∧ a < 4294967296) (hb : 0 ≤ b ∧ b < 4294967296) : Calls Try.prog 65 #[.int .u32 a, .int .u32 b] w fun e w' => e = .returned (.int .u32 (a * b / 4294967296)) ∧ New w w' := by
  go_enter Try.func65, Try.ntmps65
  go_wp2
  go_ret
  refine ⟨ret_int ?_, New.refl _⟩
  have h1 : 0 ≤ a * b := Int.mul_nonneg ha.1 hb.1
  have h2 : a * b ≤ 4294967295 * 4294967295 := Int.mul_le_mul (by omega) (by omega) hb.1 (by omega)
  rw [IntWalk.u64_in _ (by omega)]
  omega
theorem op11_c (a b : Int) (w : World) (ha : 0 ≤ a ∧ a < 4294967296) (hb : 0 < b ∧ b < 4294967296) : Calls Try.prog 66 #[.int .u32 a, .int .u32 b] w fun e w' => e = .returned (.int .u32 (a / b)) ∧ New w w' := by
  have h1 : ¬ b = 0 := by omega
  go_enter Try.func66, Try.ntmps66
  go_wp2
  go_ret
  exact ⟨rfl, New.refl _⟩
theorem op12_c (a b : Int) (w : World) (ha : 0 ≤ a ∧ a < 4294967296) (hb : 0 < b ∧ b < 4294967296) : Calls Try.prog 67 #[.int .u32 a, .int .u32 b] w fun e w' => e = .returned (.int .u32 (a % b)) ∧ New w w' := by
  have h1 : ¬ b = 0 := by omega
  go_enter Try.func67, Try.ntmps67
  go_wp2
  go_ret
  exact ⟨rfl, New.refl _⟩
theorem plain1m_c (a b c : Int) (p : Addr) (w : World) (h : w.cell? p = some (.func (.func 64) #[] #[])) :
    Calls Try.prog 83 #[.int .u32 a, .int .u32 b, .int .u32 c, .pointer (some p)] w fun e w' => e = .returned (.tuple #[.int .u32 (a * b % 4294967296), .int .i64 0]) ∧ New w w' := by
  go_enter Try.func83, Try.ntmps83
  go_wp2_with (go_at_call 64; refine (op9_c _ _ _).mono ?_; rintro e w1 ⟨rfl, hb1⟩)
  go_ret2
  exact ⟨rfl, hb1⟩
theorem plain1mh_c (a b c : Int) (p : Addr) (w : World) (h : w.cell? p = some (.func (.func 65) #[] #[])) (ha : 0 ≤ a ∧ a < 4294967296) (hb : 0 ≤ b ∧ b < 4294967296) :
    Calls Try.prog 83 #[.int .u32 a, .int .u32 b, .int .u32 c, .pointer (some p)] w fun e w' => e = .returned (.tuple #[.int .u32 (a * b / 4294967296), .int .i64 0]) ∧ New w w' := by
  go_enter Try.func83, Try.ntmps83
  go_wp2_with (go_at_call 65; refine (op10_c _ _ _ ha hb).mono ?_; rintro e w1 ⟨rfl, hb1⟩)
  go_ret2
  exact ⟨rfl, hb1⟩
theorem plain1d_c (a b c : Int) (p : Addr) (w : World) (h : w.cell? p = some (.func (.func 66) #[] #[])) (ha : 0 ≤ a ∧ a < 4294967296) (hb : 0 < b ∧ b < 4294967296) :
    Calls Try.prog 83 #[.int .u32 a, .int .u32 b, .int .u32 c, .pointer (some p)] w fun e w' => e = .returned (.tuple #[.int .u32 (a / b), .int .i64 0]) ∧ New w w' := by
  go_enter Try.func83, Try.ntmps83
  go_wp2_with (go_at_call 66; refine (op11_c _ _ _ ha hb).mono ?_; rintro e w1 ⟨rfl, hb1⟩)
  go_ret2
  exact ⟨rfl, hb1⟩
theorem plain1r_c (a b c : Int) (p : Addr) (w : World) (h : w.cell? p = some (.func (.func 67) #[] #[])) (ha : 0 ≤ a ∧ a < 4294967296) (hb : 0 < b ∧ b < 4294967296) :
    Calls Try.prog 83 #[.int .u32 a, .int .u32 b, .int .u32 c, .pointer (some p)] w fun e w' => e = .returned (.tuple #[.int .u32 (a % b), .int .i64 0]) ∧ New w w' := by
  go_enter Try.func83, Try.ntmps83
  go_wp2_with (go_at_call 67; refine (op12_c _ _ _ ha hb).mono ?_; rintro e w1 ⟨rfl, hb1⟩)
  go_ret2
  exact ⟨rfl, hb1⟩
theorem plain1q_c (a b c : Int) (p : Addr) (w : World) (h : w.cell? p = some (.func (.func 68) #[] #[])) (ha : 0 ≤ a ∧ a < 4294967296) (hb : 0 < b ∧ b < 4294967296) :
    Calls Try.prog 83 #[.int .u32 a, .int .u32 b, .int .u32 c, .pointer (some p)] w fun e w' => e = .returned (.tuple #[.int .u32 (divS a b), .int .i64 0]) ∧ New w w' := by
  go_enter Try.func83, Try.ntmps83
  go_wp2_with (go_at_call 68; refine (cquot_c _ _ _ ha.1 ha.2 hb.1 hb.2).mono ?_; rintro e w1 ⟨rfl, hb1⟩)
  go_ret2
  exact ⟨rfl, hb1⟩
theorem plain_c (k : FuncId) (w : World) :
    Calls Try.prog 63 #[.func (.func k) #[] #[]] w fun e w' => e = .returned (.agg #[.func (.func 83) #[] #[.pointer (some ⟨w.heap.size, 0, none⟩)]]) ∧ New w w' ∧ w'.cell? ⟨w.heap.size, 0, none⟩ = some (.func (.func k) #[] #[]) ∧ w.heap.size < w'.heap.size := by
  have hmf : ∀ (fn : Fn) (first cap : Array Value) (w : World), (Instr.makeFunc fn first cap).run Try.prog w = .ok (.func fn first cap) w := fun _ _ _ _ => rfl
  go_enter Try.func63, Try.ntmps63
  go_wp2
  go_returns
  refine ⟨rfl, by go_grown, ?_, by simp; omega⟩
  simp
/-- The table of operations. -/
def opsV (b0 b1 b2 b3 b4 : Nat) : Array Value := #[.func (.func 52) #[] #[], .func (.func 54) #[] #[], .func (.func 55) #[] #[], .func (.func 57) #[] #[], .func (.func 58) #[] #[], .func (.func 59) #[] #[], .func (.func 61) #[] #[], .func (.func 62) #[] #[], .func (.func 83) #[] #[.pointer (some ⟨b0, 0, none⟩)], .func (.func 83) #[] #[.pointer (some ⟨b1, 0, none⟩)], .func (.func 83) #[] #[.pointer (some ⟨b2, 0, none⟩)], .func (.func 83) #[] #[.pointer (some ⟨b3, 0, none⟩)], .func (.func 83) #[] #[.pointer (some ⟨b4, 0, none⟩)], .func (.func 53) #[] #[]]
structure OpsAt (w : World) (b0 b1 b2 b3 b4 : Nat) : Prop where
  c0 : w.cell? ⟨b0, 0, none⟩ = some (.func (.func 64) #[] #[])
  l0 : b0 < w.heap.size
  c1 : w.cell? ⟨b1, 0, none⟩ = some (.func (.func 65) #[] #[])
  l1 : b1 < w.heap.size
  c2 : w.cell? ⟨b2, 0, none⟩ = some (.func (.func 66) #[] #[])
  l2 : b2 < w.heap.size
  c3 : w.cell? ⟨b3, 0, none⟩ = some (.func (.func 67) #[] #[])
  l3 : b3 < w.heap.size
  c4 : w.cell? ⟨b4, 0, none⟩ = some (.func (.func 68) #[] #[])
  l4 : b4 < w.heap.size
theorem OpsAt.new {w w' : World} {b0 b1 b2 b3 b4 : Nat} (h : OpsAt w b0 b1 b2 b3 b4) (hn : New w w') : OpsAt w' b0 b1 b2 b3 b4 :=
  ⟨(hn.cell (p := ⟨b0, 0, none⟩) h.l0).trans h.c0, Nat.lt_of_lt_of_le h.l0 hn.size, (hn.cell (p := ⟨b1, 0, none⟩) h.l1).trans h.c1, Nat.lt_of_lt_of_le h.l1 hn.size, (hn.cell (p := ⟨b2, 0, none⟩) h.l2).trans h.c2, Nat.lt_of_lt_of_le h.l2 hn.size, (hn.cell (p := ⟨b3, 0, none⟩) h.l3).trans h.c3, Nat.lt_of_lt_of_le h.l3 hn.size, (hn.cell (p := ⟨b4, 0, none⟩) h.l4).trans h.c4, Nat.lt_of_lt_of_le h.l4 hn.size⟩
theorem size14 : (Try.prog.info? 80).map (·.size) = some 14 := by kernel_rfl
theorem ex80 (a : Act) (dst : Option Tmp) (x y : Operand) (ty : TypeId) (pos : String) (after : Array Edge) (guard : Option (Nat × Bool)) :
    execOp a.eval { dst, op := .store 80 x y, type := ty, pos, after, guard } = storeRow 80 (a.eval x) (a.eval y) := rfl
attribute [local go_sem ↓] ex80 Go.wp_at_zero Go.wp_at_succ
set_option maxRecDepth 100000 in
set_option maxHeartbeats 1000000 in
theorem operations_c (w : World) : Calls Try.prog 34 #[] w fun e w' => ∃ b0 b1 b2 b3 b4, e = .returned (.agg (opsV b0 b1 b2 b3 b4)) ∧ New w w' ∧ OpsAt w' b0 b1 b2 b3 b4 := by
  have c1 : ∀ k w, Calls Try.prog 63 #[.func (.func k) #[] #[]] w _ := fun k w => plain_c k w
  have C1 := Lib.hid c1
  clear c1
  go_enter Try.func34, Try.ntmps34
  go_wp2_with fail
  have hb0 := heap_alloc_at w (.cells #[.nilFunc, .nilFunc, .nilFunc, .nilFunc, .nilFunc, .nilFunc, .nilFunc, .nilFunc, .nilFunc, .nilFunc, .nilFunc, .nilFunc, .nilFunc, .nilFunc] 80) _ rfl
  have hn0 : New w (w.alloc (.cells #[.nilFunc, .nilFunc, .nilFunc, .nilFunc, .nilFunc, .nilFunc, .nilFunc, .nilFunc, .nilFunc, .nilFunc, .nilFunc, .nilFunc, .nilFunc, .nilFunc] 80)) := by go_grown
  have H0 := Lib.hid hb0
  have N0 := Lib.hid hn0
  clear hb0 hn0
  generalize w.alloc (.cells #[.nilFunc, .nilFunc, .nilFunc, .nilFunc, .nilFunc, .nilFunc, .nilFunc, .nilFunc, .nilFunc, .nilFunc, .nilFunc, .nilFunc, .nilFunc, .nilFunc] 80) = w0 at *
  refine (C1.out _ _).mono ?_
  rintro e w1 ⟨rfl, hb, hc, hl⟩
  have H1 := Lib.hid ((hb.block _ (lt_of_heap H0.out)).trans H0.out)
  have N1 := Lib.hid (N0.out.trans (hb.mono N0.out.size))
  have B1 := Lib.hid hb
  have K1 := Lib.hid hc
  have L1 := Lib.hid hl
  clear hb hc hl
  go_wp2_with fail
  refine (C1.out _ _).mono ?_
  rintro e w2 ⟨rfl, hb, hc, hl⟩
  have H2 := Lib.hid ((hb.block _ (lt_of_heap H1.out)).trans H1.out)
  have N2 := Lib.hid (N1.out.trans (hb.mono N1.out.size))
  have B2 := Lib.hid hb
  have K2 := Lib.hid hc
  have L2 := Lib.hid hl
  clear hb hc hl
  go_wp2_with fail
  refine (C1.out _ _).mono ?_
  rintro e w3 ⟨rfl, hb, hc, hl⟩
  have H3 := Lib.hid ((hb.block _ (lt_of_heap H2.out)).trans H2.out)
  have N3 := Lib.hid (N2.out.trans (hb.mono N2.out.size))
  have B3 := Lib.hid hb
  have K3 := Lib.hid hc
  have L3 := Lib.hid hl
  clear hb hc hl
  go_wp2_with fail
  refine (C1.out _ _).mono ?_
  rintro e w4 ⟨rfl, hb, hc, hl⟩
  have H4 := Lib.hid ((hb.block _ (lt_of_heap H3.out)).trans H3.out)
  have N4 := Lib.hid (N3.out.trans (hb.mono N3.out.size))
  have B4 := Lib.hid hb
  have K4 := Lib.hid hc
  have L4 := Lib.hid hl
  clear hb hc hl
  go_wp2_with fail
  refine (C1.out _ _).mono ?_
  rintro e w5 ⟨rfl, hb, hc, hl⟩
  have H5 := Lib.hid ((hb.block _ (lt_of_heap H4.out)).trans H4.out)
  have N5 := Lib.hid (N4.out.trans (hb.mono N4.out.size))
  have B5 := Lib.hid hb
  have K5 := Lib.hid hc
  have L5 := Lib.hid hl
  clear hb hc hl
  go_wp2_with fail
  obtain ⟨w6, hst, h6, ho6⟩ := store_all (P := Try.prog) 80 w.heap.size _ (opsV w0.heap.size w1.heap.size w2.heap.size w3.heap.size w4.heap.size) _ w5 H5.out rfl (size14.trans rfl) (by unfold opsV; simp [Value.oneCell'])
  have H6 := Lib.hid h6
  have O6 := Lib.hid ho6
  unfold opsV at hst
  clear h6 ho6
  rw [hst]
  clear hst
  go_wp2
  refine bodyPost_ret (v := .agg (opsV w0.heap.size w1.heap.size w2.heap.size w3.heap.size w4.heap.size)) ?_ rfl ⟨_, _, _, _, _, rfl, new_only N5.out O6.out (Nat.le_refl _), ?_⟩
  · exact results_row1 Try.results34 _ _ _ _ rfl (load_row _ _ _ _ _ _ H6.out Try.underlying80 rfl (size14.trans rfl))
  · have s0 := N0.out.size
    have z0 := lt_of_heap H0.out
    have z1 := B1.out.size
    have z2 := B2.out.size
    have z3 := B3.out.size
    have z4 := B4.out.size
    have z5 := B5.out.size
    have l1 := L1.out
    have l2 := L2.out
    have l3 := L3.out
    have l4 := L4.out
    have l5 := L5.out
    have k1 := (((B2.out.cell (p := ⟨w0.heap.size, 0, none⟩) (by dsimp only; omega)).trans K1.out))
    have k1 := (B3.out.cell (p := ⟨w0.heap.size, 0, none⟩) (by dsimp only; omega)).trans k1
    have k1 := (B4.out.cell (p := ⟨w0.heap.size, 0, none⟩) (by dsimp only; omega)).trans k1
    have k1 := (B5.out.cell (p := ⟨w0.heap.size, 0, none⟩) (by dsimp only; omega)).trans k1
    have k2 := (B3.out.cell (p := ⟨w1.heap.size, 0, none⟩) (by dsimp only; omega)).trans K2.out
    have k2 := (B4.out.cell (p := ⟨w1.heap.size, 0, none⟩) (by dsimp only; omega)).trans k2
    have k2 := (B5.out.cell (p := ⟨w1.heap.size, 0, none⟩) (by dsimp only; omega)).trans k2
    have k3 := (B4.out.cell (p := ⟨w2.heap.size, 0, none⟩) (by dsimp only; omega)).trans K3.out
    have k3 := (B5.out.cell (p := ⟨w2.heap.size, 0, none⟩) (by dsimp only; omega)).trans k3
    have k4 := (B5.out.cell (p := ⟨w3.heap.size, 0, none⟩) (by dsimp only; omega)).trans K4.out
    have k5 := K5.out
    have s6 := O6.out.size
    exact ⟨(O6.out.cell (by omega)).trans k1, by omega, (O6.out.cell (by omega)).trans k2, by omega, (O6.out.cell (by omega)).trans k3, by omega, (O6.out.cell (by omega)).trans k4, by omega, (O6.out.cell (by omega)).trans k5, by omega⟩
end Go.Proofs.Ytpooghnemlnopaa
/- Plain lemmas on whole numbers of 64 bits: masks. -/
namespace Go.Cd
open Go
theorem and_mask64 (x : Int) (i : Nat) (hi : i ≤ 62) : bits .and .i64 x ((2 : Int) ^ i - 1) = x % (2 : Int) ^ i := by
  have hp : (2 : Int) ^ i = ((2 ^ i : Nat) : Int) := by simp
  have hp0 : 0 < 2 ^ i := Nat.two_pow_pos i
  have hp1 : 2 ^ i ≤ 2 ^ 62 := Nat.pow_le_pow_right (by decide) hi
  have e : bits .and .i64 x ((2 : Int) ^ i - 1) = IntKind.i64.wrap (((BitVec.ofInt 64 x &&& BitVec.ofInt 64 ((2 : Int) ^ i - 1)).toNat : Nat) : Int) := by simp only [bits]; rfl
  have h1 : (BitVec.ofInt 64 ((2 : Int) ^ i - 1)).toNat = 2 ^ i - 1 := by
    rw [BitVec.toNat_ofInt, hp, Int.emod_eq_of_lt (by omega) (by omega)]
    omega
  rw [e, BitVec.toNat_and, h1, Nat.and_two_pow_sub_one_eq_mod, BitVec.toNat_ofInt]
  have hd : ((2 ^ i : Nat) : Int) ∣ ((2 ^ 64 : Nat) : Int) := Int.natCast_dvd_natCast.2 (Nat.pow_dvd_pow 2 (by omega))
  have h2 : (((x % ((2 ^ 64 : Nat) : Int)).toNat % 2 ^ i : Nat) : Int) = x % ((2 ^ i : Nat) : Int) := by
    rw [Int.natCast_emod, Int.toNat_of_nonneg (Int.emod_nonneg _ (by decide)), Int.emod_emod_of_dvd _ hd]
  rw [h2, hp]
  have h3 := Int.emod_nonneg x (show ((2 ^ i : Nat) : Int) ≠ 0 by omega)
  have h4 := Int.emod_lt_of_pos x (show 0 < ((2 ^ i : Nat) : Int) by omega)
  exact IntWalk.i64_in _ (by omega)
theorem and1_i64 (k : Int) : bits .and .i64 k 1 = k % 2 := and_mask64 k 1 (by decide)
theorem and15_i64 (k : Int) : bits .and .i64 k 15 = k % 16 := and_mask64 k 4 (by decide)
end Go.Cd
/- The contract of cpu.Alu. Written by genAlu.py. -/
namespace Go.Proofs.Ytpooghnemlnopaa
open Go Go.RowKit Go.Cd
set_option linter.unusedVariables false

attribute [local go_sem ↓] ex80 Go.wp_at_zero Go.wp_at_succ
def aluT (op a b k : Int) : Int × Int × Bool :=
  if op = 3 then (sumR a b 0, sumFl a b 0, true) else if op = 4 then (difR a b 0, difFl a b 0, true)
  else if op = 5 then (bits .and .u32 a b, logFl (bits .and .u32 a b), true) else if op = 6 then (bits .or .u32 a b, logFl (bits .or .u32 a b), true) else if op = 7 then (bits .xor .u32 a b, logFl (bits .xor .u32 a b), true)
  else if op = 8 then (shlR a (b % 32), shFl (shlR a (b % 32)) a (b % 32) true, true) else if op = 9 then (shrR a (b % 32), shFl (shrR a (b % 32)) a (b % 32) false, true) else if op = 10 then (sarR a (b % 32), shFl (sarR a (b % 32)) a (b % 32) false, true)
  else if op = 11 then (a * b % 4294967296, 0, true) else if op = 12 then (a * b / 4294967296, 0, true)
  else if op = 16 then (sumR a b (k % 2), sumFl a b (k % 2), true) else if op = 17 then (difR a b (k % 2), difFl a b (k % 2), true)
  else if b = 0 then (0, 0, false)
  else if op = 13 then (a / b, 0, true) else if op = 14 then (a % b, 0, true) else if op = 15 then (divS a b, 0, true) else (0, 0, false)
def AluPost (t : Int × Int × Bool) (w : World) (e : Ending) (w' : World) : Prop := e = .returned (.tuple #[.int .u32 t.1, .int .i64 t.2.1, .bool t.2.2]) ∧ New w w'
set_option maxRecDepth 100000 in
set_option maxHeartbeats 1000000 in
theorem alu_3 (a b k : Int) (w : World) (ha : 0 ≤ a ∧ a < 4294967296) (hb : 0 ≤ b ∧ b < 4294967296) (z : Bool) (e0 : (b == 0) = z) :
    Calls Try.prog 10 #[.int .i64 3, .int .u32 a, .int .u32 b, .int .i64 k] w (AluPost (aluT 3 a b k) w) := by
  have hm := and1_i64 k
  cases z
  all_goals
    go_enter Try.func10, Try.ntmps10
    go_wp2_with (go_at_call 34; refine (operations_c _).mono ?_; rintro e w1 ⟨b0, b1, b2, b3, b4, rfl, hb1, hoa⟩; have N1 := Lib.hid hb1; have OA := Lib.hid hoa; clear hb1 hoa)
    have hbx := heap_alloc_at w1 (.cells #[.nilFunc, .nilFunc, .nilFunc, .nilFunc, .nilFunc, .nilFunc, .nilFunc, .nilFunc, .nilFunc, .nilFunc, .nilFunc, .nilFunc, .nilFunc, .nilFunc] 80) _ rfl
    have N2 := Lib.hid ((New.refl w1).alloc (Nat.le_refl _) (.cells #[.nilFunc, .nilFunc, .nilFunc, .nilFunc, .nilFunc, .nilFunc, .nilFunc, .nilFunc, .nilFunc, .nilFunc, .nilFunc, .nilFunc, .nilFunc, .nilFunc] 80))
    have OA2 := Lib.hid (OA.out.new N2.out)
    generalize w1.alloc (.cells #[.nilFunc, .nilFunc, .nilFunc, .nilFunc, .nilFunc, .nilFunc, .nilFunc, .nilFunc, .nilFunc, .nilFunc, .nilFunc, .nilFunc, .nilFunc, .nilFunc] 80) = w2 at *
    obtain ⟨w3, hst, h3, ho3⟩ := store_all (P := Try.prog) 80 w1.heap.size _ (opsV b0 b1 b2 b3 b4) _ w2 hbx rfl (size14.trans rfl) (by unfold opsV; simp [Value.oneCell'])
    rw [hst]
    clear hst hbx
    have N3 := Lib.hid (new_only N2.out ho3 (Nat.le_refl _))
    have OA3 := Lib.hid (OA.out.new N3.out)
    have hc : w3.cell? ⟨w1.heap.size, 0, none⟩ = some (.func (.func 52) #[] #[]) := cell_of_heap h3 rfl
    clear h3 ho3
    go_wp2_with (go_at_call 52; refine (op1_c _ _ _ _ ha hb).mono ?_; rintro e w4 ⟨rfl, hb4⟩; have N4 := Lib.hid hb4; clear hb4)
    go_ret3
    exact ⟨rfl, N1.out.trans ((N3.out.trans (N4.out.mono N3.out.size)).mono N1.out.size)⟩
set_option maxRecDepth 100000 in
set_option maxHeartbeats 1000000 in
theorem alu_4 (a b k : Int) (w : World) (ha : 0 ≤ a ∧ a < 4294967296) (hb : 0 ≤ b ∧ b < 4294967296) (z : Bool) (e0 : (b == 0) = z) :
    Calls Try.prog 10 #[.int .i64 4, .int .u32 a, .int .u32 b, .int .i64 k] w (AluPost (aluT 4 a b k) w) := by
  have hm := and1_i64 k
  cases z
  all_goals
    go_enter Try.func10, Try.ntmps10
    go_wp2_with (go_at_call 34; refine (operations_c _).mono ?_; rintro e w1 ⟨b0, b1, b2, b3, b4, rfl, hb1, hoa⟩; have N1 := Lib.hid hb1; have OA := Lib.hid hoa; clear hb1 hoa)
    have hbx := heap_alloc_at w1 (.cells #[.nilFunc, .nilFunc, .nilFunc, .nilFunc, .nilFunc, .nilFunc, .nilFunc, .nilFunc, .nilFunc, .nilFunc, .nilFunc, .nilFunc, .nilFunc, .nilFunc] 80) _ rfl
    have N2 := Lib.hid ((New.refl w1).alloc (Nat.le_refl _) (.cells #[.nilFunc, .nilFunc, .nilFunc, .nilFunc, .nilFunc, .nilFunc, .nilFunc, .nilFunc, .nilFunc, .nilFunc, .nilFunc, .nilFunc, .nilFunc, .nilFunc] 80))
    have OA2 := Lib.hid (OA.out.new N2.out)
    generalize w1.alloc (.cells #[.nilFunc, .nilFunc, .nilFunc, .nilFunc, .nilFunc, .nilFunc, .nilFunc, .nilFunc, .nilFunc, .nilFunc, .nilFunc, .nilFunc, .nilFunc, .nilFunc] 80) = w2 at *
    obtain ⟨w3, hst, h3, ho3⟩ := store_all (P := Try.prog) 80 w1.heap.size _ (opsV b0 b1 b2 b3 b4) _ w2 hbx rfl (size14.trans rfl) (by unfold opsV; simp [Value.oneCell'])
    rw [hst]
    clear hst hbx
    have N3 := Lib.hid (new_only N2.out ho3 (Nat.le_refl _))
    have OA3 := Lib.hid (OA.out.new N3.out)
    have hc : w3.cell? ⟨w1.heap.size, 1, none⟩ = some (.func (.func 54) #[] #[]) := cell_of_heap h3 rfl
    clear h3 ho3
    go_wp2_with (go_at_call 54; refine (op2_c _ _ _ _ ha hb).mono ?_; rintro e w4 ⟨rfl, hb4⟩; have N4 := Lib.hid hb4; clear hb4)
    go_ret3
    exact ⟨rfl, N1.out.trans ((N3.out.trans (N4.out.mono N3.out.size)).mono N1.out.size)⟩
set_option maxRecDepth 100000 in
set_option maxHeartbeats 1000000 in
theorem alu_5 (a b k : Int) (w : World) (ha : 0 ≤ a ∧ a < 4294967296) (hb : 0 ≤ b ∧ b < 4294967296) (z : Bool) (e0 : (b == 0) = z) :
    Calls Try.prog 10 #[.int .i64 5, .int .u32 a, .int .u32 b, .int .i64 k] w (AluPost (aluT 5 a b k) w) := by
  have hm := and1_i64 k
  cases z
  all_goals
    go_enter Try.func10, Try.ntmps10
    go_wp2_with (go_at_call 34; refine (operations_c _).mono ?_; rintro e w1 ⟨b0, b1, b2, b3, b4, rfl, hb1, hoa⟩; have N1 := Lib.hid hb1; have OA := Lib.hid hoa; clear hb1 hoa)
    have hbx := heap_alloc_at w1 (.cells #[.nilFunc, .nilFunc, .nilFunc, .nilFunc, .nilFunc, .nilFunc, .nilFunc, .nilFunc, .nilFunc, .nilFunc, .nilFunc, .nilFunc, .nilFunc, .nilFunc] 80) _ rfl
    have N2 := Lib.hid ((New.refl w1).alloc (Nat.le_refl _) (.cells #[.nilFunc, .nilFunc, .nilFunc, .nilFunc, .nilFunc, .nilFunc, .nilFunc, .nilFunc, .nilFunc, .nilFunc, .nilFunc, .nilFunc, .nilFunc, .nilFunc] 80))
    have OA2 := Lib.hid (OA.out.new N2.out)
    generalize w1.alloc (.cells #[.nilFunc, .nilFunc, .nilFunc, .nilFunc, .nilFunc, .nilFunc, .nilFunc, .nilFunc, .nilFunc, .nilFunc, .nilFunc, .nilFunc, .nilFunc, .nilFunc] 80) = w2 at *
    obtain ⟨w3, hst, h3, ho3⟩ := store_all (P := Try.prog) 80 w1.heap.size _ (opsV b0 b1 b2 b3 b4) _ w2 hbx rfl (size14.trans rfl) (by unfold opsV; simp [Value.oneCell'])
    rw [hst]
    clear hst hbx
    have N3 := Lib.hid (new_only N2.out ho3 (Nat.le_refl _))
    have OA3 := Lib.hid (OA.out.new N3.out)
    have hc : w3.cell? ⟨w1.heap.size, 2, none⟩ = some (.func (.func 55) #[] #[]) := cell_of_heap h3 rfl
    clear h3 ho3
    go_wp2_with (go_at_call 55; refine (op3_c _ _ _ _).mono ?_; rintro e w4 ⟨rfl, hb4⟩; have N4 := Lib.hid hb4; clear hb4)
    go_ret3
    exact ⟨rfl, N1.out.trans ((N3.out.trans (N4.out.mono N3.out.size)).mono N1.out.size)⟩
set_option maxRecDepth 100000 in
set_option maxHeartbeats 1000000 in
theorem alu_6 (a b k : Int) (w : World) (ha : 0 ≤ a ∧ a < 4294967296) (hb : 0 ≤ b ∧ b < 4294967296) (z : Bool) (e0 : (b == 0) = z) :
    Calls Try.prog 10 #[.int .i64 6, .int .u32 a, .int .u32 b, .int .i64 k] w (AluPost (aluT 6 a b k) w) := by
  have hm := and1_i64 k
  cases z
  all_goals
    go_enter Try.func10, Try.ntmps10
    go_wp2_with (go_at_call 34; refine (operations_c _).mono ?_; rintro e w1 ⟨b0, b1, b2, b3, b4, rfl, hb1, hoa⟩; have N1 := Lib.hid hb1; have OA := Lib.hid hoa; clear hb1 hoa)
    have hbx := heap_alloc_at w1 (.cells #[.nilFunc, .nilFunc, .nilFunc, .nilFunc, .nilFunc, .nilFunc, .nilFunc, .nilFunc, .nilFunc, .nilFunc, .nilFunc, .nilFunc, .nilFunc, .nilFunc] 80) _ rfl
    have N2 := Lib.hid ((New.refl w1).alloc (Nat.le_refl _) (.cells #[.nilFunc, .nilFunc, .nilFunc, .nilFunc, .nilFunc, .nilFunc, .nilFunc, .nilFunc, .nilFunc, .nilFunc, .nilFunc, .nilFunc, .nilFunc, .nilFunc] 80))
    have OA2 := Lib.hid (OA.out.new N2.out)
    generalize w1.alloc (.cells #[.nilFunc, .nilFunc, .nilFunc, .nilFunc, .nilFunc, .nilFunc, .nilFunc, .nilFunc, .nilFunc, .nilFunc, .nilFunc, .nilFunc, .nilFunc, .nilFunc] 80) = w2 at *
    obtain ⟨w3, hst, h3, ho3⟩ := store_all (P := Try.prog) 80 w1.heap.size _ (opsV b0 b1 b2 b3 b4) _ w2 hbx rfl (size14.trans rfl) (by unfold opsV; simp [Value.oneCell'])
    rw [hst]
    clear hst hbx
    have N3 := Lib.hid (new_only N2.out ho3 (Nat.le_refl _))
    have OA3 := Lib.hid (OA.out.new N3.out)
    have hc : w3.cell? ⟨w1.heap.size, 3, none⟩ = some (.func (.func 57) #[] #[]) := cell_of_heap h3 rfl
    clear h3 ho3
    go_wp2_with (go_at_call 57; refine (op4_c _ _ _ _).mono ?_; rintro e w4 ⟨rfl, hb4⟩; have N4 := Lib.hid hb4; clear hb4)
    go_ret3
    exact ⟨rfl, N1.out.trans ((N3.out.trans (N4.out.mono N3.out.size)).mono N1.out.size)⟩
set_option maxRecDepth 100000 in
set_option maxHeartbeats 1000000 in
theorem alu_7 (a b k : Int) (w : World) (ha : 0 ≤ a ∧ a < 4294967296) (hb : 0 ≤ b ∧ b < 4294967296) (z : Bool) (e0 : (b == 0) = z) :
    Calls Try.prog 10 #[.int .i64 7, .int .u32 a, .int .u32 b, .int .i64 k] w (AluPost (aluT 7 a b k) w) := by
  have hm := and1_i64 k
  cases z
  all_goals
    go_enter Try.func10, Try.ntmps10
    go_wp2_with (go_at_call 34; refine (operations_c _).mono ?_; rintro e w1 ⟨b0, b1, b2, b3, b4, rfl, hb1, hoa⟩; have N1 := Lib.hid hb1; have OA := Lib.hid hoa; clear hb1 hoa)
    have hbx := heap_alloc_at w1 (.cells #[.nilFunc, .nilFunc, .nilFunc, .nilFunc, .nilFunc, .nilFunc, .nilFunc, .nilFunc, .nilFunc, .nilFunc, .nilFunc, .nilFunc, .nilFunc, .nilFunc] 80) _ rfl
    have N2 := Lib.hid ((New.refl w1).alloc (Nat.le_refl _) (.cells #[.nilFunc, .nilFunc, .nilFunc, .nilFunc, .nilFunc, .nilFunc, .nilFunc, .nilFunc, .nilFunc, .nilFunc, .nilFunc, .nilFunc, .nilFunc, .nilFunc] 80))
    have OA2 := Lib.hid (OA.out.new N2.out)
    generalize w1.alloc (.cells #[.nilFunc, .nilFunc, .nilFunc, .nilFunc, .nilFunc, .nilFunc, .nilFunc, .nilFunc, .nilFunc, .nilFunc, .nilFunc, .nilFunc, .nilFunc, .nilFunc] 80) = w2 at *
    obtain ⟨w3, hst, h3, ho3⟩ := store_all (P := Try.prog) 80 w1.heap.size _ (opsV b0 b1 b2 b3 b4) _ w2 hbx rfl (size14.trans rfl) (by unfold opsV; simp [Value.oneCell'])
    rw [hst]
    clear hst hbx
    have N3 := Lib.hid (new_only N2.out ho3 (Nat.le_refl _))
    have OA3 := Lib.hid (OA.out.new N3.out)
    have hc : w3.cell? ⟨w1.heap.size, 4, none⟩ = some (.func (.func 58) #[] #[]) := cell_of_heap h3 rfl
    clear h3 ho3
    go_wp2_with (go_at_call 58; refine (op5_c _ _ _ _).mono ?_; rintro e w4 ⟨rfl, hb4⟩; have N4 := Lib.hid hb4; clear hb4)
    go_ret3
    exact ⟨rfl, N1.out.trans ((N3.out.trans (N4.out.mono N3.out.size)).mono N1.out.size)⟩
set_option maxRecDepth 100000 in
set_option maxHeartbeats 1000000 in
theorem alu_8 (a b k : Int) (w : World) (ha : 0 ≤ a ∧ a < 4294967296) (hb : 0 ≤ b ∧ b < 4294967296) (z : Bool) (e0 : (b == 0) = z) :
    Calls Try.prog 10 #[.int .i64 8, .int .u32 a, .int .u32 b, .int .i64 k] w (AluPost (aluT 8 a b k) w) := by
  have hm := and1_i64 k
  cases z
  all_goals
    go_enter Try.func10, Try.ntmps10
    go_wp2_with (go_at_call 34; refine (operations_c _).mono ?_; rintro e w1 ⟨b0, b1, b2, b3, b4, rfl, hb1, hoa⟩; have N1 := Lib.hid hb1; have OA := Lib.hid hoa; clear hb1 hoa)
    have hbx := heap_alloc_at w1 (.cells #[.nilFunc, .nilFunc, .nilFunc, .nilFunc, .nilFunc, .nilFunc, .nilFunc, .nilFunc, .nilFunc, .nilFunc, .nilFunc, .nilFunc, .nilFunc, .nilFunc] 80) _ rfl
    have N2 := Lib.hid ((New.refl w1).alloc (Nat.le_refl _) (.cells #[.nilFunc, .nilFunc, .nilFunc, .nilFunc, .nilFunc, .nilFunc, .nilFunc, .nilFunc, .nilFunc, .nilFunc, .nilFunc, .nilFunc, .nilFunc, .nilFunc] 80))
    have OA2 := Lib.hid (OA.out.new N2.out)
    generalize w1.alloc (.cells #[.nilFunc, .nilFunc, .nilFunc, .nilFunc, .nilFunc, .nilFunc, .nilFunc, .nilFunc, .nilFunc, .nilFunc, .nilFunc, .nilFunc, .nilFunc, .nilFunc] 80) = w2 at *
    obtain ⟨w3, hst, h3, ho3⟩ := store_all (P := Try.prog) 80 w1.heap.size _ (opsV b0 b1 b2 b3 b4) _ w2 hbx rfl (size14.trans rfl) (by unfold opsV; simp [Value.oneCell'])
    rw [hst]
    clear hst hbx
    have N3 := Lib.hid (new_only N2.out ho3 (Nat.le_refl _))
    have OA3 := Lib.hid (OA.out.new N3.out)
    have hc : w3.cell? ⟨w1.heap.size, 5, none⟩ = some (.func (.func 59) #[] #[]) := cell_of_heap h3 rfl
    clear h3 ho3
    go_wp2_with (go_at_call 59; refine (op6_c _ _ _ _ ha hb).mono ?_; rintro e w4 ⟨rfl, hb4⟩; have N4 := Lib.hid hb4; clear hb4)
    go_ret3
    exact ⟨rfl, N1.out.trans ((N3.out.trans (N4.out.mono N3.out.size)).mono N1.out.size)⟩
set_option maxRecDepth 100000 in
set_option maxHeartbeats 1000000 in
theorem alu_9 (a b k : Int) (w : World) (ha : 0 ≤ a ∧ a < 4294967296) (hb : 0 ≤ b ∧ b < 4294967296) (z : Bool) (e0 : (b == 0) = z) :
    Calls Try.prog 10 #[.int .i64 9, .int .u32 a, .int .u32 b, .int .i64 k] w (AluPost (aluT 9 a b k) w) := by
  have hm := and1_i64 k
  cases z
  all_goals
    go_enter Try.func10, Try.ntmps10
    go_wp2_with (go_at_call 34; refine (operations_c _).mono ?_; rintro e w1 ⟨b0, b1, b2, b3, b4, rfl, hb1, hoa⟩; have N1 := Lib.hid hb1; have OA := Lib.hid hoa; clear hb1 hoa)
    have hbx := heap_alloc_at w1 (.cells #[.nilFunc, .nilFunc, .nilFunc, .nilFunc, .nilFunc, .nilFunc, .nilFunc, .nilFunc, .nilFunc, .nilFunc, .nilFunc, .nilFunc, .nilFunc, .nilFunc] 80) _ rfl
    have N2 := Lib.hid ((New.refl w1).alloc (Nat.le_refl _) (.cells #[.nilFunc, .nilFunc, .nilFunc, .nilFunc, .nilFunc, .nilFunc, .nilFunc, .nilFunc, .nilFunc, .nilFunc, .nilFunc, .nilFunc, .nilFunc, .nilFunc] 80))
    have OA2 := Lib.hid (OA.out.new N2.out)
    generalize w1.alloc (.cells #[.nilFunc, .nilFunc, .nilFunc, .nilFunc, .nilFunc, .nilFunc, .nilFunc, .nilFunc, .nilFunc, .nilFunc, .nilFunc, .nilFunc, .nilFunc, .nilFunc] 80) = w2 at *
    obtain ⟨w3, hst, h3, ho3⟩ := store_all (P := Try.prog) 80 w1.heap.size _ (opsV b0 b1 b2 b3 b4) _ w2 hbx rfl (size14.trans rfl) (by unfold opsV; simp [Value.oneCell'])
    rw [hst]
    clear hst hbx
    have N3 := Lib.hid (new_only N2.out ho3 (Nat.le_refl _))
    have OA3 := Lib.hid (OA.out.new N3.out)
    have hc : w3.cell? ⟨w1.heap.size, 6, none⟩ = some (.func (.func 61) #[] #[]) := cell_of_heap h3 rfl
    clear h3 ho3
    go_wp2_with (go_at_call 61; refine (op7_c _ _ _ _ ha hb).mono ?_; rintro e w4 ⟨rfl, hb4⟩; have N4 := Lib.hid hb4; clear hb4)
    go_ret3
    exact ⟨rfl, N1.out.trans ((N3.out.trans (N4.out.mono N3.out.size)).mono N1.out.size)⟩
set_option maxRecDepth 100000 in
set_option maxHeartbeats 1000000 in
theorem alu_10 (a b k : Int) (w : World) (ha : 0 ≤ a ∧ a < 4294967296) (hb : 0 ≤ b ∧ b < 4294967296) (z : Bool) (e0 : (b == 0) = z) :
    Calls Try.prog 10 #[.int .i64 10, .int .u32 a, .int .u32 b, .int .i64 k] w (AluPost (aluT 10 a b k) w) := by
  have hm := and1_i64 k
  cases z
  all_goals
    go_enter Try.func10, Try.ntmps10
    go_wp2_with (go_at_call 34; refine (operations_c _).mono ?_; rintro e w1 ⟨b0, b1, b2, b3, b4, rfl, hb1, hoa⟩; have N1 := Lib.hid hb1; have OA := Lib.hid hoa; clear hb1 hoa)
    have hbx := heap_alloc_at w1 (.cells #[.nilFunc, .nilFunc, .nilFunc, .nilFunc, .nilFunc, .nilFunc, .nilFunc, .nilFunc, .nilFunc, .nilFunc, .nilFunc, .nilFunc, .nilFunc, .nilFunc] 80) _ rfl
    have N2 := Lib.hid ((New.refl w1).alloc (Nat.le_refl _) (.cells #[.nilFunc, .nilFunc, .nilFunc, .nilFunc, .nilFunc, .nilFunc, .nilFunc, .nilFunc, .nilFunc, .nilFunc, .nilFunc, .nilFunc, .nilFunc, .nilFunc] 80))
    have OA2 := Lib.hid (OA.out.new N2.out)
    generalize w1.alloc (.cells #[.nilFunc, .nilFunc, .nilFunc, .nilFunc, .nilFunc, .nilFunc, .nilFunc, .nilFunc, .nilFunc, .nilFunc, .nilFunc, .nilFunc, .nilFunc, .nilFunc] 80) = w2 at *
    obtain ⟨w3, hst, h3, ho3⟩ := store_all (P := Try.prog) 80 w1.heap.size _ (opsV b0 b1 b2 b3 b4) _ w2 hbx rfl (size14.trans rfl) (by unfold opsV; simp [Value.oneCell'])
    rw [hst]
    clear hst hbx
    have N3 := Lib.hid (new_only N2.out ho3 (Nat.le_refl _))
    have OA3 := Lib.hid (OA.out.new N3.out)
    have hc : w3.cell? ⟨w1.heap.size, 7, none⟩ = some (.func (.func 62) #[] #[]) := cell_of_heap h3 rfl
    clear h3 ho3
    go_wp2_with (go_at_call 62; refine (op8_c _ _ _ _ ha hb).mono ?_; rintro e w4 ⟨rfl, hb4⟩; have N4 := Lib.hid hb4; clear hb4)
    go_ret3
    exact ⟨rfl, N1.out.trans ((N3.out.trans (N4.out.mono N3.out.size)).mono N1.out.size)⟩
set_option maxRecDepth 100000 in
set_option maxHeartbeats 1000000 in
theorem alu_11 (a b k : Int) (w : World) (ha : 0 ≤ a ∧ a < 4294967296) (hb : 0 ≤ b ∧ b < 4294967296) (z : Bool) (e0 : (b == 0) = z) :
    Calls Try.prog 10 #[.int .i64 11, .int .u32 a, .int .u32 b, .int .i64 k] w (AluPost (aluT 11 a b k) w) := by
  have hm := and1_i64 k
  cases z
  all_goals
    go_enter Try.func10, Try.ntmps10
    go_wp2_with (go_at_call 34; refine (operations_c _).mono ?_; rintro e w1 ⟨b0, b1, b2, b3, b4, rfl, hb1, hoa⟩; have N1 := Lib.hid hb1; have OA := Lib.hid hoa; clear hb1 hoa)
    have hbx := heap_alloc_at w1 (.cells #[.nilFunc, .nilFunc, .nilFunc, .nilFunc, .nilFunc, .nilFunc, .nilFunc, .nilFunc, .nilFunc, .nilFunc, .nilFunc, .nilFunc, .nilFunc, .nilFunc] 80) _ rfl
    have N2 := Lib.hid ((New.refl w1).alloc (Nat.le_refl _) (.cells #[.nilFunc, .nilFunc, .nilFunc, .nilFunc, .nilFunc, .nilFunc, .nilFunc, .nilFunc, .nilFunc, .nilFunc, .nilFunc, .nilFunc, .nilFunc, .nilFunc] 80))
    have OA2 := Lib.hid (OA.out.new N2.out)
    generalize w1.alloc (.cells #[.nilFunc, .nilFunc, .nilFunc, .nilFunc, .nilFunc, .nilFunc, .nilFunc, .nilFunc, .nilFunc, .nilFunc, .nilFunc, .nilFunc, .nilFunc, .nilFunc] 80) = w2 at *
    obtain ⟨w3, hst, h3, ho3⟩ := store_all (P := Try.prog) 80 w1.heap.size _ (opsV b0 b1 b2 b3 b4) _ w2 hbx rfl (size14.trans rfl) (by unfold opsV; simp [Value.oneCell'])
    rw [hst]
    clear hst hbx
    have N3 := Lib.hid (new_only N2.out ho3 (Nat.le_refl _))
    have OA3 := Lib.hid (OA.out.new N3.out)
    have hc : w3.cell? ⟨w1.heap.size, 8, none⟩ = some (.func (.func 83) #[] #[.pointer (some ⟨b0, 0, none⟩)]) := cell_of_heap h3 rfl
    clear h3 ho3
    go_wp2_with (go_at_call 83; refine (plain1m_c _ _ _ _ _ OA3.out.c0).mono ?_; rintro e w4 ⟨rfl, hb4⟩; have N4 := Lib.hid hb4; clear hb4)
    go_ret3
    exact ⟨rfl, N1.out.trans ((N3.out.trans (N4.out.mono N3.out.size)).mono N1.out.size)⟩
set_option maxRecDepth 100000 in
set_option maxHeartbeats 1000000 in
theorem alu_12 (a b k : Int) (w : World) (ha : 0 ≤ a ∧ a < 4294967296) (hb : 0 ≤ b ∧ b < 4294967296) (z : Bool) (e0 : (b == 0) = z) :
    Calls Try.prog 10 #[.int .i64 12, .int .u32 a, .int .u32 b, .int .i64 k] w (AluPost (aluT 12 a b k) w) := by
  have hm := and1_i64 k
  cases z
  all_goals
    go_enter Try.func10, Try.ntmps10
    go_wp2_with (go_at_call 34; refine (operations_c _).mono ?_; rintro e w1 ⟨b0, b1, b2, b3, b4, rfl, hb1, hoa⟩; have N1 := Lib.hid hb1; have OA := Lib.hid hoa; clear hb1 hoa)
    have hbx := heap_alloc_at w1 (.cells #[.nilFunc, .nilFunc, .nilFunc, .nilFunc, .nilFunc, .nilFunc, .nilFunc, .nilFunc, .nilFunc, .nilFunc, .nilFunc, .nilFunc, .nilFunc, .nilFunc] 80) _ rfl
    have N2 := Lib.hid ((New.refl w1).alloc (Nat.le_refl _) (.cells #[.nilFunc, .nilFunc, .nilFunc, .nilFunc, .nilFunc, .nilFunc, .nilFunc, .nilFunc, .nilFunc, .nilFunc, .nilFunc, .nilFunc, .nilFunc, .nilFunc] 80))
    have OA2 := Lib.hid (OA.out.new N2.out)
    generalize w1.alloc (.cells #[.nilFunc, .nilFunc, .nilFunc, .nilFunc, .nilFunc, .nilFunc, .nilFunc, .nilFunc, .nilFunc, .nilFunc, .nilFunc, .nilFunc, .nilFunc, .nilFunc] 80) = w2 at *
    obtain ⟨w3, hst, h3, ho3⟩ := store_all (P := Try.prog) 80 w1.heap.size _ (opsV b0 b1 b2 b3 b4) _ w2 hbx rfl (size14.trans rfl) (by unfold opsV; simp [Value.oneCell'])
    rw [hst]
    clear hst hbx
    have N3 := Lib.hid (new_only N2.out ho3 (Nat.le_refl _))
    have OA3 := Lib.hid (OA.out.new N3.out)
    have hc : w3.cell? ⟨w1.heap.size, 9, none⟩ = some (.func (.func 83) #[] #[.pointer (some ⟨b1, 0, none⟩)]) := cell_of_heap h3 rfl
    clear h3 ho3
    go_wp2_with (go_at_call 83; refine (plain1mh_c _ _ _ _ _ OA3.out.c1 ha hb).mono ?_; rintro e w4 ⟨rfl, hb4⟩; have N4 := Lib.hid hb4; clear hb4)
    go_ret3
    exact ⟨rfl, N1.out.trans ((N3.out.trans (N4.out.mono N3.out.size)).mono N1.out.size)⟩
set_option maxRecDepth 100000 in
set_option maxHeartbeats 1000000 in
theorem alu_13 (a b k : Int) (w : World) (ha : 0 ≤ a ∧ a < 4294967296) (hb : 0 ≤ b ∧ b < 4294967296) (hz : b ≠ 0) :
    Calls Try.prog 10 #[.int .i64 13, .int .u32 a, .int .u32 b, .int .i64 k] w (AluPost (aluT 13 a b k) w) := by
  have hm := and1_i64 k
  have e0 : (b == 0) = false := by simp [hz]
  rw [show aluT 13 a b k = (a / b, 0, true) from by unfold aluT; simp [hz]]
  go_enter Try.func10, Try.ntmps10
  go_wp2_with (go_at_call 34; refine (operations_c _).mono ?_; rintro e w1 ⟨b0, b1, b2, b3, b4, rfl, hb1, hoa⟩; have N1 := Lib.hid hb1; have OA := Lib.hid hoa; clear hb1 hoa)
  have hbx := heap_alloc_at w1 (.cells #[.nilFunc, .nilFunc, .nilFunc, .nilFunc, .nilFunc, .nilFunc, .nilFunc, .nilFunc, .nilFunc, .nilFunc, .nilFunc, .nilFunc, .nilFunc, .nilFunc] 80) _ rfl
  have N2 := Lib.hid ((New.refl w1).alloc (Nat.le_refl _) (.cells #[.nilFunc, .nilFunc, .nilFunc, .nilFunc, .nilFunc, .nilFunc, .nilFunc, .nilFunc, .nilFunc, .nilFunc, .nilFunc, .nilFunc, .nilFunc, .nilFunc] 80))
  have OA2 := Lib.hid (OA.out.new N2.out)
  generalize w1.alloc (.cells #[.nilFunc, .nilFunc, .nilFunc, .nilFunc, .nilFunc, .nilFunc, .nilFunc, .nilFunc, .nilFunc, .nilFunc, .nilFunc, .nilFunc, .nilFunc, .nilFunc] 80) = w2 at *
  obtain ⟨w3, hst, h3, ho3⟩ := store_all (P := Try.prog) 80 w1.heap.size _ (opsV b0 b1 b2 b3 b4) _ w2 hbx rfl (size14.trans rfl) (by unfold opsV; simp [Value.oneCell'])
  rw [hst]
  clear hst hbx
  have N3 := Lib.hid (new_only N2.out ho3 (Nat.le_refl _))
  have OA3 := Lib.hid (OA.out.new N3.out)
  have hc : w3.cell? ⟨w1.heap.size, 10, none⟩ = some (.func (.func 83) #[] #[.pointer (some ⟨b2, 0, none⟩)]) := cell_of_heap h3 rfl
  clear h3 ho3
  go_wp2_with (go_at_call 83; refine (plain1d_c _ _ _ _ _ OA3.out.c2 ha ⟨by omega, hb.2⟩).mono ?_; rintro e w4 ⟨rfl, hb4⟩; have N4 := Lib.hid hb4; clear hb4)
  go_ret3
  exact ⟨rfl, N1.out.trans ((N3.out.trans (N4.out.mono N3.out.size)).mono N1.out.size)⟩
set_option maxRecDepth 100000 in
set_option maxHeartbeats 1000000 in
theorem alu_14 (a b k : Int) (w : World) (ha : 0 ≤ a ∧ a < 4294967296) (hb : 0 ≤ b ∧ b < 4294967296) (hz : b ≠ 0) :
    Calls Try.prog 10 #[.int .i64 14, .int .u32 a, .int .u32 b, .int .i64 k] w (AluPost (aluT 14 a b k) w) := by
  have hm := and1_i64 k
  have e0 : (b == 0) = false := by simp [hz]
  rw [show aluT 14 a b k = (a % b, 0, true) from by unfold aluT; simp [hz]]
  go_enter Try.func10, Try.ntmps10
  go_wp2_with (go_at_call 34; refine (operations_c _).mono ?_; rintro e w1 ⟨b0, b1, b2, b3, b4, rfl, hb1, hoa⟩; have N1 := Lib.hid hb1; have OA := Lib.hid hoa; clear hb1 hoa)
  have hbx := heap_alloc_at w1 (.cells #[.nilFunc, .nilFunc, .nilFunc, .nilFunc, .nilFunc, .nilFunc, .nilFunc, .nilFunc, .nilFunc, .nilFunc, .nilFunc, .nilFunc, .nilFunc, .nilFunc] 80) _ rfl
  have N2 := Lib.hid ((New.refl w1).alloc (Nat.le_refl _) (.cells #[.nilFunc, .nilFunc, .nilFunc, .nilFunc, .nilFunc, .nilFunc, .nilFunc, .nilFunc, .nilFunc, .nilFunc, .nilFunc, .nilFunc, .nilFunc, .nilFunc] 80))
  have OA2 := Lib.hid (OA.out.new N2.out)
  generalize w1.alloc (.cells #[.nilFunc, .nilFunc, .nilFunc, .nilFunc, .nilFunc, .nilFunc, .nilFunc, .nilFunc, .nilFunc, .nilFunc, .nilFunc, .nilFunc, .nilFunc, .nilFunc] 80) = w2 at *
  obtain ⟨w3, hst, h3, ho3⟩ := store_all (P := Try.prog) 80 w1.heap.size _ (opsV b0 b1 b2 b3 b4) _ w2 hbx rfl (size14.trans rfl) (by unfold opsV; simp [Value.oneCell'])
  rw [hst]
  clear hst hbx
  have N3 := Lib.hid (new_only N2.out ho3 (Nat.le_refl _))
  have OA3 := Lib.hid (OA.out.new N3.out)
  have hc : w3.cell? ⟨w1.heap.size, 11, none⟩ = some (.func (.func 83) #[] #[.pointer (some ⟨b3, 0, none⟩)]) := cell_of_heap h3 rfl
  clear h3 ho3
  go_wp2_with (go_at_call 83; refine (plain1r_c _ _ _ _ _ OA3.out.c3 ha ⟨by omega, hb.2⟩).mono ?_; rintro e w4 ⟨rfl, hb4⟩; have N4 := Lib.hid hb4; clear hb4)
  go_ret3
  exact ⟨rfl, N1.out.trans ((N3.out.trans (N4.out.mono N3.out.size)).mono N1.out.size)⟩
set_option maxRecDepth 100000 in
set_option maxHeartbeats 1000000 in
theorem alu_15 (a b k : Int) (w : World) (ha : 0 ≤ a ∧ a < 4294967296) (hb : 0 ≤ b ∧ b < 4294967296) (hz : b ≠ 0) :
    Calls Try.prog 10 #[.int .i64 15, .int .u32 a, .int .u32 b, .int .i64 k] w (AluPost (aluT 15 a b k) w) := by
  have hm := and1_i64 k
  have e0 : (b == 0) = false := by simp [hz]
  rw [show aluT 15 a b k = (divS a b, 0, true) from by unfold aluT; simp [hz]]
  go_enter Try.func10, Try.ntmps10
  go_wp2_with (go_at_call 34; refine (operations_c _).mono ?_; rintro e w1 ⟨b0, b1, b2, b3, b4, rfl, hb1, hoa⟩; have N1 := Lib.hid hb1; have OA := Lib.hid hoa; clear hb1 hoa)
  have hbx := heap_alloc_at w1 (.cells #[.nilFunc, .nilFunc, .nilFunc, .nilFunc, .nilFunc, .nilFunc, .nilFunc, .nilFunc, .nilFunc, .nilFunc, .nilFunc, .nilFunc, .nilFunc, .nilFunc] 80) _ rfl
  have N2 := Lib.hid ((New.refl w1).alloc (Nat.le_refl _) (.cells #[.nilFunc, .nilFunc, .nilFunc, .nilFunc, .nilFunc, .nilFunc, .nilFunc, .nilFunc, .nilFunc, .nilFunc, .nilFunc, .nilFunc, .nilFunc, .nilFunc] 80))
  have OA2 := Lib.hid (OA.out.new N2.out)
  generalize w1.alloc (.cells #[.nilFunc, .nilFunc, .nilFunc, .nilFunc, .nilFunc, .nilFunc, .nilFunc, .nilFunc, .nilFunc, .nilFunc, .nilFunc, .nilFunc, .nilFunc, .nilFunc] 80) = w2 at *
  obtain ⟨w3, hst, h3, ho3⟩ := store_all (P := Try.prog) 80 w1.heap.size _ (opsV b0 b1 b2 b3 b4) _ w2 hbx rfl (size14.trans rfl) (by unfold opsV; simp [Value.oneCell'])
  rw [hst]
  clear hst hbx
  have N3 := Lib.hid (new_only N2.out ho3 (Nat.le_refl _))
  have OA3 := Lib.hid (OA.out.new N3.out)
  have hc : w3.cell? ⟨w1.heap.size, 12, none⟩ = some (.func (.func 83) #[] #[.pointer (some ⟨b4, 0, none⟩)]) := cell_of_heap h3 rfl
  clear h3 ho3
  go_wp2_with (go_at_call 83; refine (plain1q_c _ _ _ _ _ OA3.out.c4 ha ⟨by omega, hb.2⟩).mono ?_; rintro e w4 ⟨rfl, hb4⟩; have N4 := Lib.hid hb4; clear hb4)
  go_ret3
  exact ⟨rfl, N1.out.trans ((N3.out.trans (N4.out.mono N3.out.size)).mono N1.out.size)⟩
set_option maxRecDepth 100000 in
set_option maxHeartbeats 1000000 in
theorem alu_16 (a b k : Int) (w : World) (ha : 0 ≤ a ∧ a < 4294967296) (hb : 0 ≤ b ∧ b < 4294967296) (z : Bool) (e0 : (b == 0) = z) :
    Calls Try.prog 10 #[.int .i64 16, .int .u32 a, .int .u32 b, .int .i64 k] w (AluPost (aluT 16 a b k) w) := by
  have hm := and1_i64 k
  cases z
  all_goals
    go_enter Try.func10, Try.ntmps10
    go_wp2_with (go_at_call 34; refine (operations_c _).mono ?_; rintro e w1 ⟨b0, b1, b2, b3, b4, rfl, hb1, hoa⟩; have N1 := Lib.hid hb1; have OA := Lib.hid hoa; clear hb1 hoa)
    have hbx := heap_alloc_at w1 (.cells #[.nilFunc, .nilFunc, .nilFunc, .nilFunc, .nilFunc, .nilFunc, .nilFunc, .nilFunc, .nilFunc, .nilFunc, .nilFunc, .nilFunc, .nilFunc, .nilFunc] 80) _ rfl
    have N2 := Lib.hid ((New.refl w1).alloc (Nat.le_refl _) (.cells #[.nilFunc, .nilFunc, .nilFunc, .nilFunc, .nilFunc, .nilFunc, .nilFunc, .nilFunc, .nilFunc, .nilFunc, .nilFunc, .nilFunc, .nilFunc, .nilFunc] 80))
    have OA2 := Lib.hid (OA.out.new N2.out)
    generalize w1.alloc (.cells #[.nilFunc, .nilFunc, .nilFunc, .nilFunc, .nilFunc, .nilFunc, .nilFunc, .nilFunc, .nilFunc, .nilFunc, .nilFunc, .nilFunc, .nilFunc, .nilFunc] 80) = w2 at *
    obtain ⟨w3, hst, h3, ho3⟩ := store_all (P := Try.prog) 80 w1.heap.size _ (opsV b0 b1 b2 b3 b4) _ w2 hbx rfl (size14.trans rfl) (by unfold opsV; simp [Value.oneCell'])
    rw [hst]
    clear hst hbx
    have N3 := Lib.hid (new_only N2.out ho3 (Nat.le_refl _))
    have OA3 := Lib.hid (OA.out.new N3.out)
    have hc : w3.cell? ⟨w1.heap.size, 13, none⟩ = some (.func (.func 53) #[] #[]) := cell_of_heap h3 rfl
    clear h3 ho3
    go_wp2_with (go_at_call 53; refine (csum_c _ _ _ _ ha.1 ha.2 hb.1 hb.2 (by omega) (by omega)).mono ?_; rintro e w4 ⟨rfl, hb4⟩; have N4 := Lib.hid hb4; clear hb4)
    go_ret3
    exact ⟨rfl, N1.out.trans ((N3.out.trans (N4.out.mono N3.out.size)).mono N1.out.size)⟩
set_option maxRecDepth 100000 in
set_option maxHeartbeats 1000000 in
theorem alu_17 (a b k : Int) (w : World) (ha : 0 ≤ a ∧ a < 4294967296) (hb : 0 ≤ b ∧ b < 4294967296) (z : Bool) (e0 : (b == 0) = z) :
    Calls Try.prog 10 #[.int .i64 17, .int .u32 a, .int .u32 b, .int .i64 k] w (AluPost (aluT 17 a b k) w) := by
  have hm := and1_i64 k
  cases z
  all_goals
    go_enter Try.func10, Try.ntmps10
    go_wp2_with (go_at_call 33; refine (cdif_c _ _ _ _ ha.1 ha.2 hb.1 hb.2 (by omega) (by omega)).mono ?_; rintro e w1 ⟨rfl, hb1⟩; have N1 := Lib.hid hb1; clear hb1)
    go_ret3
    exact ⟨rfl, N1.out⟩
set_option maxRecDepth 100000 in
set_option maxHeartbeats 1000000 in
theorem alu_div0 (op a k : Int) (w : World) (h : op = 13 ∨ op = 14 ∨ op = 15) :
    Calls Try.prog 10 #[.int .i64 op, .int .u32 a, .int .u32 0, .int .i64 k] w (AluPost (aluT op a 0 k) w) := by
  have hm := and1_i64 k
  rcases h with rfl | rfl | rfl
  all_goals
    go_enter Try.func10, Try.ntmps10
    go_wp2
    go_ret3
    exact ⟨rfl, New.refl _⟩
set_option maxRecDepth 100000 in
set_option maxHeartbeats 1000000 in
theorem alu_out (op a b k : Int) (w : World) (z : Bool) (e0 : (b == 0) = z) (h : op < 3 ∨ 17 < op) :
    Calls Try.prog 10 #[.int .i64 op, .int .u32 a, .int .u32 b, .int .i64 k] w (AluPost (aluT op a b k) w) := by
  have hm := and1_i64 k
  have ht : aluT op a b k = (0, 0, false) := by
    unfold aluT
    repeat rw [if_neg (by omega)]
    split
    · rfl
    · repeat rw [if_neg (by omega)]
  rw [ht]
  clear ht
  rcases h with h | h
  · cases z
    all_goals
      go_enter Try.func10, Try.ntmps10
      go_wp2
      go_ret3
      exact ⟨rfl, New.refl _⟩
  · have h' : ¬ op < 3 := by omega
    cases z
    all_goals
      go_enter Try.func10, Try.ntmps10
      go_wp2
      go_ret3
      exact ⟨rfl, New.refl _⟩
theorem alu_c (op a b k : Int) (w : World) (ha : 0 ≤ a ∧ a < 4294967296) (hb : 0 ≤ b ∧ b < 4294967296) :
    Calls Try.prog 10 #[.int .i64 op, .int .u32 a, .int .u32 b, .int .i64 k] w (AluPost (aluT op a b k) w) := by
  by_cases ho : op < 3 ∨ 17 < op
  · exact alu_out op a b k w _ rfl ho
  · have hc : op = 3 ∨ op = 4 ∨ op = 5 ∨ op = 6 ∨ op = 7 ∨ op = 8 ∨ op = 9 ∨ op = 10 ∨ op = 11 ∨ op = 12 ∨ op = 13 ∨ op = 14 ∨ op = 15 ∨ op = 16 ∨ op = 17 := by omega
    by_cases hz : b = 0
    · rcases hc with rfl | rfl | rfl | rfl | rfl | rfl | rfl | rfl | rfl | rfl | rfl | rfl | rfl | rfl | rfl
      · exact alu_3 a b k w ha hb _ rfl
      · exact alu_4 a b k w ha hb _ rfl
      · exact alu_5 a b k w ha hb _ rfl
      · exact alu_6 a b k w ha hb _ rfl
      · exact alu_7 a b k w ha hb _ rfl
      · exact alu_8 a b k w ha hb _ rfl
      · exact alu_9 a b k w ha hb _ rfl
      · exact alu_10 a b k w ha hb _ rfl
      · exact alu_11 a b k w ha hb _ rfl
      · exact alu_12 a b k w ha hb _ rfl
      · rw [hz]; exact alu_div0 13 a k w (by omega)
      · rw [hz]; exact alu_div0 14 a k w (by omega)
      · rw [hz]; exact alu_div0 15 a k w (by omega)
      · exact alu_16 a b k w ha hb _ rfl
      · exact alu_17 a b k w ha hb _ rfl
    · rcases hc with rfl | rfl | rfl | rfl | rfl | rfl | rfl | rfl | rfl | rfl | rfl | rfl | rfl | rfl | rfl
      · exact alu_3 a b k w ha hb _ rfl
      · exact alu_4 a b k w ha hb _ rfl
      · exact alu_5 a b k w ha hb _ rfl
      · exact alu_6 a b k w ha hb _ rfl
      · exact alu_7 a b k w ha hb _ rfl
      · exact alu_8 a b k w ha hb _ rfl
      · exact alu_9 a b k w ha hb _ rfl
      · exact alu_10 a b k w ha hb _ rfl
      · exact alu_11 a b k w ha hb _ rfl
      · exact alu_12 a b k w ha hb _ rfl
      · exact alu_13 a b k w ha hb hz
      · exact alu_14 a b k w ha hb hz
      · exact alu_15 a b k w ha hb hz
      · exact alu_16 a b k w ha hb _ rfl
      · exact alu_17 a b k w ha hb _ rfl
end Go.Proofs.Ytpooghnemlnopaa
