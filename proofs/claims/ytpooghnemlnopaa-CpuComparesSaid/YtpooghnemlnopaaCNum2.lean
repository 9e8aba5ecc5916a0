/- Contracts of cpu's operations and Alu. -/
import Derived.Test.YtpooghnemlnopaaCNum1
import Derived.Test.YtpooghnemlnopaaKitRow2
namespace Go.Proofs.Ytpooghnemlnopaa
open Go Go.RowKit Go.Cd
set_option linter.unusedVariables false

theorem op1_c (a b c : Int) (w : World) (ha : 0 ≤ a ∧ a < 4294967296) (hb : 0 ≤ b ∧ b < 4294967296) :
    Calls Try.prog 52 #[.int .u32 a, .int .u32 b, .int .u32 c] w fun e w' => e = .returned (.tuple #[.int .u32 (sumR a b 0), .int .i64 (sumFl a b 0)]) ∧ New w w' := by
  go_enter Try.func52, Try.ntmps52
  go_wp2_with (go_at_call 53; refine (csum_c _ _ _ _ ha.1 ha.2 hb.1 hb.2 (by omega) (by omega)).mono ?_; rintro e w1 ⟨rfl, hb1⟩)
  go_ret2
  exact ⟨rfl, hb1⟩
theorem op2_c (a b c : Int) (w : World) (ha : 0 ≤ a ∧ a < 4294967296) (hb : 0 ≤ b ∧ b < 4294967296) :
    Calls Try.prog 54 #[.int .u32 a, .int .u32 b, .int .u32 c] w fun e w' => e = .returned (.tuple #[.int .u32 (difR a b 0), .int .i64 (difFl a b 0)]) ∧ New w w' := by
  go_enter Try.func54, Try.ntmps54
  go_wp2_with (go_at_call 33; refine (cdif_c _ _ _ _ ha.1 ha.2 hb.1 hb.2 (by omega) (by omega)).mono ?_; rintro e w1 ⟨rfl, hb1⟩)
  go_ret2
  exact ⟨rfl, hb1⟩
theorem op3_c (a b c : Int) (w : World) :
    Calls Try.prog 55 #[.int .u32 a, .int .u32 b, .int .u32 c] w fun e w' => e = .returned (.tuple #[.int .u32 (bits .and .u32 a b), .int .i64 (logFl (bits .and .u32 a b))]) ∧ New w w' := by
  go_enter Try.func55, Try.ntmps55
  go_wp2_with (go_at_call 56; refine (clogic_c _ _ (bits_nonneg _ _ _) (bits_lt _ _ _)).mono ?_; rintro e w1 ⟨rfl, hb1⟩)
  go_ret2
  exact ⟨rfl, hb1⟩
theorem op4_c (a b c : Int) (w : World) :
    Calls Try.prog 57 #[.int .u32 a, .int .u32 b, .int .u32 c] w fun e w' => e = .returned (.tuple #[.int .u32 (bits .or .u32 a b), .int .i64 (logFl (bits .or .u32 a b))]) ∧ New w w' := by
  go_enter Try.func57, Try.ntmps57
  go_wp2_with (go_at_call 56; refine (clogic_c _ _ (bits_nonneg _ _ _) (bits_lt _ _ _)).mono ?_; rintro e w1 ⟨rfl, hb1⟩)
  go_ret2
  exact ⟨rfl, hb1⟩
theorem op5_c (a b c : Int) (w : World) :
    Calls Try.prog 58 #[.int .u32 a, .int .u32 b, .int .u32 c] w fun e w' => e = .returned (.tuple #[.int .u32 (bits .xor .u32 a b), .int .i64 (logFl (bits .xor .u32 a b))]) ∧ New w w' := by
  go_enter Try.func58, Try.ntmps58
  go_wp2_with (go_at_call 56; refine (clogic_c _ _ (bits_nonneg _ _ _) (bits_lt _ _ _)).mono ?_; rintro e w1 ⟨rfl, hb1⟩)
  go_ret2
  exact ⟨rfl, hb1⟩
theorem shlR_bd (a n : Int) : 0 ≤ shlR a n ∧ shlR a n < 4294967296 := by unfold shlR; omega
theorem sarR_bd (a n : Int) : 0 ≤ sarR a n ∧ sarR a n < 4294967296 := by unfold sarR; omega
theorem shrR_bd (a n : Int) (ha : 0 ≤ a ∧ a < 4294967296) : 0 ≤ shrR a n ∧ shrR a n < 4294967296 := ⟨Int.ediv_nonneg ha.1 (Int.le_of_lt (pow_pos' _)), Int.lt_of_le_of_lt (Int.ediv_le_self _ ha.1) ha.2⟩
theorem op6_c (a b c : Int) (w : World) (ha : 0 ≤ a ∧ a < 4294967296) (hb : 0 ≤ b ∧ b < 4294967296) :
    Calls Try.prog 59 #[.int .u32 a, .int .u32 b, .int .u32 c] w fun e w' => e = .returned (.tuple #[.int .u32 (shlR a (b % 32)), .int .i64 (shFl (shlR a (b % 32)) a (b % 32) true)]) ∧ New w w' := by
  have hs := shlR_bd a (b % 32)
  have h0 : 0 ≤ b := hb.1
  go_enter Try.func59, Try.ntmps59
  go_wp2_with (go_at_call 60; refine (cshifted_c _ _ _ _ _ hs.1 hs.2 ha.1 ha.2 (by omega) (by omega)).mono ?_; rintro e w1 ⟨rfl, hb1⟩)
  go_ret2
  exact ⟨rfl, hb1⟩
theorem op7_c (a b c : Int) (w : World) (ha : 0 ≤ a ∧ a < 4294967296) (hb : 0 ≤ b ∧ b < 4294967296) :
    Calls Try.prog 61 #[.int .u32 a, .int .u32 b, .int .u32 c] w fun e w' => e = .returned (.tuple #[.int .u32 (shrR a (b % 32)), .int .i64 (shFl (shrR a (b % 32)) a (b % 32) false)]) ∧ New w w' := by
  have hs := shrR_bd a (b % 32) ha
  have h0 : 0 ≤ b := hb.1
  have h1 : 0 ≤ a := ha.1
  go_enter Try.func61, Try.ntmps61
  go_wp2_with (go_at_call 60; refine (cshifted_c _ _ _ _ _ hs.1 hs.2 ha.1 ha.2 (by omega) (by omega)).mono ?_; rintro e w1 ⟨rfl, hb1⟩)
  go_ret2
  exact ⟨rfl, hb1⟩
theorem op8_c (a b c : Int) (w : World) (ha : 0 ≤ a ∧ a < 4294967296) (hb : 0 ≤ b ∧ b < 4294967296) :
    Calls Try.prog 62 #[.int .u32 a, .int .u32 b, .int .u32 c] w fun e w' => e = .returned (.tuple #[.int .u32 (sarR a (b % 32)), .int .i64 (shFl (sarR a (b % 32)) a (b % 32) false)]) ∧ New w w' := by
  have hs := sarR_bd a (b % 32)
  have h0 : 0 ≤ b := hb.1
  go_enter Try.func62, Try.ntmps62
  go_wp2_with (go_at_call 60; refine (cshifted_c _ _ _ _ _ hs.1 hs.2 ha.1 ha.2 (by omega) (by omega)).mono ?_; rintro e w1 ⟨rfl, hb1⟩)
  go_ret2
  exact ⟨rfl, hb1⟩
theorem op9_c (a b : Int) (w : World) : Calls Try.prog 64 #[.int .u32 a, .int .u32 b] w fun e w' => e = .returned (.int .u32 (a * b % 4294967296)) ∧ New w w' := by
  go_enter Try.func64, Try.ntmps64
  go_wp2
  go_ret
  exact ⟨rfl, New.refl _⟩
theorem op10_c (a b : Int) (w : World) (ha : 0 ≤ a ∧ a < 4294967296) (hb : 0 ≤ b ∧ b < 4294967296) : Calls Try.prog 65 #[.int .u32 a, .int .u32 b] w fun e w' => e = .returned (.int .u32 (a * b / 4294967296)) ∧ New w w' := by
  go_enter Try.func65, Try.ntmps65
  go_wp2
  go_ret
  refine ⟨ret_int ?_, New.refl _⟩
  have h1 : 0 ≤ a * b := Int.mul_nonneg ha.1 hb.1
  have h2 : a * b ≤ 4294967295 * 4294967295 := Int.mul_le_mul (by omega) (by omega) hb.1 (by omega)
  rw [IntWalk.u64_in _ (by omega)]
  omega
theorem op11_c (a b : Int) (w : World) (ha : 0 ≤ a ∧ a < 4294967296) (hb : 0 < b ∧ b < 4294967296) : Calls Try.prog 66 #[.int .u32 a, .int .u32 b] w fun e w' => e = .returned (.int .u32 (a / b)) ∧ New w w' := by
  have h1 : ¬ b = 0 := by omega
  go_enter Try.func66, Try.ntmps66
  go_wp2
  go_ret
  exact ⟨rfl, New.refl _⟩
theorem op12_c (a b : Int) (w : World) (ha : 0 ≤ a ∧ a < 4294967296) (hb : 0 < b ∧ b < 4294967296) : Calls Try.prog 67 #[.int .u32 a, .int .u32 b] w fun e w' => e = .returned (.int .u32 (a % b)) ∧ New w w' := by
  have h1 : ¬ b = 0 := by omega
  go_enter Try.func67, Try.ntmps67
  go_wp2
  go_ret
  exact ⟨rfl, New.refl _⟩
theorem plain1m_c (a b c : Int) (p : Addr) (w : World) (h : w.cell? p = some (.func (.func 64) #[] #[])) :
    Calls Try.prog 83 #[.int .u32 a, .int .u32 b, .int .u32 c, .pointer (some p)] w fun e w' => e = .returned (.tuple #[.int .u32 (a * b % 4294967296), .int .i64 0]) ∧ New w w' := by
  go_enter Try.func83, Try.ntmps83
  go_wp2_with (go_at_call 64; refine (op9_c _ _ _).mono ?_; rintro e w1 ⟨rfl, hb1⟩)
  go_ret2
  exact ⟨rfl, hb1⟩
theorem plain1mh_c (a b c : Int) (p : Addr) (w : World) (h : w.cell? p = some (.func (.func 65) #[] #[])) (ha : 0 ≤ a ∧ a < 4294967296) (hb : 0 ≤ b ∧ b < 4294967296) :
    Calls Try.prog 83 #[.int .u32 a, .int .u32 b, .int .u32 c, .pointer (some p)] w fun e w' => e = .returned (.tuple #[.int .u32 (a * b / 4294967296), .int .i64 0]) ∧ New w w' := by
  go_enter Try.func83, Try.ntmps83
  go_wp2_with (go_at_call 65; refine (op10_c _ _ _ ha hb).mono ?_; rintro e w1 ⟨rfl, hb1⟩)
  go_ret2
  exact ⟨rfl, hb1⟩
theorem plain1d_c (a b c : Int) (p : Addr) (w : World) (h : w.cell? p = some (.func (.func 66) #[] #[])) (ha : 0 ≤ a ∧ a < 4294967296) (hb : 0 < b ∧ b < 4294967296) :
    Calls Try.prog 83 #[.int .u32 a, .int .u32 b, .int .u32 c, .pointer (some p)] w fun e w' => e = .returned (.tuple #[.int .u32 (a / b), .int .i64 0]) ∧ New w w' := by
  go_enter Try.func83, Try.ntmps83
  go_wp2_with (go_at_call 66; refine (op11_c _ _ _ ha hb).mono ?_; rintro e w1 ⟨rfl, hb1⟩)
  go_ret2
  exact ⟨rfl, hb1⟩
theorem plain1r_c (a b c : Int) (p : Addr) (w : World) (h : w.cell? p = some (.func (.func 67) #[] #[])) (ha : 0 ≤ a ∧ a < 4294967296) (hb : 0 < b ∧ b < 4294967296) :
    Calls Try.prog 83 #[.int .u32 a, .int .u32 b, .int .u32 c, .pointer (some p)] w fun e w' => e = .returned (.tuple #[.int .u32 (a % b), .int .i64 0]) ∧ New w w' := by
  go_enter Try.func83, Try.ntmps83
  go_wp2_with (go_at_call 67; refine (op12_c _ _ _ ha hb).mono ?_; rintro e w1 ⟨rfl, hb1⟩)
  go_ret2
  exact ⟨rfl, hb1⟩
theorem plain1q_c (a b c : Int) (p : Addr) (w : World) (h : w.cell? p = some (.func (.func 68) #[] #[])) (ha : 0 ≤ a ∧ a < 4294967296) (hb : 0 < b ∧ b < 4294967296) :
    Calls Try.prog 83 #[.int .u32 a, .int .u32 b, .int .u32 c, .pointer (some p)] w fun e w' => e = .returned (.tuple #[.int .u32 (divS a b), .int .i64 0]) ∧ New w w' := by
  go_enter Try.func83, Try.ntmps83
  go_wp2_with (go_at_call 68; refine (cquot_c _ _ _ ha.1 ha.2 hb.1 hb.2).mono ?_; rintro e w1 ⟨rfl, hb1⟩)
  go_ret2
  exact ⟨rfl, hb1⟩
theorem plain_c (k : FuncId) (w : World) :
    Calls Try.prog 63 #[.func (.func k) #[] #[]] w fun e w' => e = .returned (.agg #[.func (.func 83) #[] #[.pointer (some ⟨w.heap.size, 0, none⟩)]]) ∧ New w w' ∧ w'.cell? ⟨w.heap.size, 0, none⟩ = some (.func (.func k) #[] #[]) ∧ w.heap.size < w'.heap.size := by
  have hmf : ∀ (fn : Fn) (first cap : Array Value) (w : World), (Instr.makeFunc fn first cap).run Try.prog w = .ok (.func fn first cap) w := fun _ _ _ _ => rfl
  go_enter Try.func63, Try.ntmps63
  go_wp2
  go_returns
  refine ⟨rfl, by go_grown, ?_, by simp; omega⟩
  simp
/-- The table of operations. -/
def opsV (b0 b1 b2 b3 b4 : Nat) : Array Value := #[.func (.func 52) #[] #[], .func (.func 54) #[] #[], .func (.func 55) #[] #[], .func (.func 57) #[] #[], .func (.func 58) #[] #[], .func (.func 59) #[] #[], .func (.func 61) #[] #[], .func (.func 62) #[] #[], .func (.func 83) #[] #[.pointer (some ⟨b0, 0, none⟩)], .func (.func 83) #[] #[.pointer (some ⟨b1, 0, none⟩)], .func (.func 83) #[] #[.pointer (some ⟨b2, 0, none⟩)], .func (.func 83) #[] #[.pointer (some ⟨b3, 0, none⟩)], .func (.func 83) #[] #[.pointer (some ⟨b4, 0, none⟩)], .func (.func 53) #[] #[]]
structure OpsAt (w : World) (b0 b1 b2 b3 b4 : Nat) : Prop where
  c0 : w.cell? ⟨b0, 0, none⟩ = some (.func (.func 64) #[] #[])
  l0 : b0 < w.heap.size
  c1 : w.cell? ⟨b1, 0, none⟩ = some (.func (.func 65) #[] #[])
  l1 : b1 < w.heap.size
  c2 : w.cell? ⟨b2, 0, none⟩ = some (.func (.func 66) #[] #[])
  l2 : b2 < w.heap.size
  c3 : w.cell? ⟨b3, 0, none⟩ = some (.func (.func 67) #[] #[])
  l3 : b3 < w.heap.size
  c4 : w.cell? ⟨b4, 0, none⟩ = some (.func (.func 68) #[] #[])
  l4 : b4 < w.heap.size
theorem OpsAt.new {w w' : World} {b0 b1 b2 b3 b4 : Nat} (h : OpsAt w b0 b1 b2 b3 b4) (hn : New w w') : OpsAt w' b0 b1 b2 b3 b4 :=
  ⟨(hn.cell (p := ⟨b0, 0, none⟩) h.l0).trans h.c0, Nat.lt_of_lt_of_le h.l0 hn.size, (hn.cell (p := ⟨b1, 0, none⟩) h.l1).trans h.c1, Nat.lt_of_lt_of_le h.l1 hn.size, (hn.cell (p := ⟨b2, 0, none⟩) h.l2).trans h.c2, Nat.lt_of_lt_of_le h.l2 hn.size, (hn.cell (p := ⟨b3, 0, none⟩) h.l3).trans h.c3, Nat.lt_of_lt_of_le h.l3 hn.size, (hn.cell (p := ⟨b4, 0, none⟩) h.l4).trans h.c4, Nat.lt_of_lt_of_le h.l4 hn.size⟩
theorem size14 : (Try.prog.info? 80).map (·.size) = some 14 := by kernel_rfl
theorem ex80 (a : Act) (dst : Option Tmp) (x y : Operand) (ty : TypeId) (pos : String) (after : Array Edge) (guard : Option (Nat × Bool)) :
    execOp a.eval { dst, op := .store 80 x y, type := ty, pos, after, guard } = storeRow 80 (a.eval x) (a.eval y) := rfl
attribute [local go_sem ↓] ex80 Go.wp_at_zero Go.wp_at_succ
set_option maxRecDepth 100000 in
set_option maxHeartbeats 1000000 in
theorem operations_c (w : World) : Calls Try.prog 34 #[] w fun e w' => ∃ b0 b1 b2 b3 b4, e = .returned (.agg (opsV b0 b1 b2 b3 b4)) ∧ New w w' ∧ OpsAt w' b0 b1 b2 b3 b4 := by
  have c1 : ∀ k w, Calls Try.prog 63 #[.func (.func k) #[] #[]] w _ := fun k w => plain_c k w
  have C1 := Lib.hid c1
  clear c1
  go_enter Try.func34, Try.ntmps34
  go_wp2_with fail
  have hb0 := heap_alloc_at w (.cells #[.nilFunc, .nilFunc, .nilFunc, .nilFunc, .nilFunc, .nilFunc, .nilFunc, .nilFunc, .nilFunc, .nilFunc, .nilFunc, .nilFunc, .nilFunc, .nilFunc] 80) _ rfl
  have hn0 : New w (w.alloc (.cells #[.nilFunc, .nilFunc, .nilFunc, .nilFunc, .nilFunc, .nilFunc, .nilFunc, .nilFunc, .nilFunc, .nilFunc, .nilFunc, .nilFunc, .nilFunc, .nilFunc] 80)) := by go_grown
  have H0 := Lib.hid hb0
  have N0 := Lib.hid hn0
  clear hb0 hn0
  generalize w.alloc (.cells #[.nilFunc, .nilFunc, .nilFunc, .nilFunc, .nilFunc, .nilFunc, .nilFunc, .nilFunc, .nilFunc, .nilFunc, .nilFunc, .nilFunc, .nilFunc, .nilFunc] 80) = w0 at *
  refine (C1.out _ _).mono ?_
  rintro e w1 ⟨rfl, hb, hc, hl⟩
  have H1 := Lib.hid ((hb.block _ (lt_of_heap H0.out)).trans H0.out)
  have N1 := Lib.hid (N0.out.trans (hb.mono N0.out.size))
  have B1 := Lib.hid hb
  have K1 := Lib.hid hc
  have L1 := Lib.hid hl
  clear hb hc hl
  go_wp2_with fail
  refine (C1.out _ _).mono ?_
  rintro e w2 ⟨rfl, hb, hc, hl⟩
  have H2 := Lib.hid ((hb.block _ (lt_of_heap H1.out)).trans H1.out)
  have N2 := Lib.hid (N1.out.trans (hb.mono N1.out.size))
  have B2 := Lib.hid hb
  have K2 := Lib.hid hc
  have L2 := Lib.hid hl
  clear hb hc hl
  go_wp2_with fail
  refine (C1.out _ _).mono ?_
  rintro e w3 ⟨rfl, hb, hc, hl⟩
  have H3 := Lib.hid ((hb.block _ (lt_of_heap H2.out)).trans H2.out)
  have N3 := Lib.hid (N2.out.trans (hb.mono N2.out.size))
  have B3 := Lib.hid hb
  have K3 := Lib.hid hc
  have L3 := Lib.hid hl
  clear hb hc hl
  go_wp2_with fail
  refine (C1.out _ _).mono ?_
  rintro e w4 ⟨rfl, hb, hc, hl⟩
  have H4 := Lib.hid ((hb.block _ (lt_of_heap H3.out)).trans H3.out)
  have N4 := Lib.hid (N3.out.trans (hb.mono N3.out.size))
  have B4 := Lib.hid hb
  have K4 := Lib.hid hc
  have L4 := Lib.hid hl
  clear hb hc hl
  go_wp2_with fail
  refine (C1.out _ _).mono ?_
  rintro e w5 ⟨rfl, hb, hc, hl⟩
  have H5 := Lib.hid ((hb.block _ (lt_of_heap H4.out)).trans H4.out)
  have N5 := Lib.hid (N4.out.trans (hb.mono N4.out.size))
  have B5 := Lib.hid hb
  have K5 := Lib.hid hc
  have L5 := Lib.hid hl
  clear hb hc hl
  go_wp2_with fail
  obtain ⟨w6, hst, h6, ho6⟩ := store_all (P := Try.prog) 80 w.heap.size _ (opsV w0.heap.size w1.heap.size w2.heap.size w3.heap.size w4.heap.size) _ w5 H5.out rfl (size14.trans rfl) (by unfold opsV; simp [Value.oneCell'])
  have H6 := Lib.hid h6
  have O6 := Lib.hid ho6
  unfold opsV at hst
  clear h6 ho6
  rw [hst]
  clear hst
  go_wp2
  refine bodyPost_ret (v := .agg (opsV w0.heap.size w1.heap.size w2.heap.size w3.heap.size w4.heap.size)) ?_ rfl ⟨_, _, _, _, _, rfl, new_only N5.out O6.out (Nat.le_refl _), ?_⟩
  · exact results_row1 Try.results34 _ _ _ _ rfl (load_row _ _ _ _ _ _ H6.out Try.underlying80 rfl (size14.trans rfl))
  · have s0 := N0.out.size
    have z0 := lt_of_heap H0.out
    have z1 := B1.out.size
    have z2 := B2.out.size
    have z3 := B3.out.size
    have z4 := B4.out.size
    have z5 := B5.out.size
    have l1 := L1.out
    have l2 := L2.out
    have l3 := L3.out
    have l4 := L4.out
    have l5 := L5.out
    have k1 := (((B2.out.cell (p := ⟨w0.heap.size, 0, none⟩) (by dsimp only; omega)).trans K1.out))
    have k1 := (B3.out.cell (p := ⟨w0.heap.size, 0, none⟩) (by dsimp only; omega)).trans k1
    have k1 := (B4.out.cell (p := ⟨w0.heap.size, 0, none⟩) (by dsimp only; omega)).trans k1
    have k1 := (B5.out.cell (p := ⟨w0.heap.size, 0, none⟩) (by dsimp only; omega)).trans k1
    have k2 := (B3.out.cell (p := ⟨w1.heap.size, 0, none⟩) (by dsimp only; omega)).trans K2.out
    have k2 := (B4.out.cell (p := ⟨w1.heap.size, 0, none⟩) (by dsimp only; omega)).trans k2
    have k2 := (B5.out.cell (p := ⟨w1.heap.size, 0, none⟩) (by dsimp only; omega)).trans k2
    have k3 := (B4.out.cell (p := ⟨w2.heap.size, 0, none⟩) (by dsimp only; omega)).trans K3.out
    have k3 := (B5.out.cell (p := ⟨w2.heap.size, 0, none⟩) (by dsimp only; omega)).trans k3
    have k4 := (B5.out.cell (p := ⟨w3.heap.size, 0, none⟩) (by dsimp only; omega)).trans K4.out
    have k5 := K5.out
    have s6 := O6.out.size
    exact ⟨(O6.out.cell (by omega)).trans k1, by omega, (O6.out.cell (by omega)).trans k2, by omega, (O6.out.cell (by omega)).trans k3, by omega, (O6.out.cell (by omega)).trans k4, by omega, (O6.out.cell (by omega)).trans k5, by omega⟩
end Go.Proofs.Ytpooghnemlnopaa
