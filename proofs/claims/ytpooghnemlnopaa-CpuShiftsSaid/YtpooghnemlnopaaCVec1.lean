/- Contracts of the bytes of a vector, and Mask. -/
import Derived.Test.YtpooghnemlnopaaCCpu
import Derived.Test.YtpooghnemlnopaaPlainArith
namespace Go.Proofs.Ytpooghnemlnopaa
open Go Go.RowKit Go.Cd
set_option linter.unusedVariables false

abbrev Vc := Nat → Int
def vecA (v : Vc) : Array Value := #[.int .u32 (v 0), .int .u32 (v 1), .int .u32 (v 2), .int .u32 (v 3)]
def vecV (v : Vc) : Value := .agg (vecA v)
def VcOk (v : Vc) : Prop := ∀ k, k < 4 → 0 ≤ v k ∧ v k < 4294967296
theorem vecA_get (v : Vc) (k : Nat) (h : k < 4) : (vecA v)[k]? = some (.int .u32 (v k)) := by
  have : k = 0 ∨ k = 1 ∨ k = 2 ∨ k = 3 := by omega
  rcases this with rfl | rfl | rfl | rfl <;> rfl
/-- Byte i of a vector. -/
def byteF (v : Vc) (i : Nat) : Int := v (i / 4) / 2 ^ (i % 4 * 8) % 256
theorem octet_c (v : Vc) (i : Nat) (w : World) (hv : VcOk v) (hi : i < 16) : Calls Try.prog 37 #[vecV v, .int .i64 i] w fun e w' => e = .returned (.int .u32 (byteF v i)) ∧ New w w' := by
  have hg := vecA_get v (i / 4) (by omega)
  have hb := hv (i / 4) (by omega)
  have h0 := hb.1
  unfold vecV
  go_enter Try.func37, Try.ntmps37
  go_wp2
  go_ret
  refine ⟨ret_int ?_, by go_grown⟩
  unfold byteF
  exact and_255 _ (Int.ediv_nonneg hb.1 (Int.le_of_lt (pow_pos' _))) (Int.lt_of_le_of_lt (Int.ediv_le_self _ hb.1) hb.2)
theorem byteOf_c (v : Vc) (i : Nat) (w : World) (hv : VcOk v) (hi : i < 16) : Calls Try.prog 41 #[vecV v, .int .i64 i] w fun e w' => e = .returned (.int .u8 (byteF v i)) ∧ New w w' := by
  have hg := vecA_get v (i / 4) (by omega)
  have hb := hv (i / 4) (by omega)
  have h0 := hb.1
  unfold vecV
  go_enter Try.func41, Try.ntmps41
  go_wp2
  go_ret
  refine ⟨ret_int ?_, by go_grown⟩
  unfold byteF
  rw [Nat.mul_comm]
theorem byteF_bd (v : Vc) (i : Nat) : 0 ≤ byteF v i ∧ byteF v i < 256 := by unfold byteF; omega
/-- The top bits of the first k bytes. -/
def maskTo (v : Vc) : Nat → Int
  | 0 => 0
  | k + 1 => bits .or .u32 (maskTo v k) (byteF v k / 128 * 2 ^ k % 4294967296)
theorem maskTo_bd (v : Vc) (k : Nat) : 0 ≤ maskTo v k ∧ maskTo v k < 4294967296 := by
  cases k with
  | zero => exact ⟨Int.le_refl _, (by decide : (0 : Int) < 4294967296)⟩
  | succ k => exact ⟨bits_nonneg _ _ _, bits_lt _ _ _⟩
attribute [local go_sem ↓] Go.wp_at_zero Go.wp_at_succ
set_option maxHeartbeats 1000000 in
theorem mask_c (v : Vc) (w : World) (hv : VcOk v) : Calls Try.prog 19 #[vecV v] w fun e w' => e = .returned (.int .u32 (maskTo v 16)) ∧ New w w' := by
  have HV := Lib.hid hv
  clear hv
  unfold vecV
  go_enter Try.func19, Try.ntmps19
  go_wp2_with fail
  go_loopw [3, 5] (fun o i wr => ∃ k : Nat, k ≤ 16 ∧ i = .int .i64 k ∧ o = .int .u32 (maskTo v k) ∧ New w wr ∧ wr.heap[w.heap.size]? = some (.cells (vecA v) 32)) (fun _ i _ => 16 - (intOf i).toNat)
  case atStart => exact ⟨0, Nat.zero_le _, rfl, rfl, by go_grown, heap_alloc_at _ _ _ rfl⟩
  case round =>
    obtain ⟨k, hk, rfl, rfl, hN, hX⟩ := hrel
    have HN := Lib.hid hN
    have HX := Lib.hid hX
    clear hN hX
    by_cases hlt : k < 16
    · have hlw := lt_of_heap HX.out
      have c0 : wr.cell? ⟨w.heap.size, 0, none⟩ = some (.int .u32 (v 0)) := cell_of_heap HX.out rfl
      have c1 : wr.cell? ⟨w.heap.size, 1, none⟩ = some (.int .u32 (v 1)) := cell_of_heap HX.out rfl
      have c2 : wr.cell? ⟨w.heap.size, 2, none⟩ = some (.int .u32 (v 2)) := cell_of_heap HX.out rfl
      have c3 : wr.cell? ⟨w.heap.size, 3, none⟩ = some (.int .u32 (v 3)) := cell_of_heap HX.out rfl
      have hbd := byteF_bd v k
      have hb0 := hbd.1
      have hmd := maskTo_bd v k
      have C1 := Lib.hid (show Calls Try.prog 37 #[.agg #[.int .u32 (v 0), .int .u32 (v 1), .int .u32 (v 2), .int .u32 (v 3)], .int .i64 k] wr _ from octet_c v k wr HV.out hlt)
      go_wp2_with (go_at_call 37; refine C1.out.mono ?_; rintro e w1 ⟨rfl, hb1⟩; have N1 := Lib.hid hb1; clear hb1)
      go_roundw
      case rel =>
        refine ⟨k + 1, by omega, by simp, ?_, HN.out.trans (N1.out.mono HN.out.size), (N1.out.block _ hlw).trans HX.out⟩
        show _ = Value.int .u32 (bits .or .u32 (maskTo v k) (byteF v k / 128 * 2 ^ k % 4294967296))
        first | rfl | simp
      case measure => simp [intOf]; omega
    · obtain rfl : k = 16 := by omega
      go_wp2
      go_ret
      exact ⟨rfl, HN.out⟩
set_option maxHeartbeats 1000000 in
theorem rmask_c (v : Vc) (w : World) (hv : VcOk v) : Calls Try.prog 20 #[vecV v] w fun e w' => e = .returned (.int .u32 (maskTo v 16)) ∧ New w w' := by
  have HV := Lib.hid hv
  clear hv
  unfold vecV
  go_enter Try.func20, Try.ntmps20
  go_wp2_with fail
  go_loopw [3, 4] (fun o i wr => ∃ k : Nat, k ≤ 16 ∧ i = .int .i64 k ∧ o = .int .u32 (maskTo v k) ∧ New w wr ∧ wr.heap[w.heap.size]? = some (.cells (vecA v) 32)) (fun _ i _ => 16 - (intOf i).toNat)
  case atStart => exact ⟨0, Nat.zero_le _, rfl, rfl, by go_grown, heap_alloc_at _ _ _ rfl⟩
  case round =>
    obtain ⟨k, hk, rfl, rfl, hN, hX⟩ := hrel
    have HN := Lib.hid hN
    have HX := Lib.hid hX
    clear hN hX
    by_cases hlt : k < 16
    · have hlw := lt_of_heap HX.out
      have c0 : wr.cell? ⟨w.heap.size, 0, none⟩ = some (.int .u32 (v 0)) := cell_of_heap HX.out rfl
      have c1 : wr.cell? ⟨w.heap.size, 1, none⟩ = some (.int .u32 (v 1)) := cell_of_heap HX.out rfl
      have c2 : wr.cell? ⟨w.heap.size, 2, none⟩ = some (.int .u32 (v 2)) := cell_of_heap HX.out rfl
      have c3 : wr.cell? ⟨w.heap.size, 3, none⟩ = some (.int .u32 (v 3)) := cell_of_heap HX.out rfl
      have hbd := byteF_bd v k
      have hb0 := hbd.1
      have hmd := maskTo_bd v k
      have C1 := Lib.hid (show Calls Try.prog 41 #[.agg #[.int .u32 (v 0), .int .u32 (v 1), .int .u32 (v 2), .int .u32 (v 3)], .int .i64 k] wr _ from byteOf_c v k wr HV.out hlt)
      go_wp2_with (go_at_call 41; refine C1.out.mono ?_; rintro e w1 ⟨rfl, hb1⟩; have N1 := Lib.hid hb1; clear hb1)
      go_roundw
      case rel =>
        refine ⟨k + 1, by omega, by simp, ?_, HN.out.trans (N1.out.mono HN.out.size), (N1.out.block _ hlw).trans HX.out⟩
        show _ = Value.int .u32 (bits .or .u32 (maskTo v k) (byteF v k / 128 * 2 ^ k % 4294967296))
        first | rfl | simp
      case measure => simp [intOf]; omega
    · obtain rfl : k = 16 := by omega
      go_wp2
      go_ret
      exact ⟨rfl, HN.out⟩
end Go.Proofs.Ytpooghnemlnopaa
