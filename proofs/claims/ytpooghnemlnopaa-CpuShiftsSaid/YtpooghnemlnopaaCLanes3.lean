/- The contract of cpu.Lanes. Written by genLanes3.py. -/
import Derived.Test.YtpooghnemlnopaaCLanes2
import Derived.Test.YtpooghnemlnopaaCVec1
import Derived.Test.YtpooghnemlnopaaKitRow2
import Derived.Test.YtpooghnemlnopaaNum2
namespace Go.Proofs.Ytpooghnemlnopaa
open Go Go.RowKit Go.Cd
set_option linter.unusedVariables false

def setV (v : Vc) (k : Nat) (x : Int) : Vc := fun j => if j = k then x else v j
theorem vecA_set (v : Vc) (k : Nat) (h : k < 4) (x : Int) : (vecA v).setIfInBounds k (.int .u32 x) = vecA (setV v k x) := by
  have : k = 0 ∨ k = 1 ∨ k = 2 ∨ k = 3 := by omega
  rcases this with rfl | rfl | rfl | rfl <;> rfl
def zeroV : Vc := fun _ => 0
/-- What a shuffle has made behind k bytes. -/
def shufTo (a b : Vc) : Nat → Vc
  | 0 => zeroV
  | k + 1 => setV (shufTo a b k) (k / 4) (bits .or .u32 (shufTo a b k (k / 4)) (byteF a (byteF b k % 16).toNat * 2 ^ (k % 4 * 8) % 4294967296))
def lanesTo (op d : Int) (a b : Vc) (n : Nat) : Vc := fun k => if k < n then byLanesF op d (a k) (b k) else 0
/-- What Lanes returns. -/
def lanesV (op d : Int) (a b : Vc) : Vc × Bool :=
  if op = 51 ∨ op = 52 ∨ op = 53 then (if d < 0 ∨ 2 < d then (zeroV, false) else (lanesTo op d a b 4, true))
  else if op = 54 then (fun k => bits .and .u32 (a k) (b k), true)
  else if op = 55 then (fun k => bits .or .u32 (a k) (b k), true)
  else if op = 56 then (fun k => bits .xor .u32 (a k) (b k), true)
  else if op = 57 then (shufTo a b 16, true)
  else (zeroV, false)
def LanesPost (t : Vc × Bool) (w : World) (e : Ending) (w' : World) : Prop := e = .returned (.tuple #[vecV t.1, .bool t.2]) ∧ New w w'
theorem laid4 (w : World) (o0 o1 o2 o3 : Obj) : let W := (((w.alloc o0).alloc o1).alloc o2).alloc o3
    W.heap[w.heap.size]? = some o0 ∧ W.heap[w.heap.size + 1]? = some o1 ∧ W.heap[w.heap.size + 1 + 1]? = some o2 ∧ W.heap[w.heap.size + 1 + 1 + 1]? = some o3 ∧ New w W := by
  refine ⟨?_, ?_, ?_, ?_, by go_grown⟩
  · exact heap_keep (heap_keep (heap_keep (heap_alloc_at w o0 _ rfl)))
  · exact heap_keep (heap_keep (heap_alloc_at (w.alloc o0) o1 _ (by simp)))
  · exact heap_keep (heap_alloc_at ((w.alloc o0).alloc o1) o2 _ (by simp))
  · exact heap_alloc_at (((w.alloc o0).alloc o1).alloc o2) o3 _ (by simp)
theorem vec_size : (Try.prog.info? 32).map (·.size) = some 4 := by kernel_rfl
theorem exVs (a : Act) (dst : Option Tmp) (x y : Operand) (ty : TypeId) (pos : String) (after : Array Edge) (guard : Option (Nat × Bool)) :
    execOp a.eval { dst, op := .store 32 x y, type := ty, pos, after, guard } = storeRow 32 (a.eval x) (a.eval y) := rfl
theorem exVl (a : Act) (dst : Option Tmp) (x : Operand) (ty : TypeId) (pos : String) (after : Array Edge) (guard : Option (Nat × Bool)) :
    execOp a.eval { dst, op := .load 32 x, type := ty, pos, after, guard } = loadRow 32 (a.eval x) := rfl
attribute [local go_sem ↓] exVs exVl Go.wp_at_zero Go.wp_at_succ
set_option maxRecDepth 100000 in
set_option maxHeartbeats 1000000 in
theorem lanes_54 (d : Int) (a b : Vc) (w : World) : Calls Try.prog 12 #[.int .i64 54, .int .i64 d, vecV a, vecV b] w (LanesPost (lanesV 54 d a b) w) := by
  unfold vecV
  go_enter Try.func12, Try.ntmps12
  go_upto_region 4 with (fail)
  obtain ⟨x0, x1, x2, x3, hN⟩ := laid4 w (.cells (vecA a) 32) (.cells (vecA b) 32) (.cells #[.int .u32 0, .int .u32 0, .int .u32 0, .int .u32 0] 32) (.cells #[.int .u32 0, .int .u32 0, .int .u32 0, .int .u32 0] 32)
  generalize (((w.alloc (.cells (vecA a) 32)).alloc (.cells (vecA b) 32)).alloc (.cells #[.int .u32 0, .int .u32 0, .int .u32 0, .int .u32 0] 32)).alloc (.cells #[.int .u32 0, .int .u32 0, .int .u32 0, .int .u32 0] 32) = W at *
  have X2 := Lib.hid x2
  have X3 := Lib.hid x3
  have HN := Lib.hid hN
  have a0 := cell_of_heap x0 (vecA_get a 0 (by decide))
  have a1 := cell_of_heap x0 (vecA_get a 1 (by decide))
  have a2 := cell_of_heap x0 (vecA_get a 2 (by decide))
  have a3 := cell_of_heap x0 (vecA_get a 3 (by decide))
  have b0 := cell_of_heap x1 (vecA_get b 0 (by decide))
  have b1 := cell_of_heap x1 (vecA_get b 1 (by decide))
  have b2 := cell_of_heap x1 (vecA_get b 2 (by decide))
  have b3 := cell_of_heap x1 (vecA_get b 3 (by decide))
  clear x0 x1 x2 x3 hN
  go_wp2_with fail
  obtain ⟨w1, hst, h1, ho1⟩ := store_all (P := Try.prog) 32 (w.heap.size + 1 + 1 + 1) _ (vecA (fun k => bits .and .u32 (a k) (b k))) _ W X3.out rfl (vec_size.trans rfl) (by simp [vecA, Value.oneCell'])
  unfold vecA at hst
  rw [hst]
  clear hst
  have N1 := Lib.hid (new_only HN.out ho1 (by omega))
  have Y2 := Lib.hid ((ho1.block (w.heap.size + 1 + 1) (by omega)).trans X2.out)
  have Y3 := Lib.hid h1
  clear h1 ho1 a0 a1 a2 a3 b0 b1 b2 b3 X2 X3
  go_wp2_with fail
  rw [load_all (P := Try.prog) 32 (w.heap.size + 1 + 1 + 1) (vecA (fun k => bits .and .u32 (a k) (b k))) 32 _ w1 Y3.out Try.underlying32 rfl (vec_size.trans rfl)]
  go_wp2_with fail
  obtain ⟨w8, hst, h8, ho8⟩ := store_all (P := Try.prog) 32 (w.heap.size + 1 + 1) _ (vecA (fun k => bits .and .u32 (a k) (b k))) _ w1 Y2.out rfl (vec_size.trans rfl) (by simp [vecA, Value.oneCell'])
  rw [hst]
  clear hst
  have N8 := Lib.hid (new_only N1.out ho8 (by omega))
  have X8 := Lib.hid h8
  clear h8 ho8
  go_wp2_with fail
  refine ⟨rfl, _, results_cell_slot Try.results12 _ _ _ _ rfl (load_row 32 (w.heap.size + 1 + 1) (vecA (fun k => bits .and .u32 (a k) (b k))) 32 _ w8 X8.out Try.underlying32 rfl (vec_size.trans rfl)), ?_⟩
  exact ⟨rfl, N8.out⟩
set_option maxRecDepth 100000 in
set_option maxHeartbeats 1000000 in
theorem lanes_55 (d : Int) (a b : Vc) (w : World) : Calls Try.prog 12 #[.int .i64 55, .int .i64 d, vecV a, vecV b] w (LanesPost (lanesV 55 d a b) w) := by
  unfold vecV
  go_enter Try.func12, Try.ntmps12
  go_upto_region 4 with (fail)
  obtain ⟨x0, x1, x2, x3, hN⟩ := laid4 w (.cells (vecA a) 32) (.cells (vecA b) 32) (.cells #[.int .u32 0, .int .u32 0, .int .u32 0, .int .u32 0] 32) (.cells #[.int .u32 0, .int .u32 0, .int .u32 0, .int .u32 0] 32)
  generalize (((w.alloc (.cells (vecA a) 32)).alloc (.cells (vecA b) 32)).alloc (.cells #[.int .u32 0, .int .u32 0, .int .u32 0, .int .u32 0] 32)).alloc (.cells #[.int .u32 0, .int .u32 0, .int .u32 0, .int .u32 0] 32) = W at *
  have X2 := Lib.hid x2
  have X3 := Lib.hid x3
  have HN := Lib.hid hN
  have a0 := cell_of_heap x0 (vecA_get a 0 (by decide))
  have a1 := cell_of_heap x0 (vecA_get a 1 (by decide))
  have a2 := cell_of_heap x0 (vecA_get a 2 (by decide))
  have a3 := cell_of_heap x0 (vecA_get a 3 (by decide))
  have b0 := cell_of_heap x1 (vecA_get b 0 (by decide))
  have b1 := cell_of_heap x1 (vecA_get b 1 (by decide))
  have b2 := cell_of_heap x1 (vecA_get b 2 (by decide))
  have b3 := cell_of_heap x1 (vecA_get b 3 (by decide))
  clear x0 x1 x2 x3 hN
  go_wp2_with fail
  obtain ⟨w1, hst, h1, ho1⟩ := store_all (P := Try.prog) 32 (w.heap.size + 1 + 1 + 1) _ (vecA (fun k => bits .or .u32 (a k) (b k))) _ W X3.out rfl (vec_size.trans rfl) (by simp [vecA, Value.oneCell'])
  unfold vecA at hst
  rw [hst]
  clear hst
  have N1 := Lib.hid (new_only HN.out ho1 (by omega))
  have Y2 := Lib.hid ((ho1.block (w.heap.size + 1 + 1) (by omega)).trans X2.out)
  have Y3 := Lib.hid h1
  clear h1 ho1 a0 a1 a2 a3 b0 b1 b2 b3 X2 X3
  go_wp2_with fail
  rw [load_all (P := Try.prog) 32 (w.heap.size + 1 + 1 + 1) (vecA (fun k => bits .or .u32 (a k) (b k))) 32 _ w1 Y3.out Try.underlying32 rfl (vec_size.trans rfl)]
  go_wp2_with fail
  obtain ⟨w8, hst, h8, ho8⟩ := store_all (P := Try.prog) 32 (w.heap.size + 1 + 1) _ (vecA (fun k => bits .or .u32 (a k) (b k))) _ w1 Y2.out rfl (vec_size.trans rfl) (by simp [vecA, Value.oneCell'])
  rw [hst]
  clear hst
  have N8 := Lib.hid (new_only N1.out ho8 (by omega))
  have X8 := Lib.hid h8
  clear h8 ho8
  go_wp2_with fail
  refine ⟨rfl, _, results_cell_slot Try.results12 _ _ _ _ rfl (load_row 32 (w.heap.size + 1 + 1) (vecA (fun k => bits .or .u32 (a k) (b k))) 32 _ w8 X8.out Try.underlying32 rfl (vec_size.trans rfl)), ?_⟩
  exact ⟨rfl, N8.out⟩
set_option maxRecDepth 100000 in
set_option maxHeartbeats 1000000 in
theorem lanes_56 (d : Int) (a b : Vc) (w : World) : Calls Try.prog 12 #[.int .i64 56, .int .i64 d, vecV a, vecV b] w (LanesPost (lanesV 56 d a b) w) := by
  unfold vecV
  go_enter Try.func12, Try.ntmps12
  go_upto_region 4 with (fail)
  obtain ⟨x0, x1, x2, x3, hN⟩ := laid4 w (.cells (vecA a) 32) (.cells (vecA b) 32) (.cells #[.int .u32 0, .int .u32 0, .int .u32 0, .int .u32 0] 32) (.cells #[.int .u32 0, .int .u32 0, .int .u32 0, .int .u32 0] 32)
  generalize (((w.alloc (.cells (vecA a) 32)).alloc (.cells (vecA b) 32)).alloc (.cells #[.int .u32 0, .int .u32 0, .int .u32 0, .int .u32 0] 32)).alloc (.cells #[.int .u32 0, .int .u32 0, .int .u32 0, .int .u32 0] 32) = W at *
  have X2 := Lib.hid x2
  have X3 := Lib.hid x3
  have HN := Lib.hid hN
  have a0 := cell_of_heap x0 (vecA_get a 0 (by decide))
  have a1 := cell_of_heap x0 (vecA_get a 1 (by decide))
  have a2 := cell_of_heap x0 (vecA_get a 2 (by decide))
  have a3 := cell_of_heap x0 (vecA_get a 3 (by decide))
  have b0 := cell_of_heap x1 (vecA_get b 0 (by decide))
  have b1 := cell_of_heap x1 (vecA_get b 1 (by decide))
  have b2 := cell_of_heap x1 (vecA_get b 2 (by decide))
  have b3 := cell_of_heap x1 (vecA_get b 3 (by decide))
  clear x0 x1 x2 x3 hN
  go_wp2_with fail
  obtain ⟨w1, hst, h1, ho1⟩ := store_all (P := Try.prog) 32 (w.heap.size + 1 + 1 + 1) _ (vecA (fun k => bits .xor .u32 (a k) (b k))) _ W X3.out rfl (vec_size.trans rfl) (by simp [vecA, Value.oneCell'])
  unfold vecA at hst
  rw [hst]
  clear hst
  have N1 := Lib.hid (new_only HN.out ho1 (by omega))
  have Y2 := Lib.hid ((ho1.block (w.heap.size + 1 + 1) (by omega)).trans X2.out)
  have Y3 := Lib.hid h1
  clear h1 ho1 a0 a1 a2 a3 b0 b1 b2 b3 X2 X3
  go_wp2_with fail
  rw [load_all (P := Try.prog) 32 (w.heap.size + 1 + 1 + 1) (vecA (fun k => bits .xor .u32 (a k) (b k))) 32 _ w1 Y3.out Try.underlying32 rfl (vec_size.trans rfl)]
  go_wp2_with fail
  obtain ⟨w8, hst, h8, ho8⟩ := store_all (P := Try.prog) 32 (w.heap.size + 1 + 1) _ (vecA (fun k => bits .xor .u32 (a k) (b k))) _ w1 Y2.out rfl (vec_size.trans rfl) (by simp [vecA, Value.oneCell'])
  rw [hst]
  clear hst
  have N8 := Lib.hid (new_only N1.out ho8 (by omega))
  have X8 := Lib.hid h8
  clear h8 ho8
  go_wp2_with fail
  refine ⟨rfl, _, results_cell_slot Try.results12 _ _ _ _ rfl (load_row 32 (w.heap.size + 1 + 1) (vecA (fun k => bits .xor .u32 (a k) (b k))) 32 _ w8 X8.out Try.underlying32 rfl (vec_size.trans rfl)), ?_⟩
  exact ⟨rfl, N8.out⟩
theorem lanesTo_succ (op d : Int) (a b : Vc) (k : Nat) : setV (lanesTo op d a b k) k (byLanesF op d (a k) (b k)) = lanesTo op d a b (k + 1) := by
  funext j
  unfold setV lanesTo
  by_cases h : j = k
  · subst h
    rw [if_pos rfl, if_pos (by omega)]
  · rw [if_neg h]
    by_cases h2 : j < k
    · rw [if_pos h2, if_pos (by omega)]
    · rw [if_neg h2, if_neg (by omega)]
set_option maxRecDepth 100000 in
set_option maxHeartbeats 1000000 in
theorem lanes_by (op d : Int) (a b : Vc) (w : World) (hop : op = 51 ∨ op = 52 ∨ op = 53) (hd : d = 0 ∨ d = 1 ∨ d = 2) (ha : VcOk a) (hb : VcOk b) :
    Calls Try.prog 12 #[.int .i64 op, .int .i64 d, vecV a, vecV b] w (LanesPost (lanesV op d a b) w) := by
  have BL := Lib.hid (fun x y w hx hy => byLanes_c op d x y w hop hd hx hy)
  have e : lanesV op d a b = (lanesTo op d a b 4, true) := by
    unfold lanesV
    rw [if_pos hop, if_neg (by omega)]
  rw [e]
  clear e
  have hd0 : ¬ d < 0 := by omega
  have hd2 : ¬ 2 < d := by omega
  have HA := Lib.hid ha
  have HB := Lib.hid hb
  clear hd ha hb
  have e51 : ((op == 51) = true ∨ (op == 51) = false ∧ (op == 52) = true ∨ (op == 51) = false ∧ (op == 52) = false ∧ (op == 53) = true) := by
    rcases hop with rfl | rfl | rfl <;> simp
  clear hop
  unfold vecV
  go_enter Try.func12, Try.ntmps12
  go_upto_region 4 with (fail)
  obtain ⟨x0, x1, x2, x3, hN⟩ := laid4 w (.cells (vecA a) 32) (.cells (vecA b) 32) (.cells #[.int .u32 0, .int .u32 0, .int .u32 0, .int .u32 0] 32) (.cells #[.int .u32 0, .int .u32 0, .int .u32 0, .int .u32 0] 32)
  generalize (((w.alloc (.cells (vecA a) 32)).alloc (.cells (vecA b) 32)).alloc (.cells #[.int .u32 0, .int .u32 0, .int .u32 0, .int .u32 0] 32)).alloc (.cells #[.int .u32 0, .int .u32 0, .int .u32 0, .int .u32 0] 32) = W at *
  have Y0 := Lib.hid x0
  have Y1 := Lib.hid x1
  have Y2 := Lib.hid x2
  have Y3 := Lib.hid (show W.heap[w.heap.size + 1 + 1 + 1]? = some (.cells (vecA (lanesTo op d a b 0)) 32) from x3)
  have HN := Lib.hid hN
  clear x0 x1 x2 x3 hN
  rcases e51 with e51 | ⟨e51, e52⟩ | ⟨e51, e52, e53⟩
  all_goals
    go_wp2_with fail
    go_loopw [26] (fun i wr => ∃ k : Nat, k ≤ 4 ∧ i = .int .i64 k ∧ wr.heap[w.heap.size]? = some (.cells (vecA a) 32) ∧ wr.heap[w.heap.size + 1]? = some (.cells (vecA b) 32) ∧ wr.heap[w.heap.size + 1 + 1]? = some (.cells #[.int .u32 0, .int .u32 0, .int .u32 0, .int .u32 0] 32) ∧ wr.heap[w.heap.size + 1 + 1 + 1]? = some (.cells (vecA (lanesTo op d a b k)) 32) ∧ New w wr) (fun i _ => 4 - (intOf i).toNat)
    case atStart => exact ⟨0, Nat.zero_le _, rfl, Y0.out, Y1.out, Y2.out, Y3.out, HN.out⟩
    case round =>
      clear Y0 Y1 Y2 Y3 HN
      obtain ⟨k, hk, rfl, y0, y1, y2, y3, hN⟩ := hrel
      have HN := Lib.hid hN
      have Y0 := Lib.hid y0
      have Y1 := Lib.hid y1
      have Y2 := Lib.hid y2
      have Y3 := Lib.hid y3
      clear hN y0 y1 y2 y3
      by_cases hlt : k < 4
      · have hax := cell_of_heap Y0.out (vecA_get a k hlt)
        have hbx := cell_of_heap Y1.out (vecA_get b k hlt)
        have hfz : wr.frozen? ⟨w.heap.size + 1 + 1 + 1, k, none⟩ = false := frozen_of_heap Y3.out
        have C1 := Lib.hid (fun u => BL.out (a k) (b k) u (HA.out k hlt) (HB.out k hlt))
        go_wp2_with fail
        go_region_with (first | (go_at_call 36; (with_reducible refine (C1.out _).mono ?_); rintro e u1 ⟨rfl, hb1⟩; have hfz1 : u1.frozen? ⟨w.heap.size + 1 + 1 + 1, k, none⟩ = false := (hb1.frozen (p := ⟨w.heap.size + 1 + 1 + 1, k, none⟩) (lt_of_heap Y3.out)).trans hfz; have hcz1 : u1.cell? ⟨w.heap.size + 1 + 1 + 1, k, none⟩ = some (.int .u32 (lanesTo op d a b k k)) := (hb1.cell (p := ⟨w.heap.size + 1 + 1 + 1, k, none⟩) (lt_of_heap Y3.out)).trans (cell_of_heap Y3.out (vecA_get _ k hlt)); have N1 := Lib.hid (show New wr u1 from (by first | exact hb1 | exact Below.trans ((New.refl wr).drew) hb1)); clear hb1) | fail)
        all_goals
          have Z0 := Lib.hid ((N1.out.block _ (lt_of_heap Y0.out)).trans Y0.out)
          have Z1 := Lib.hid ((N1.out.block _ (lt_of_heap Y1.out)).trans Y1.out)
          have Z2 := Lib.hid ((N1.out.block _ (lt_of_heap Y2.out)).trans Y2.out)
          have Z3 := Lib.hid ((N1.out.block _ (lt_of_heap Y3.out)).trans Y3.out)
          have N2 := Lib.hid (HN.out.trans (N1.out.mono HN.out.size))
          clear N1 Y0 Y1 Y2 Y3 HN hfz1 hcz1 hfz hax hbx
          have N3 := Lib.hid (new_only N2.out (only_setCell u1 (w.heap.size + 1 + 1 + 1) k (.int .u32 (byLanesF op d (a k) (b k)))) (by omega))
          have ho := only_setCell u1 (w.heap.size + 1 + 1 + 1) k (.int .u32 (byLanesF op d (a k) (b k)))
          have V0 := Lib.hid ((ho.block w.heap.size (by omega)).trans Z0.out)
          have V1 := Lib.hid ((ho.block (w.heap.size + 1) (by omega)).trans Z1.out)
          have V2 := Lib.hid ((ho.block (w.heap.size + 1 + 1) (by omega)).trans Z2.out)
          have v3 := setCell_at (o := k) Z3.out (.int .u32 (byLanesF op d (a k) (b k)))
          rw [vecA_set _ _ hlt, lanesTo_succ] at v3
          have V3 := Lib.hid v3
          clear v3 ho Z0 Z1 Z2 Z3 N2
          generalize u1.setCell ⟨w.heap.size + 1 + 1 + 1, k, none⟩ (.int .u32 (byLanesF op d (a k) (b k))) = u2 at *
          go_wp2_with fail
          go_roundw
          case rel => exact ⟨k + 1, by omega, by simp, V0.out, V1.out, V2.out, V3.out, N3.out⟩
          case measure => simp [intOf]; omega
      · obtain rfl : k = 4 := by omega
        go_wp2_with fail
        rw [load_all (P := Try.prog) 32 (w.heap.size + 1 + 1 + 1) (vecA (lanesTo op d a b 4)) 32 _ wr Y3.out Try.underlying32 rfl (vec_size.trans rfl)]
        go_wp2_with fail
        obtain ⟨w8, hst, h8, ho8⟩ := store_all (P := Try.prog) 32 (w.heap.size + 1 + 1) _ (vecA (lanesTo op d a b 4)) _ wr Y2.out rfl (vec_size.trans rfl) (by simp [vecA, Value.oneCell'])
        rw [hst]
        clear hst
        have N8 := Lib.hid (new_only HN.out ho8 (by omega))
        have X8 := Lib.hid h8
        clear h8 ho8
        go_wp2_with fail
        refine ⟨rfl, _, results_cell_slot Try.results12 _ _ _ _ rfl (load_row 32 (w.heap.size + 1 + 1) (vecA (lanesTo op d a b 4)) 32 _ w8 X8.out Try.underlying32 rfl (vec_size.trans rfl)), ?_⟩
        exact ⟨rfl, N8.out⟩
attribute [-go_sem] exVl exVs
attribute [local go_sem ↓] Go.wp_at_zero Go.wp_at_succ
set_option maxRecDepth 100000 in
set_option maxHeartbeats 1000000 in
theorem lanes_57 (d : Int) (a b : Vc) (w : World) (ha : VcOk a) (hb : VcOk b) :
    Calls Try.prog 12 #[.int .i64 57, .int .i64 d, vecV a, vecV b] w (LanesPost (lanesV 57 d a b) w) := by
  have HA := Lib.hid ha
  have HB := Lib.hid hb
  clear ha hb
  unfold vecV
  go_enter Try.func12, Try.ntmps12
  go_upto_region 4 with (fail)
  obtain ⟨x0, x1, x2, x3, hN⟩ := laid4 w (.cells (vecA a) 32) (.cells (vecA b) 32) (.cells #[.int .u32 0, .int .u32 0, .int .u32 0, .int .u32 0] 32) (.cells #[.int .u32 0, .int .u32 0, .int .u32 0, .int .u32 0] 32)
  generalize (((w.alloc (.cells (vecA a) 32)).alloc (.cells (vecA b) 32)).alloc (.cells #[.int .u32 0, .int .u32 0, .int .u32 0, .int .u32 0] 32)).alloc (.cells #[.int .u32 0, .int .u32 0, .int .u32 0, .int .u32 0] 32) = W at *
  have Y0 := Lib.hid x0
  have Y1 := Lib.hid x1
  have Y2 := Lib.hid x2
  have Y3 := Lib.hid (show W.heap[w.heap.size + 1 + 1 + 1]? = some (.cells (vecA (shufTo a b 0)) 32) from x3)
  have HN := Lib.hid hN
  clear x0 x1 x2 x3 hN
  go_wp2_with fail
  go_loopw [112] (fun i wr => ∃ k : Nat, k ≤ 16 ∧ i = .int .i64 k ∧ wr.heap[w.heap.size]? = some (.cells (vecA a) 32) ∧ wr.heap[w.heap.size + 1]? = some (.cells (vecA b) 32) ∧ wr.heap[w.heap.size + 1 + 1]? = some (.cells #[.int .u32 0, .int .u32 0, .int .u32 0, .int .u32 0] 32) ∧ wr.heap[w.heap.size + 1 + 1 + 1]? = some (.cells (vecA (shufTo a b k)) 32) ∧ New w wr) (fun i _ => 16 - (intOf i).toNat)
  case atStart => exact ⟨0, Nat.zero_le _, rfl, Y0.out, Y1.out, Y2.out, Y3.out, HN.out⟩
  case round =>
    clear Y0 Y1 Y2 Y3 HN
    obtain ⟨k, hk, rfl, y0, y1, y2, y3, hN⟩ := hrel
    have HN := Lib.hid hN
    have Y0 := Lib.hid y0
    have Y1 := Lib.hid y1
    have Y2 := Lib.hid y2
    have Y3 := Lib.hid y3
    clear hN y0 y1 y2 y3
    by_cases hlt : k < 16
    · obtain ⟨q, hq, hqe⟩ : ∃ q : Nat, q < 16 ∧ (byteF b k % 16).toNat = q := ⟨_, by omega, rfl⟩
      have hand : bits .and .u32 (byteF b k) 15 = (q : Int) := by
        rw [show (15 : Int) = 2 ^ 4 - 1 from rfl, and_mask _ (byteF_bd b k).1 (Int.lt_trans (byteF_bd b k).2 (by decide)) 4 (by decide)]
        omega
      obtain ⟨j, hj4, hje⟩ : ∃ j : Nat, j < 4 ∧ k / 4 = j := ⟨_, by omega, rfl⟩
      obtain ⟨r, hr4, hre⟩ : ∃ r : Nat, r < 4 ∧ k % 4 = r := ⟨_, by omega, rfl⟩
      have hji : (k : Int) / 4 = (j : Int) := by omega
      have hri : (k : Int) % 4 = (r : Int) := by omega
      have hrt : (k : Int).tmod 4 = (r : Int) := by rw [Int.tmod_eq_emod_of_nonneg (by omega)]; exact hri
      have hs : shufTo a b (k + 1) = setV (shufTo a b k) j (bits .or .u32 (shufTo a b k j) (byteF a q * 2 ^ (r * 8) % 4294967296)) := by
        rw [← hqe, ← hje, ← hre]; rfl
      clear hje hre
      have HS := Lib.hid hs
      clear hs hqe
      have a0 : wr.cell? ⟨w.heap.size, 0, none⟩ = some (.int .u32 (a 0)) := cell_of_heap Y0.out (vecA_get a 0 (by decide))
      have a1 : wr.cell? ⟨w.heap.size, 1, none⟩ = some (.int .u32 (a 1)) := cell_of_heap Y0.out (vecA_get a 1 (by decide))
      have a2 : wr.cell? ⟨w.heap.size, 2, none⟩ = some (.int .u32 (a 2)) := cell_of_heap Y0.out (vecA_get a 2 (by decide))
      have a3 : wr.cell? ⟨w.heap.size, 3, none⟩ = some (.int .u32 (a 3)) := cell_of_heap Y0.out (vecA_get a 3 (by decide))
      have b0 : wr.cell? ⟨w.heap.size + 1, 0, none⟩ = some (.int .u32 (b 0)) := cell_of_heap Y1.out (vecA_get b 0 (by decide))
      have b1 : wr.cell? ⟨w.heap.size + 1, 1, none⟩ = some (.int .u32 (b 1)) := cell_of_heap Y1.out (vecA_get b 1 (by decide))
      have b2 : wr.cell? ⟨w.heap.size + 1, 2, none⟩ = some (.int .u32 (b 2)) := cell_of_heap Y1.out (vecA_get b 2 (by decide))
      have b3 : wr.cell? ⟨w.heap.size + 1, 3, none⟩ = some (.int .u32 (b 3)) := cell_of_heap Y1.out (vecA_get b 3 (by decide))
      have hcz : wr.cell? ⟨w.heap.size + 1 + 1 + 1, j, none⟩ = some (.int .u32 (shufTo a b k j)) := cell_of_heap Y3.out (vecA_get _ j hj4)
      have hfz : wr.frozen? ⟨w.heap.size + 1 + 1 + 1, j, none⟩ = false := frozen_of_heap Y3.out
      have hw1 : IntKind.i64.wrap (j : Int) = (j : Int) := IntWalk.i64_in _ (by omega)
      have hw2 : IntKind.i64.wrap (r : Int) = (r : Int) := IntWalk.i64_in _ (by omega)
      have hw3 : IntKind.i64.wrap ((r : Int) * 8) = (r : Int) * 8 := IntWalk.i64_in _ (by omega)
      have hj0 : (0 : Int) ≤ (j : Int) := by omega
      have hj1 : (j : Int) < 4 := by omega
      have hr0 : (0 : Int) ≤ (r : Int) * 8 := by omega
      have hw4 : IntKind.i64.wrap (q : Int) = (q : Int) := IntWalk.i64_in _ (by omega)
      have C1 := Lib.hid (fun u => octet_c b k u HB.out hlt)
      have C2 := Lib.hid (fun u => octet_c a q u HA.out hq)
      unfold vecV vecA at C1 C2
      go_wp2_with fail
      go_region_with (first | (go_at_call 37; (with_reducible refine (C1.out _).mono ?_); rintro e u1 ⟨rfl, hb1⟩; have N1 := Lib.hid (show New wr u1 from (by first | exact hb1 | exact Below.trans ((New.refl wr).drew) hb1)); clear hb1; have W0 := Lib.hid ((N1.out.block _ (lt_of_heap Y0.out)).trans Y0.out); have W1 := Lib.hid ((N1.out.block _ (lt_of_heap Y1.out)).trans Y1.out); have a0x : u1.cell? ⟨w.heap.size, 0, none⟩ = some (.int .u32 (a 0)) := cell_of_heap W0.out (vecA_get a 0 (by decide)); have a1x : u1.cell? ⟨w.heap.size, 1, none⟩ = some (.int .u32 (a 1)) := cell_of_heap W0.out (vecA_get a 1 (by decide)); have a2x : u1.cell? ⟨w.heap.size, 2, none⟩ = some (.int .u32 (a 2)) := cell_of_heap W0.out (vecA_get a 2 (by decide)); have a3x : u1.cell? ⟨w.heap.size, 3, none⟩ = some (.int .u32 (a 3)) := cell_of_heap W0.out (vecA_get a 3 (by decide)); have b0x : u1.cell? ⟨w.heap.size + 1, 0, none⟩ = some (.int .u32 (b 0)) := cell_of_heap W1.out (vecA_get b 0 (by decide)); have b1x : u1.cell? ⟨w.heap.size + 1, 1, none⟩ = some (.int .u32 (b 1)) := cell_of_heap W1.out (vecA_get b 1 (by decide)); have b2x : u1.cell? ⟨w.heap.size + 1, 2, none⟩ = some (.int .u32 (b 2)) := cell_of_heap W1.out (vecA_get b 2 (by decide)); have b3x : u1.cell? ⟨w.heap.size + 1, 3, none⟩ = some (.int .u32 (b 3)) := cell_of_heap W1.out (vecA_get b 3 (by decide));  have hcz1 : u1.cell? ⟨w.heap.size + 1 + 1 + 1, j, none⟩ = some (.int .u32 (shufTo a b k j)) := (N1.out.cell (p := ⟨w.heap.size + 1 + 1 + 1, j, none⟩) (lt_of_heap Y3.out)).trans hcz; clear W0 W1) | (go_at_call 37; (with_reducible refine (C2.out _).mono ?_); rintro e u2 ⟨rfl, hb2⟩; have N2 := Lib.hid (show New u1 u2 from (by first | exact hb2 | exact Below.trans ((New.refl u1).drew) hb2)); clear hb2; have N3 := Lib.hid (N1.out.trans (N2.out.mono N1.out.size));  have hcz2 : u2.cell? ⟨w.heap.size + 1 + 1 + 1, j, none⟩ = some (.int .u32 (shufTo a b k j)) := (N3.out.cell (p := ⟨w.heap.size + 1 + 1 + 1, j, none⟩) (lt_of_heap Y3.out)).trans hcz; have hfz2 : u2.frozen? ⟨w.heap.size + 1 + 1 + 1, j, none⟩ = false := (N3.out.frozen (p := ⟨w.heap.size + 1 + 1 + 1, j, none⟩) (lt_of_heap Y3.out)).trans hfz))
      all_goals
        have Z0 := Lib.hid ((N3.out.block _ (lt_of_heap Y0.out)).trans Y0.out)
        have Z1 := Lib.hid ((N3.out.block _ (lt_of_heap Y1.out)).trans Y1.out)
        have Z2 := Lib.hid ((N3.out.block _ (lt_of_heap Y2.out)).trans Y2.out)
        have Z3 := Lib.hid ((N3.out.block _ (lt_of_heap Y3.out)).trans Y3.out)
        have M2 := Lib.hid (HN.out.trans (N3.out.mono HN.out.size))
        have hX : (bits .or .u32 (shufTo a b k j) (IntKind.u32.wrap (byteF a q * 2 ^ ((r : Int) * 8).toNat))) = bits .or .u32 (shufTo a b k j) (byteF a q * 2 ^ (r * 8) % 4294967296) := by
          rw [show ((r : Int) * 8).toNat = r * 8 by omega]; rfl
        have HX := Lib.hid hX
        clear N1 N2 N3 Y0 Y1 Y2 Y3 HN hfz2 hcz1 hcz2 hfz hcz hX a0 a1 a2 a3 b0 b1 b2 b3 a0x a1x a2x a3x b0x b1x b2x b3x hand C1 C2
        generalize (bits .or .u32 (shufTo a b k j) (IntKind.u32.wrap (byteF a q * 2 ^ ((r : Int) * 8).toNat))) = x at *
        have M3 := Lib.hid (new_only M2.out (only_setCell u2 (w.heap.size + 1 + 1 + 1) j (.int .u32 x)) (by omega))
        have ho := only_setCell u2 (w.heap.size + 1 + 1 + 1) j (.int .u32 x)
        have V0 := Lib.hid ((ho.block w.heap.size (by omega)).trans Z0.out)
        have V1 := Lib.hid ((ho.block (w.heap.size + 1) (by omega)).trans Z1.out)
        have V2 := Lib.hid ((ho.block (w.heap.size + 1 + 1) (by omega)).trans Z2.out)
        have v3 := setCell_at (o := j) Z3.out (.int .u32 x)
        have hv : setV (shufTo a b k) j x = shufTo a b (k + 1) := by rw [HS.out, HX.out]
        rw [vecA_set _ _ hj4, hv] at v3
        have V3 := Lib.hid v3
        clear v3 hv ho Z0 Z1 Z2 Z3 M2 HX HS
        generalize u2.setCell ⟨w.heap.size + 1 + 1 + 1, j, none⟩ (.int .u32 x) = u3 at *
        go_wp2_with fail
        go_roundw
        case rel => exact ⟨k + 1, by omega, by simp, V0.out, V1.out, V2.out, V3.out, M3.out⟩
        case measure => simp [intOf]; omega
    · obtain rfl : k = 16 := by omega
      have z0 := cell_of_heap Y3.out (vecA_get _ 0 (by decide))
      have z1 := cell_of_heap Y3.out (vecA_get _ 1 (by decide))
      have z2 := cell_of_heap Y3.out (vecA_get _ 2 (by decide))
      have z3 := cell_of_heap Y3.out (vecA_get _ 3 (by decide))
      have y0 : wr.cell? ⟨w.heap.size + 1 + 1, 0, none⟩ = some (.int .u32 0) := cell_of_heap Y2.out rfl
      have y1 : wr.cell? ⟨w.heap.size + 1 + 1, 1, none⟩ = some (.int .u32 0) := cell_of_heap Y2.out rfl
      have y2 : wr.cell? ⟨w.heap.size + 1 + 1, 2, none⟩ = some (.int .u32 0) := cell_of_heap Y2.out rfl
      have y3 : wr.cell? ⟨w.heap.size + 1 + 1, 3, none⟩ = some (.int .u32 0) := cell_of_heap Y2.out rfl
      have f0 : wr.frozen? ⟨w.heap.size + 1 + 1, 0, none⟩ = false := frozen_of_heap Y2.out
      have f1 : wr.frozen? ⟨w.heap.size + 1 + 1, 1, none⟩ = false := frozen_of_heap Y2.out
      have f2 : wr.frozen? ⟨w.heap.size + 1 + 1, 2, none⟩ = false := frozen_of_heap Y2.out
      have f3 : wr.frozen? ⟨w.heap.size + 1 + 1, 3, none⟩ = false := frozen_of_heap Y2.out
      go_wp2_with fail
      have h8 := setCell_at (o := 3) (setCell_at (o := 2) (setCell_at (o := 1) (setCell_at (o := 0) Y2.out (.int .u32 (shufTo a b 16 0))) (.int .u32 (shufTo a b 16 1))) (.int .u32 (shufTo a b 16 2))) (.int .u32 (shufTo a b 16 3))
      have n8 := new_only (new_only (new_only (new_only HN.out (only_setCell wr (w.heap.size + 1 + 1) 0 (.int .u32 (shufTo a b 16 0))) (by omega)) (only_setCell _ (w.heap.size + 1 + 1) 1 (.int .u32 (shufTo a b 16 1))) (by omega)) (only_setCell _ (w.heap.size + 1 + 1) 2 (.int .u32 (shufTo a b 16 2))) (by omega)) (only_setCell _ (w.heap.size + 1 + 1) 3 (.int .u32 (shufTo a b 16 3))) (by omega)
      refine ⟨rfl, _, results_cell_slot Try.results12 _ _ _ _ rfl (load_row 32 (w.heap.size + 1 + 1) (vecA (shufTo a b 16)) 32 _ _ h8 Try.underlying32 rfl (vec_size.trans rfl)), rfl, n8⟩
end Go.Proofs.Ytpooghnemlnopaa
