/- The contract of cpu.Lanes, the rest. Written by genLanes3.py. -/
import Derived.Test.YtpooghnemlnopaaCLanes3
namespace Go.Proofs.Ytpooghnemlnopaa
open Go Go.RowKit Go.Cd
set_option linter.unusedVariables false
attribute [local go_sem ↓] exVs exVl Go.wp_at_zero Go.wp_at_succ
set_option maxRecDepth 100000 in
set_option maxHeartbeats 1000000 in
theorem lanes_wide (op d : Int) (a b : Vc) (w : World) (hop : op = 51 ∨ op = 52 ∨ op = 53) (hd : d < 0 ∨ 2 < d) :
    Calls Try.prog 12 #[.int .i64 op, .int .i64 d, vecV a, vecV b] w (LanesPost (lanesV op d a b) w) := by
  have e : lanesV op d a b = (zeroV, false) := by
    unfold lanesV
    rw [if_pos hop, if_pos hd]
  rw [e]
  clear e
  unfold vecV
  rcases hop with rfl | rfl | rfl <;> rcases hd with hd | hd
  all_goals
    go_enter Try.func12, Try.ntmps12
    go_upto_region 4 with (fail)
    obtain ⟨x0, x1, x2, x3, hN⟩ := laid4 w (.cells (vecA a) 32) (.cells (vecA b) 32) (.cells #[.int .u32 0, .int .u32 0, .int .u32 0, .int .u32 0] 32) (.cells #[.int .u32 0, .int .u32 0, .int .u32 0, .int .u32 0] 32)
    generalize (((w.alloc (.cells (vecA a) 32)).alloc (.cells (vecA b) 32)).alloc (.cells #[.int .u32 0, .int .u32 0, .int .u32 0, .int .u32 0] 32)).alloc (.cells #[.int .u32 0, .int .u32 0, .int .u32 0, .int .u32 0] 32) = W at *
    have Y2 := Lib.hid x2
    have Y3 := Lib.hid (show W.heap[w.heap.size + 1 + 1 + 1]? = some (.cells (vecA zeroV) 32) from x3)
    have HN := Lib.hid hN
    clear x0 x1 x2 x3 hN
    go_wp2_with fail
    rw [load_all (P := Try.prog) 32 (w.heap.size + 1 + 1 + 1) (vecA zeroV) 32 _ W Y3.out Try.underlying32 rfl (vec_size.trans rfl)]
    go_wp2_with fail
    obtain ⟨w8, hst, h8, ho8⟩ := store_all (P := Try.prog) 32 (w.heap.size + 1 + 1) _ (vecA zeroV) _ W Y2.out rfl (vec_size.trans rfl) (by simp [vecA, Value.oneCell'])
    rw [hst]
    clear hst
    have N8 := Lib.hid (new_only HN.out ho8 (by omega))
    have X8 := Lib.hid h8
    clear h8 ho8
    go_wp2_with fail
    refine ⟨rfl, _, results_cell_slot Try.results12 _ _ _ _ rfl (load_row 32 (w.heap.size + 1 + 1) (vecA zeroV) 32 _ w8 X8.out Try.underlying32 rfl (vec_size.trans rfl)), ?_⟩
    exact ⟨rfl, N8.out⟩
set_option maxRecDepth 100000 in
set_option maxHeartbeats 1000000 in
theorem lanes_else (op d : Int) (a b : Vc) (w : World) (h : op < 51 ∨ 57 < op) :
    Calls Try.prog 12 #[.int .i64 op, .int .i64 d, vecV a, vecV b] w (LanesPost (lanesV op d a b) w) := by
  have e : lanesV op d a b = (zeroV, false) := by
    unfold lanesV
    rw [if_neg (by omega), if_neg (by omega), if_neg (by omega), if_neg (by omega), if_neg (by omega)]
  rw [e]
  clear e
  have n1 : (op == 51) = false := by simp; omega
  have n2 : (op == 52) = false := by simp; omega
  have n3 : (op == 53) = false := by simp; omega
  have n4 : (op == 54) = false := by simp; omega
  have n5 : (op == 55) = false := by simp; omega
  have n6 : (op == 56) = false := by simp; omega
  have n7 : (op == 57) = false := by simp; omega
  clear h
  unfold vecV
  iterate 1
    go_enter Try.func12, Try.ntmps12
    go_upto_region 4 with (fail)
    obtain ⟨x0, x1, x2, x3, hN⟩ := laid4 w (.cells (vecA a) 32) (.cells (vecA b) 32) (.cells #[.int .u32 0, .int .u32 0, .int .u32 0, .int .u32 0] 32) (.cells #[.int .u32 0, .int .u32 0, .int .u32 0, .int .u32 0] 32)
    generalize (((w.alloc (.cells (vecA a) 32)).alloc (.cells (vecA b) 32)).alloc (.cells #[.int .u32 0, .int .u32 0, .int .u32 0, .int .u32 0] 32)).alloc (.cells #[.int .u32 0, .int .u32 0, .int .u32 0, .int .u32 0] 32) = W at *
    have Y2 := Lib.hid x2
    have Y3 := Lib.hid (show W.heap[w.heap.size + 1 + 1 + 1]? = some (.cells (vecA zeroV) 32) from x3)
    have HN := Lib.hid hN
    clear x0 x1 x2 x3 hN
    go_wp2_with fail
    rw [load_all (P := Try.prog) 32 (w.heap.size + 1 + 1 + 1) (vecA zeroV) 32 _ W Y3.out Try.underlying32 rfl (vec_size.trans rfl)]
    go_wp2_with fail
    obtain ⟨w8, hst, h8, ho8⟩ := store_all (P := Try.prog) 32 (w.heap.size + 1 + 1) _ (vecA zeroV) _ W Y2.out rfl (vec_size.trans rfl) (by simp [vecA, Value.oneCell'])
    rw [hst]
    clear hst
    have N8 := Lib.hid (new_only HN.out ho8 (by omega))
    have X8 := Lib.hid h8
    clear h8 ho8
    go_wp2_with fail
    refine ⟨rfl, _, results_cell_slot Try.results12 _ _ _ _ rfl (load_row 32 (w.heap.size + 1 + 1) (vecA zeroV) 32 _ w8 X8.out Try.underlying32 rfl (vec_size.trans rfl)), ?_⟩
    exact ⟨rfl, N8.out⟩
/-- cpu.Lanes. -/
theorem lanesc_c (op d : Int) (a b : Vc) (w : World) (ha : VcOk a) (hb : VcOk b) :
    Calls Try.prog 12 #[.int .i64 op, .int .i64 d, vecV a, vecV b] w (LanesPost (lanesV op d a b) w) := by
  by_cases h : op < 51 ∨ 57 < op
  · exact lanes_else op d a b w h
  · have h' : op = 51 ∨ op = 52 ∨ op = 53 ∨ op = 54 ∨ op = 55 ∨ op = 56 ∨ op = 57 := by omega
    have hb3 : (op = 51 ∨ op = 52 ∨ op = 53) → Calls Try.prog 12 #[.int .i64 op, .int .i64 d, vecV a, vecV b] w (LanesPost (lanesV op d a b) w) := fun h3 => by
      by_cases hd : d < 0 ∨ 2 < d
      · exact lanes_wide op d a b w h3 hd
      · exact lanes_by op d a b w h3 (by omega) ha hb
    rcases h' with h | h | h | h | h | h | h
    · exact hb3 (.inl h)
    · exact hb3 (.inr (.inl h))
    · exact hb3 (.inr (.inr h))
    · subst h; exact lanes_54 d a b w
    · subst h; exact lanes_55 d a b w
    · subst h; exact lanes_56 d a b w
    · subst h; exact lanes_57 d a b w ha hb
end Go.Proofs.Ytpooghnemlnopaa
