/- The contract of cpu.byLanes. -/
import Derived.Test.YtpooghnemlnopaaCLanes1
import Derived.Test.YtpooghnemlnopaaKitRound
import Derived.Test.YtpooghnemlnopaaPlainArith
import Derived.Shelf.Abstract
import Derived.Sort.QuietIn
namespace Go.Proofs.Ytpooghnemlnopaa
open Go Go.RowKit Go.Cd
set_option linter.unusedVariables false
attribute [local go_sem] Oper.semAt_some

theorem lanes_c (d : Int) (w : World) : Calls Try.prog 69 #[.int .i64 d] w fun e w' => e = .returned (.func (.func 84) #[] #[.pointer (some ⟨w.heap.size, 0, none⟩)]) ∧ w' = w.alloc (.cells #[.int .i64 d] 3) := by
  have hmf : ∀ (fn : Fn) (first cap : Array Value) (w : World), (Instr.makeFunc fn first cap).run Try.prog w = .ok (.func fn first cap) w := fun _ _ _ _ => rfl
  go_enter Try.func69, Try.ntmps69
  go_wp2
  go_ret
  exact ⟨rfl, rfl⟩
def laneOp (op x y m : Int) : Int := if op = 51 then (x + y) % 4294967296 else if op = 52 then (x - y) % 4294967296 else if x = y then m else 0
theorem laneOp53 (x y m : Int) : laneOp 53 x y m = if x = y then m else 0 := rfl
def laneSt (op a b out : Int) (p : Int × Int) : Int :=
  bits .or .u32 out (bits .and .u32 (laneOp op (bits .and .u32 (a / 2 ^ p.1.toNat) p.2) (bits .and .u32 (b / 2 ^ p.1.toNat) p.2) p.2) p.2 * 2 ^ p.1.toNat % 4294967296)
def lanesOf (d : Int) : List (Int × Int) := if d = 0 then lanesL 8 255 4 else if d = 1 then lanesL 16 65535 2 else lanesL 32 4294967295 1
def byLanesF (op d a b : Int) : Int := (lanesOf d).foldl (laneSt op a b) 0
theorem lanes1_stops (d : Int) (hd : d = 0 ∨ d = 1 ∨ d = 2) (n : Nat) (bd : Nat) (w : World) (hbd : bd < w.heap.size) (hc : w.cell? ⟨bd, 0, none⟩ = some (.int .i64 d)) :
    SeqW Fence.wide n Try.prog 84 #[.pointer (some ⟨bd, 0, none⟩)] laneE (lanesOf d) (fun _ => False) w := by
  rcases hd with rfl | rfl | rfl
  · exact lanes1_0 n bd w hbd hc
  · exact lanes1_1 n bd w hbd hc
  · exact lanes1_2 n bd w hbd hc
theorem lanesOf_mem (d : Int) (hd : d = 0 ∨ d = 1 ∨ d = 2) : ∀ x ∈ lanesOf d, (0 ≤ x.1 ∧ x.1 < 32) ∧ 0 ≤ x.2 ∧ x.2 < 4294967296 := by
  rcases hd with rfl | rfl | rfl <;> decide
/-- How a round of byLanes ends. -/
theorem lane_end {α : Type} {w W W3 : World} {B : Nat} (hB : w.heap.size + 1 + 1 + 1 < B) {ob0 ob1 ob2 : Obj} {ty : TypeId} {f : α → Int → Int} {out u : Int}
    (hk : KeepsOn (fun r => False ∨ r = B ∨ r = B + 1) W W3) (hN : New w W3) (d0 : W3.heap[w.heap.size]? = some ob0) (d1 : W3.heap[w.heap.size + 1]? = some ob1) (d2 : W3.heap[w.heap.size + 1 + 1]? = some ob2)
    (d3 : W3.heap[w.heap.size + 1 + 1 + 1]? = some (.cells #[.int .u32 out] ty)) (v : Int) (hv : v = u) :
    KeepsOn (fun r => False ∨ r = B ∨ r = B + 1) W (W3.setCell ⟨w.heap.size + 1 + 1 + 1, 0, none⟩ (.int .u32 v)) ∧ (New w (W3.setCell ⟨w.heap.size + 1 + 1 + 1, 0, none⟩ (.int .u32 v)) ∧ (W3.setCell ⟨w.heap.size + 1 + 1 + 1, 0, none⟩ (.int .u32 v)).heap[w.heap.size]? = some ob0 ∧ (W3.setCell ⟨w.heap.size + 1 + 1 + 1, 0, none⟩ (.int .u32 v)).heap[w.heap.size + 1]? = some ob1 ∧ (W3.setCell ⟨w.heap.size + 1 + 1 + 1, 0, none⟩ (.int .u32 v)).heap[w.heap.size + 1 + 1]? = some ob2 ∧
      (W3.setCell ⟨w.heap.size + 1 + 1 + 1, 0, none⟩ (.int .u32 v)).heap[w.heap.size + 1 + 1 + 1]? = some (.cells #[.int .u32 u] ty)) := by
  have ho := only_setCell W3 (w.heap.size + 1 + 1 + 1) 0 (.int .u32 v)
  subst hv
  refine ⟨fun k hk' => ?_, new_only hN ho (by omega), (ho.block _ (by omega)).trans d0, (ho.block _ (by omega)).trans d1, (ho.block _ (by omega)).trans d2, setCell_at d3 _⟩
  have hne : k ≠ w.heap.size + 1 + 1 + 1 := by rcases hk' with h | h | h <;> first | exact h.elim | omega
  exact (ho.block k hne).trans (hk k hk')
set_option maxRecDepth 100000 in
set_option maxHeartbeats 2000000 in
theorem byLanes_c (op d a b : Int) (w : World) (hop : op = 51 ∨ op = 52 ∨ op = 53) (hd : d = 0 ∨ d = 1 ∨ d = 2) (ha : 0 ≤ a ∧ a < 4294967296) (hb : 0 ≤ b ∧ b < 4294967296) :
    Calls Try.prog 36 #[.int .i64 op, .int .i64 d, .int .u32 a, .int .u32 b] w fun e w' => e = .returned (.int .u32 (byLanesF op d a b)) ∧ New w w' := by
  refine (callsIn_wide (n := 3)).1 ?_
  refine callsIn_of_wp_marks Try.func36 rfl trivial ?_ rfl
  simp only [Try.ntmps36, List.size_toArray, List.length_cons, List.length_nil, Nat.reduceAdd, Nat.reduceSub, Array.replicate_succ, Array.replicate_zero, List.push_toArray, List.append_toArray, List.nil_append, List.cons_append]
  gi_wp2_with (refine ⟨trivial, ?_⟩; gi_at_call 69; refine (callsIn_wide.2 (lanes_c _ _)).mono ?_; rintro e w' ⟨rfl, rfl⟩)
  have b0 := heap_alloc_at w (.cells #[.int .i64 op] 3) _ rfl
  have n0 : New w (w.alloc (.cells #[.int .i64 op] 3)) := by go_grown
  have s0 : (w.alloc (.cells #[.int .i64 op] 3)).heap.size = w.heap.size + 1 := by simp
  generalize w.alloc (.cells #[.int .i64 op] 3) = w1 at *
  have b1 := heap_alloc_at w1 (.cells #[.int .u32 a] 22) _ s0.symm
  have n1 : New w1 (w1.alloc (.cells #[.int .u32 a] 22)) := by go_grown
  have s1 : (w1.alloc (.cells #[.int .u32 a] 22)).heap.size = w.heap.size + 1 + 1 := by simp [s0]
  generalize w1.alloc (.cells #[.int .u32 a] 22) = w2 at *
  have b2 := heap_alloc_at w2 (.cells #[.int .u32 b] 22) _ s1.symm
  have n2 : New w2 (w2.alloc (.cells #[.int .u32 b] 22)) := by go_grown
  have s2 : (w2.alloc (.cells #[.int .u32 b] 22)).heap.size = w.heap.size + 1 + 1 + 1 := by simp [s1]
  generalize w2.alloc (.cells #[.int .u32 b] 22) = w3 at *
  have b3 := heap_alloc_at w3 (.cells #[.int .u32 0] 22) _ s2.symm
  have n3 : New w3 (w3.alloc (.cells #[.int .u32 0] 22)) := by go_grown
  have s3 : (w3.alloc (.cells #[.int .u32 0] 22)).heap.size = w.heap.size + 1 + 1 + 1 + 1 := by simp [s2]
  generalize w3.alloc (.cells #[.int .u32 0] 22) = w4 at *
  have b4 := heap_alloc_at w4 (.cells #[.int .i64 d] 3) _ s3.symm
  have n4 : New w4 (w4.alloc (.cells #[.int .i64 d] 3)) := by go_grown
  have s4 : (w4.alloc (.cells #[.int .i64 d] 3)).heap.size = w.heap.size + 5 := by simp [s3]
  generalize w4.alloc (.cells #[.int .i64 d] 3) = w5 at *
  have b3 := (n4.block _ (lt_of_heap b3)).trans b3
  have n34 := n3.trans (n4.mono n3.size)
  have b2 := (n34.block _ (lt_of_heap b2)).trans b2
  have n234 := n2.trans (n34.mono n2.size)
  have b1 := (n234.block _ (lt_of_heap b1)).trans b1
  have n14 := n1.trans (n234.mono n1.size)
  have b0 := (n14.block _ (lt_of_heap b0)).trans b0
  have nw := n0.trans (n14.mono n0.size)
  clear n0 n1 n2 n3 n4 n34 n234 n14 s0 s1 s2 s3
  refine wpIn_rangeFunc_w (xs := lanesOf d) (own := fun _ => False) (w0 := w5) rfl (by decide) (gf := 84) (lb := #[.pointer (some ⟨w.heap.size + 1 + 1 + 1 + 1, 0, none⟩)]) rfl trivial (enters_of Try.func84 (by kernel_rfl) rfl)
    (encs := laneE) (lanes1_stops d hd _ _ _ (by omega) (cell_of_heap b4 rfl)) (fun k h => h.elim) (Below.refl _ _) (fun _ => rfl)
    (fun pre W => New w W ∧ W.heap[w.heap.size]? = some (.cells #[.int .i64 op] 3) ∧ W.heap[w.heap.size + 1]? = some (.cells #[.int .u32 a] 22) ∧ W.heap[w.heap.size + 1 + 1]? = some (.cells #[.int .u32 b] 22) ∧ W.heap[w.heap.size + 1 + 1 + 1]? = some (.cells #[.int .u32 (pre.foldl (laneSt op a b) 0)] 22))
    (fun _ _ _ => False)
    (fun pre x a' W => a' = ({ tmps := #[.int .i64 op, .int .i64 d, .int .u32 a, .int .u32 b, .pointer (some ⟨w.heap.size, 0, none⟩), undef, .pointer (some ⟨w.heap.size + 1, 0, none⟩), .pointer (some ⟨w.heap.size + 1 + 1, 0, none⟩), .int .u32 0, .pointer (some ⟨w.heap.size + 1 + 1 + 1, 0, none⟩), .int .i64 x.1, .int .u32 x.2, undef, undef, .int .i64 d, .func (.func 84) #[] #[.pointer (some ⟨w.heap.size + 1 + 1 + 1 + 1, 0, none⟩)], .int .i64 x.1, .int .u32 x.2, undef, undef, undef, undef, undef, undef, undef, undef, undef, undef, undef, undef, undef, undef, undef, undef, undef, undef, undef, undef, undef, undef, undef, undef, undef, undef, undef, undef, undef, undef, undef, undef, undef], defers := [] } : Act) ∧ (New w W ∧ W.heap[w.heap.size]? = some (.cells #[.int .i64 op] 3) ∧ W.heap[w.heap.size + 1]? = some (.cells #[.int .u32 a] 22) ∧ W.heap[w.heap.size + 1 + 1]? = some (.cells #[.int .u32 b] 22) ∧ W.heap[w.heap.size + 1 + 1 + 1]? = some (.cells #[.int .u32 (pre.foldl (laneSt op a b) 0)] 22)))
    ?hI (fun c => abidesW_pure) ?hIA ⟨nw, b0, b1, b2, b3⟩ ?assign ?body ?done ?stop
  case hI => exact abidesW_and (abidesW_below (Nat.le_refl _) (by rintro r (h | h | h) <;> first | exact h.elim | omega)) (abidesW_and (abidesW_heap (by rintro r (h | h | h) <;> first | exact h.elim | omega)) (abidesW_and (abidesW_heap (by rintro r (h | h | h) <;> first | exact h.elim | omega)) (abidesW_and (abidesW_heap (by rintro r (h | h | h) <;> first | exact h.elim | omega)) (abidesW_heap (by rintro r (h | h | h) <;> first | exact h.elim | omega)))))
  case hIA => exact fun pre x a' => abidesW_and abidesW_pure (abidesW_and (abidesW_below (Nat.le_refl _) (by rintro r (h | h | h) <;> first | exact h.elim | omega)) (abidesW_and (abidesW_heap (by rintro r (h | h | h) <;> first | exact h.elim | omega)) (abidesW_and (abidesW_heap (by rintro r (h | h | h) <;> first | exact h.elim | omega)) (abidesW_and (abidesW_heap (by rintro r (h | h | h) <;> first | exact h.elim | omega)) (abidesW_heap (by rintro r (h | h | h) <;> first | exact h.elim | omega))))))
  case assign =>
    intro l pre x rest W K hxs hi hlt hK
    unfold laneE
    gi_wp2
    exact hK _ _ (fun _ _ => rfl) ⟨rfl, hi⟩
  case body =>
    rintro l pre x rest a' W hxs ⟨rfl, hN, c0, c1, c2, c3⟩ hlt
    have HN := Lib.hid hN
    have q0 := cell_of_heap c0 (i := 0) rfl
    have q1 := cell_of_heap c1 (i := 0) rfl
    have q2 := cell_of_heap c2 (i := 0) rfl
    have q3 := cell_of_heap c3 (i := 0) rfl
    have f3 : W.frozen? ⟨w.heap.size + 1 + 1 + 1, 0, none⟩ = false := frozen_of_heap c3
    have hx := (lanesOf_mem d hd x (by rw [hxs]; simp)).1
    have hx0 := hx.1
    have ha0 := ha.1
    have hb0 := hb.1
    gi_wp2
    refine wpIn_region_quiet_round (noDefer_of (by kernel_rfl)) (fun ⟨_, _, h⟩ => h) (by kernel_rfl) (by kernel_rfl) ?_
    repeat (any_goals (first | go_big_quiet_step (fail) | quiet_step (fail)))
    all_goals (refine wpQuiet_nil ?_; intro _ hw'; obtain ⟨nq, hw''⟩ := hw'; subst hw'')
    have d0 : (W.drewN nq).heap[w.heap.size]? = _ := c0
    have d1 : (W.drewN nq).heap[w.heap.size + 1]? = _ := c1
    have d2 : (W.drewN nq).heap[w.heap.size + 1 + 1]? = _ := c2
    have d3 : (W.drewN nq).heap[w.heap.size + 1 + 1 + 1]? = _ := c3
    have hk2 : KeepsOn (fun r => False ∨ r = w5.heap.size ∨ r = w5.heap.size + 1) W (W.drewN nq) := fun _ _ => rfl
    have HN2 := Lib.hid (show New w (W.drewN nq) from below_drewN HN.out nq)
    have HK2 := Lib.hid hk2
    clear q0 q1 q2 q3 f3 c0 c1 c2 c3 hk2
    generalize W.drewN nq = W2 at *
    have q0 := cell_of_heap d0 (i := 0) rfl
    have q3 := cell_of_heap d3 (i := 0) rfl
    have f3 : W2.frozen? ⟨w.heap.size + 1 + 1 + 1, 0, none⟩ = false := frozen_of_heap d3
    rcases hop with rfl | rfl | rfl
    · gi_wp2
      refine wpIn_region_still_round 7 (noDefer_of (by kernel_rfl)) (fun ⟨_, _, h⟩ => h) (by kernel_rfl) (by kernel_rfl) ?_
      simp only [List.take_succ_cons, List.take_zero, List.drop_succ_cons, List.drop_zero]
      repeat still_step
      try refine wpStill_nil ?_
      change wpList _ _ _ _ _ W2.drew
      have g0 : W2.drew.heap[w.heap.size]? = _ := d0
      have g1 : W2.drew.heap[w.heap.size + 1]? = _ := d1
      have g2 : W2.drew.heap[w.heap.size + 1 + 1]? = _ := d2
      have g3 : W2.drew.heap[w.heap.size + 1 + 1 + 1]? = _ := d3
      have HN3 := Lib.hid (show New w W2.drew from HN2.out.drew)
      have HK3 : Hid (KeepsOn (fun r => False ∨ r = w5.heap.size ∨ r = w5.heap.size + 1) W W2.drew) := HK2
      clear d0 d1 d2 d3 q0 q3 f3 HN2 HK2
      generalize W2.drew = W3 at *
      have q3 := cell_of_heap g3 (i := 0) rfl
      have f3 : W3.frozen? ⟨w.heap.size + 1 + 1 + 1, 0, none⟩ = false := frozen_of_heap g3
      have G := fun u v => lane_end (f := fun (_ : Unit) z => z) (B := w5.heap.size) (u := u) (by omega) HK3.out HN3.out g0 g1 g2 g3 v
      have GG := Lib.hid G
      clear G g0 g1 g2 g3
      go_wp2
      refine GG.out _ _ ?_
      rw [List.foldl_append]
      show _ = laneSt _ a b _ x
      unfold laneSt laneOp
      rfl
    · gi_wp2
      refine wpIn_region_still_round 7 (noDefer_of (by kernel_rfl)) (fun ⟨_, _, h⟩ => h) (by kernel_rfl) (by kernel_rfl) ?_
      simp only [List.take_succ_cons, List.take_zero, List.drop_succ_cons, List.drop_zero]
      repeat still_step
      try refine wpStill_nil ?_
      change wpList _ _ _ _ _ W2.drew
      have g0 : W2.drew.heap[w.heap.size]? = _ := d0
      have g1 : W2.drew.heap[w.heap.size + 1]? = _ := d1
      have g2 : W2.drew.heap[w.heap.size + 1 + 1]? = _ := d2
      have g3 : W2.drew.heap[w.heap.size + 1 + 1 + 1]? = _ := d3
      have HN3 := Lib.hid (show New w W2.drew from HN2.out.drew)
      have HK3 : Hid (KeepsOn (fun r => False ∨ r = w5.heap.size ∨ r = w5.heap.size + 1) W W2.drew) := HK2
      clear d0 d1 d2 d3 q0 q3 f3 HN2 HK2
      generalize W2.drew = W3 at *
      have q3 := cell_of_heap g3 (i := 0) rfl
      have f3 : W3.frozen? ⟨w.heap.size + 1 + 1 + 1, 0, none⟩ = false := frozen_of_heap g3
      have G := fun u v => lane_end (f := fun (_ : Unit) z => z) (B := w5.heap.size) (u := u) (by omega) HK3.out HN3.out g0 g1 g2 g3 v
      have GG := Lib.hid G
      clear G g0 g1 g2 g3
      go_wp2
      refine GG.out _ _ ?_
      rw [List.foldl_append]
      show _ = laneSt _ a b _ x
      unfold laneSt laneOp
      rfl
    · gi_wp2
      all_goals
        refine wpIn_region_still_round 7 (noDefer_of (by kernel_rfl)) (fun ⟨_, _, h⟩ => h) (by kernel_rfl) (by kernel_rfl) ?_
        simp only [List.take_succ_cons, List.take_zero, List.drop_succ_cons, List.drop_zero]
        repeat still_step
        try refine wpStill_nil ?_
        change wpList _ _ _ _ _ W2.drew
        have g0 : W2.drew.heap[w.heap.size]? = _ := d0
        have g1 : W2.drew.heap[w.heap.size + 1]? = _ := d1
        have g2 : W2.drew.heap[w.heap.size + 1 + 1]? = _ := d2
        have g3 : W2.drew.heap[w.heap.size + 1 + 1 + 1]? = _ := d3
        have HN3 := Lib.hid (show New w W2.drew from HN2.out.drew)
        have HK3 : Hid (KeepsOn (fun r => False ∨ r = w5.heap.size ∨ r = w5.heap.size + 1) W W2.drew) := HK2
        clear d0 d1 d2 d3 q0 q3 f3 HN2 HK2
        generalize W2.drew = W3 at *
        have q3 := cell_of_heap g3 (i := 0) rfl
        have f3 : W3.frozen? ⟨w.heap.size + 1 + 1 + 1, 0, none⟩ = false := frozen_of_heap g3
        have G := fun u v => lane_end (f := fun (_ : Unit) z => z) (B := w5.heap.size) (u := u) (by omega) HK3.out HN3.out g0 g1 g2 g3 v
        have GG := Lib.hid G
        clear G g0 g1 g2 g3
        go_wp2
        refine GG.out _ _ ?_
        rw [List.foldl_append]
        show _ = laneSt _ a b _ x
        generalize List.foldl (laneSt 53 a b) 0 pre = o
        show _ = bits .or .u32 o (bits .and .u32 (laneOp 53 _ _ _) _ * _ % 4294967296)
        rw [laneOp53]
        split
        · rename_i hq
          first | rfl | exact absurd ((beq_iff_eq.2 hq).symm.trans (by assumption)) (by decide)
        · rename_i hq
          first | rfl | exact absurd (beq_iff_eq.1 (by assumption)) hq
  case done =>
    rintro W ⟨hN, c0, c1, c2, c3⟩ hk
    have q3 := cell_of_heap c3 (i := 0) rfl
    have HN := Lib.hid hN
    have HK := Lib.hid hk
    clear hN c0 c1 c2 c3 hk
    gi_wp2
    refine ⟨by simp, .inl ⟨_, _, rfl, run_takeDeferred HK.out, ?_⟩⟩
    refine ⟨_, results_tmp rfl _ _ _, rfl, ?_⟩
    exact new_only HN.out (only_putObj _ _ _) (by omega)
  case stop =>
    rintro c pre W h
    exact h.elim
end Go.Proofs.Ytpooghnemlnopaa
