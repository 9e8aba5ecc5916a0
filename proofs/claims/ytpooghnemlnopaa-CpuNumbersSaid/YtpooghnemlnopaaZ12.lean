/- Parts of the proof: KitRound, CLanes2, CCpu, CVec1, CLanes3. -/
import Derived.Test.YtpooghnemlnopaaZ11
import Derived.Deep.QuietTactic
import Derived.BigQuiet
import Derived.StillTailTactics
import Derived.Test.YtpooghnemlnopaaZ9
import Derived.Shelf.Abstract
import Derived.Sort.QuietIn
import Derived.Test.YtpooghnemlnopaaRows
import Derived.Test.YtpooghnemlnopaaZ1
import Derived.Test.YtpooghnemlnopaaZ10
/- Regions in a round's frame: what is shown of a region that draws its order outside of rounds holds in a round. -/
namespace Go.Cd
open Go Go.RowKit
variable {P : Program} {n l : Nat}

theorem rowsIn_wide {row : String} {args : Array Value} {w : World} {R : Value → World → Prop} (h : Rows P row args w R) : RowsIn Fence.wide n P row args w R :=
  fun c cs _ => let ⟨v, w', r, s⟩ := h c cs; ⟨v, w', r, stepsIn_wide.2 s⟩
theorem rowsIn_inRound {F : Fence} {row : String} {args : Array Value} {w : World} {R : Value → World → Prop} (h : RowsIn F n P row args w R) : RowsIn (F.inRound l) n P row args w R := h
theorem upon_round {o : Oper} {a : Act} {next next' : Act → World → Prop} {Q : Exit → Act → World → Prop} (hn : ∀ a w, next a w → next' a w) : ∀ r, o.upon P a next Q r → o.uponIn (Fence.wide.inRound l) n P a next' Q r
  | .ok (.value v) w', h => hn _ _ h
  | .ok .skip w', h => hn _ _ h
  | .ok (.defer d) w', h => hn _ _ h
  | .ok (.enter f args) w', h => ⟨fun q => by simp [Fence.wide] at q, CallsIn.inRound l (callsIn_wide.2 (Calls.mono h fun e w'' hh => by
      cases e with
      | returned v => exact hn _ _ hh
      | panicked chain => exact hh
      | outgrown => exact hh))⟩
  | .ok (.row row args) w', h => ⟨fun q => by simp [Fence.wide] at q, rowsIn_inRound (rowsIn_wide (h.mono fun v w'' hh => hn _ _ hh))⟩
  | .halt (.panic v) w', h => h
def noDefer (ops : Array Oper) : Prop := ∀ (i : Nat) (o : Oper), ops[i]? = some o → ∀ c, o.op ≠ Op.defer c
theorem wpOps_round {ops : Array Oper} (hd : noDefer ops) {Q : Exit → Act → World → Prop} (hL : ¬ LetsOut Q) : ∀ (L : List Nat) (a : Act) (w : World), wpOps P ops Q L a w → wpOpsIn (Fence.wide.inRound l) n P ops Q L a w
  | [], a, w, h => h
  | i :: rest, a, w, h => by
    simp only [wpOps] at h
    simp only [wpOpsIn]
    cases ho : ops[i]? with
    | none =>
      simp only [ho] at h ⊢
      exact wpOps_round hd hL rest a w h
    | some o =>
      simp only [ho] at h ⊢
      split
      · rename_i hw
        rw [if_pos hw] at h
        refine ⟨fun f _ => trivial, ?_⟩
        have e : Oper.semAt (Fence.wide.inRound l).round a.eval o = execOp a.eval o := Oper.semAt_some l a.eval o (hd i o ho)
        rw [e]
        exact upon_round (fun a' w' hh => wpOps_round hd hL rest a' w' hh) _ (h.resolve_right fun q => hL q.2)
      · rename_i hw
        rw [if_neg hw] at h
        exact ⟨fun f _ => trivial, wpOps_round hd hL rest _ w h⟩
theorem wpIn_region_any_round {id : Nat} {ops : Array Oper} {Q : Exit → Act → World → Prop} {a : Act} {w : World} (hd : noDefer ops) (hL : ¬ LetsOut Q) (hm : P.follows .mixedOrders = true)
    (h : wpAny P .any ops Q ops.size (Array.replicate ops.size false) a { w with drawn := w.drawn + 1 }) : (Code.region id ops true).wpIn (Fence.wide.inRound l) n P Q a w :=
  wpIn_region_draw fun t => by
    simp only [Region.schedule, hm, Bool.true_or, if_true]
    exact wpOps_round hd hL _ a _ (wpAny_sound ops.size t _ a _ h)
theorem wpIn_region_quiet_round {id : Nat} {Q : Exit → Act → World → Prop} {a : Act} {w : World} {lo : List Oper} (hd : noDefer lo.toArray) (hL : ¬ LetsOut Q) (hm : P.follows .mixedOrders = true) (hB : Region.lexB .any lo.toArray = true)
    (h : wpQuiet P lo.toArray (fun w' => ∃ n, w' = w.drewN n) (fun a' => ∀ w', (∃ n, w' = w.drewN n) → Q .normal a' w') lo a) : (Code.region id lo.toArray true).wpIn (Fence.wide.inRound l) n P Q a w := by
  simp only [Region.lexB, Bool.and_eq_true] at hB
  refine wpIn_region_any_round hd hL hm (wpAny_of_quiet (C := fun w' => ∃ n, w' = w.drewN n) (Q := fun a' => ∀ w', (∃ n, w' = w.drewN n) → Q .normal a' w') (fun _ w' hw' h => h w' hw') _ _ _ _ ⟨1, rfl⟩ ?_)
  have := wpAnyQ_lex (C := fun w' => ∃ n, w' = w.drewN n) (md := .any) hB.1 lo 0 (Array.replicate lo.toArray.size false) a (by simp) (by simpa using hB.2) h
  simpa using this
def noDeferB (ops : Array Oper) : Bool := ops.all fun o => match o.op with | .defer _ => false | _ => true
theorem noDefer_of {ops : Array Oper} (h : noDeferB ops = true) : noDefer ops := fun i o ho c hc => by
  have := Array.all_eq_true_iff_forall_mem.1 h o (Array.mem_of_getElem? ho)
  rw [hc] at this
  cases this
theorem wpIn_region_still_round {id : Nat} {Q : Exit → Act → World → Prop} {a : Act} {w : World} {lo : List Oper} (k : Nat) (hd : noDefer lo.toArray) (hL : ¬ LetsOut Q) (hm : P.follows .mixedOrders = true) (hB : Region.lexTailB .any lo.toArray k = true)
    (h : wpStill P lo.toArray { w with drawn := w.drawn + 1 } (fun a' => wpList P lo.toArray Q (lo.drop k) a' { w with drawn := w.drawn + 1 }) (lo.take k) a) : (Code.region id lo.toArray true).wpIn (Fence.wide.inRound l) n P Q a w := by
  simp only [Region.lexTailB, Bool.and_eq_true, decide_eq_true_eq] at hB
  obtain ⟨⟨⟨⟨hsel, hn⟩, hs⟩, hc⟩, hlex⟩ := hB
  have hn' : k < lo.length := by simpa using hn
  have htl : (lo.take k).length = k := by simp; omega
  have hdl : (lo.drop k).length = lo.toArray.size - k := by simp
  have inv0 : HeadInv .any lo.toArray k (Array.replicate lo.toArray.size false) :=
    ⟨by simp, fun j oj _ hl => (by rw [getD_replicate_false] at hl; cases hl), fun t _ ht => getD_in (by simpa using ht) (getD_replicate_false _ _)⟩
  have H := wpAnyL_lex (md := .any) (g := lo.toArray.size - k) hsel hs hc hn (lo.take k) 0 _ a (fun j hj => by
    have hj' : j < k := by rw [htl] at hj; exact hj
    simp [hj']) (by simpa using htl) inv0 (by rw [htl]; exact hlex) h
  refine wpIn_region_any_round hd hL hm ?_
  have := wpAny_of_head (Q' := Q) (g := lo.toArray.size - k) (fun listed a' hL => by
    have := wpAny_of_seq (md := .any) (Q' := Q) (lo.drop k) k listed a' { w with drawn := w.drawn + 1 } (fun j => by simp [List.getElem?_drop]) (by rw [hdl]; exact hL.1) hL.2
    rwa [hdl] at this) _ _ _ H
  rw [htl, show k + (lo.toArray.size - k) = lo.toArray.size by omega] at this
  exact this
end Go.Cd
/- The contract of cpu.byLanes. -/
namespace Go.Proofs.Ytpooghnemlnopaa
open Go Go.RowKit Go.Cd
set_option linter.unusedVariables false
attribute [local go_sem] Oper.semAt_some

theorem lanes_c (d : Int) (w : World) : Calls Try.prog 69 #[.int .i64 d] w fun e w' => e = .returned (.func (.func 84) #[] #[.pointer (some ⟨w.heap.size, 0, none⟩)]) ∧ w' = w.alloc (.cells #[.int .i64 d] 3) := by
  have hmf : ∀ (fn : Fn) (first cap : Array Value) (w : World), (Instr.makeFunc fn first cap).run Try.prog w = .ok (.func fn first cap) w := fun _ _ _ _ => rfl
  go_enter Try.func69, Try.ntmps69
  go_wp2
  go_ret
  exact ⟨rfl, rfl⟩
def laneOp (op x y m : Int) : Int := if op = 51 then (x + y) % 4294967296 else if op = 52 then (x - y) % 4294967296 else if x = y then m else 0
theorem laneOp53 (x y m : Int) : laneOp 53 x y m = if x = y then m else 0 := rfl
def laneSt (op a b out : Int) (p : Int × Int) : Int :=
  bits .or .u32 out (bits .and .u32 (laneOp op (bits .and .u32 (a / 2 ^ p.1.toNat) p.2) (bits .and .u32 (b / 2 ^ p.1.toNat) p.2) p.2) p.2 * 2 ^ p.1.toNat % 4294967296)
def lanesOf (d : Int) : List (Int × Int) := if d = 0 then lanesL 8 255 4 else if d = 1 then lanesL 16 65535 2 else lanesL 32 4294967295 1
def byLanesF (op d a b : Int) : Int := (lanesOf d).foldl (laneSt op a b) 0
theorem lanes1_stops (d : Int) (hd : d = 0 ∨ d = 1 ∨ d = 2) (n : Nat) (bd : Nat) (w : World) (hbd : bd < w.heap.size) (hc : w.cell? ⟨bd, 0, none⟩ = some (.int .i64 d)) :
    SeqW Fence.wide n Try.prog 84 #[.pointer (some ⟨bd, 0, none⟩)] laneE (lanesOf d) (fun _ => False) w := by
  rcases hd with rfl | rfl | rfl
  · exact lanes1_0 n bd w hbd hc
  · exact lanes1_1 n bd w hbd hc
  · exact lanes1_2 n bd w hbd hc
theorem lanesOf_mem (d : Int) (hd : d = 0 ∨ d = 1 ∨ d = 2) : ∀ x ∈ lanesOf d, (0 ≤ x.1 ∧ x.1 < 32) ∧ 0 ≤ x.2 ∧ x.2 < 4294967296 := by
  rcases hd with rfl | rfl | rfl <;> decide
/-- How a round of byLanes ends. -/
theorem lane_end {α : Type} {w W W3 : World} {B : Nat} (hB : w.heap.size + 1 + 1 + 1 < B) {ob0 ob1 ob2 : Obj} {ty : TypeId} {f : α → Int → Int} {out u : Int}
    (hk : KeepsOn (fun r => False ∨ r = B ∨ r = B + 1) W W3) (hN : New w W3) (d0 : W3.heap[w.heap.size]? = some ob0) (d1 : W3.heap[w.heap.size + 1]? = some ob1) (d2 : W3.heap[w.heap.size + 1 + 1]? = some ob2)
    (d3 : W3.heap[w.heap.size + 1 + 1 + 1]? = some (.cells #[.int .u32 out] ty)) (v : Int) (hv : v = u) :
    KeepsOn (fun r => False ∨ r = B ∨ r = B + 1) W (W3.setCell ⟨w.heap.size + 1 + 1 + 1, 0, none⟩ (.int .u32 v)) ∧ (New w (W3.setCell ⟨w.heap.size + 1 + 1 + 1, 0, none⟩ (.int .u32 v)) ∧ (W3.setCell ⟨w.heap.size + 1 + 1 + 1, 0, none⟩ (.int .u32 v)).heap[w.heap.size]? = some ob0 ∧ (W3.setCell ⟨w.heap.size + 1 + 1 + 1, 0, none⟩ (.int .u32 v)).heap[w.heap.size + 1]? = some ob1 ∧ (W3.setCell ⟨w.heap.size + 1 + 1 + 1, 0, none⟩ (.int .u32 v)).heap[w.heap.size + 1 + 1]? = some ob2 ∧
      (W3.setCell ⟨w.heap.size + 1 + 1 + 1, 0, none⟩ (.int .u32 v)).heap[w.heap.size + 1 + 1 + 1]? = some (.cells #[.int .u32 u] ty)) := by
  have ho := only_setCell W3 (w.heap.size + 1 + 1 + 1) 0 (.int .u32 v)
  subst hv
  refine ⟨fun k hk' => ?_, new_only hN ho (by omega), (ho.block _ (by omega)).trans d0, (ho.block _ (by omega)).trans d1, (ho.block _ (by omega)).trans d2, setCell_at d3 _⟩
  have hne : k ≠ w.heap.size + 1 + 1 + 1 := by rcases hk' with h | h | h <;> first | exact h.elim | omega
  exact (ho.block k hne).trans (hk k hk')
set_option maxRecDepth 100000 in
set_option maxHeartbeats 2000000 in
theorem byLanes_c (op d a b : Int) (w : World) (hop : op = 51 ∨ op = 52 ∨ op = 53) (hd : d = 0 ∨ d = 1 ∨ d = 2) (ha : 0 ≤ a ∧ a < 4294967296) (hb : 0 ≤ b ∧ b < 4294967296) :
    Calls Try.prog 36 #[.int .i64 op, .int .i64 d, .int .u32 a, .int .u32 b] w fun e w' => e = .returned (.int .u32 (byLanesF op d a b)) ∧ New w w' := by
  refine (callsIn_wide (n := 3)).1 ?_
  refine callsIn_of_wp_marks Try.func36 rfl trivial ?_ rfl
  simp only [Try.ntmps36, List.size_toArray, List.length_cons, List.length_nil, Nat.reduceAdd, Nat.reduceSub, Array.replicate_succ, Array.replicate_zero, List.push_toArray, List.append_toArray, List.nil_append, List.cons_append]
  gi_wp2_with (refine ⟨trivial, ?_⟩; gi_at_call 69; refine (callsIn_wide.2 (lanes_c _ _)).mono ?_; rintro e w' ⟨rfl, rfl⟩)
  have b0 := heap_alloc_at w (.cells #[.int .i64 op] 3) _ rfl
  have n0 : New w (w.alloc (.cells #[.int .i64 op] 3)) := by go_grown
  have s0 : (w.alloc (.cells #[.int .i64 op] 3)).heap.size = w.heap.size + 1 := by simp
  generalize w.alloc (.cells #[.int .i64 op] 3) = w1 at *
  have b1 := heap_alloc_at w1 (.cells #[.int .u32 a] 22) _ s0.symm
  have n1 : New w1 (w1.alloc (.cells #[.int .u32 a] 22)) := by go_grown
  have s1 : (w1.alloc (.cells #[.int .u32 a] 22)).heap.size = w.heap.size + 1 + 1 := by simp [s0]
  generalize w1.alloc (.cells #[.int .u32 a] 22) = w2 at *
  have b2 := heap_alloc_at w2 (.cells #[.int .u32 b] 22) _ s1.symm
  have n2 : New w2 (w2.alloc (.cells #[.int .u32 b] 22)) := by go_grown
  have s2 : (w2.alloc (.cells #[.int .u32 b] 22)).heap.size = w.heap.size + 1 + 1 + 1 := by simp [s1]
  generalize w2.alloc (.cells #[.int .u32 b] 22) = w3 at *
  have b3 := heap_alloc_at w3 (.cells #[.int .u32 0] 22) _ s2.symm
  have n3 : New w3 (w3.alloc (.cells #[.int .u32 0] 22)) := by go_grown
  have s3 : (w3.alloc (.cells #[.int .u32 0] 22)).heap.size = w.heap.size + 1 + 1 + 1 + 1 := by simp [s2]
  generalize w3.alloc (.cells #[.int .u32 0] 22) = w4 at *
  have b4 := heap_alloc_at w4 (.cells #[.int .i64 d] 3) _ s3.symm
  have n4 : New w4 (w4.alloc (.cells #[.int .i64 d] 3)) := by go_grown
  have s4 : (w4.alloc (.cells #[.int .i64 d] 3)).heap.size = w.heap.size + 5 := by simp [s3]
  generalize w4.alloc (.cells #[.int .i64 d] 3) = w5 at *
  have b3 := (n4.block _ (lt_of_heap b3)).trans b3
  have n34 := n3.trans (n4.mono n3.size)
  have b2 := (n34.block _ (lt_of_heap b2)).trans b2
  have n234 := n2.trans (n34.mono n2.size)
  have b1 := (n234.block _ (lt_of_heap b1)).trans b1
  have n14 := n1.trans (n234.mono n1.size)
  have b0 := (n14.block _ (lt_of_heap b0)).trans b0
  have nw := n0.trans (n14.mono n0.size)
  clear n0 n1 n2 n3 n4 n34 n234 n14 s0 s1 s2 s3
  refine wpIn_rangeFunc_w (xs := lanesOf d) (own := fun _ => False) (w0 := w5) rfl (by decide) (gf := 84) (lb := #[.pointer (some ⟨w.heap.size + 1 + 1 + 1 + 1, 0, none⟩)]) rfl trivial (enters_of Try.func84 (by kernel_rfl) rfl)
    (encs := laneE) (lanes1_stops d hd _ _ _ (by omega) (cell_of_heap b4 rfl)) (fun k h => h.elim) (Below.refl _ _) (fun _ => rfl)
    (fun pre W => New w W ∧ W.heap[w.heap.size]? = some (.cells #[.int .i64 op] 3) ∧ W.heap[w.heap.size + 1]? = some (.cells #[.int .u32 a] 22) ∧ W.heap[w.heap.size + 1 + 1]? = some (.cells #[.int .u32 b] 22) ∧ W.heap[w.heap.size + 1 + 1 + 1]? = some (.cells #[.int .u32 (pre.foldl (laneSt op a b) 0)] 22))
    (fun _ _ _ => False)
    (fun pre x a' W => a' = ({ tmps := #[.int .i64 op, .int .i64 d, .int .u32 a, .int .u32 b, .pointer (some ⟨w.heap.size, 0, none⟩), undef, .pointer (some ⟨w.heap.size + 1, 0, none⟩), .pointer (some ⟨w.heap.size + 1 + 1, 0, none⟩), .int .u32 0, .pointer (some ⟨w.heap.size + 1 + 1 + 1, 0, none⟩), .int .i64 x.1, .int .u32 x.2, undef, undef, .int .i64 d, .func (.func 84) #[] #[.pointer (some ⟨w.heap.size + 1 + 1 + 1 + 1, 0, none⟩)], .int .i64 x.1, .int .u32 x.2, undef, undef, undef, undef, undef, undef, undef, undef, undef, undef, undef, undef, undef, undef, undef, undef, undef, undef, undef, undef, undef, undef, undef, undef, undef, undef, undef, undef, undef, undef, undef, undef, undef], defers := [] } : Act) ∧ (New w W ∧ W.heap[w.heap.size]? = some (.cells #[.int .i64 op] 3) ∧ W.heap[w.heap.size + 1]? = some (.cells #[.int .u32 a] 22) ∧ W.heap[w.heap.size + 1 + 1]? = some (.cells #[.int .u32 b] 22) ∧ W.heap[w.heap.size + 1 + 1 + 1]? = some (.cells #[.int .u32 (pre.foldl (laneSt op a b) 0)] 22)))
    ?hI (fun c => abidesW_pure) ?hIA ⟨nw, b0, b1, b2, b3⟩ ?assign ?body ?done ?stop
  case hI => exact abidesW_and (abidesW_below (Nat.le_refl _) (by rintro r (h | h | h) <;> first | exact h.elim | omega)) (abidesW_and (abidesW_heap (by rintro r (h | h | h) <;> first | exact h.elim | omega)) (abidesW_and (abidesW_heap (by rintro r (h | h | h) <;> first | exact h.elim | omega)) (abidesW_and (abidesW_heap (by rintro r (h | h | h) <;> first | exact h.elim | omega)) (abidesW_heap (by rintro r (h | h | h) <;> first | exact h.elim | omega)))))
  case hIA => exact fun pre x a' => abidesW_and abidesW_pure (abidesW_and (abidesW_below (Nat.le_refl _) (by rintro r (h | h | h) <;> first | exact h.elim | omega)) (abidesW_and (abidesW_heap (by rintro r (h | h | h) <;> first | exact h.elim | omega)) (abidesW_and (abidesW_heap (by rintro r (h | h | h) <;> first | exact h.elim | omega)) (abidesW_and (abidesW_heap (by rintro r (h | h | h) <;> first | exact h.elim | omega)) (abidesW_heap (by rintro r (h | h | h) <;> first | exact h.elim | omega))))))
  case assign =>
    intro l pre x rest W K hxs hi hlt hK
    unfold laneE
    gi_wp2
    exact hK _ _ (fun _ _ => rfl) ⟨rfl, hi⟩
  case body =>
    rintro l pre x rest a' W hxs ⟨rfl, hN, c0, c1, c2, c3⟩ hlt
    have HN := Lib.hid hN
    have q0 := cell_of_heap c0 (i := 0) rfl
    have q1 := cell_of_heap c1 (i := 0) rfl
    have q2 := cell_of_heap c2 (i := 0) rfl
    have q3 := cell_of_heap c3 (i := 0) rfl
    have f3 : W.frozen? ⟨w.heap.size + 1 + 1 + 1, 0, none⟩ = false := frozen_of_heap c3
    have hx := (lanesOf_mem d hd x (by rw [hxs]; simp)).1
    have hx0 := hx.1
    have ha0 := ha.1
    have hb0 := hb.1
    gi_wp2
    refine wpIn_region_quiet_round (noDefer_of (by kernel_rfl)) (fun ⟨_, _, h⟩ => h) (by kernel_rfl) (by kernel_rfl) ?_
    repeat (any_goals (first | go_big_quiet_step (fail) | quiet_step (fail)))
    all_goals (refine wpQuiet_nil ?_; intro _ hw'; obtain ⟨nq, hw''⟩ := hw'; subst hw'')
    have d0 : (W.drewN nq).heap[w.heap.size]? = _ := c0
    have d1 : (W.drewN nq).heap[w.heap.size + 1]? = _ := c1
    have d2 : (W.drewN nq).heap[w.heap.size + 1 + 1]? = _ := c2
    have d3 : (W.drewN nq).heap[w.heap.size + 1 + 1 + 1]? = _ := c3
    have hk2 : KeepsOn (fun r => False ∨ r = w5.heap.size ∨ r = w5.heap.size + 1) W (W.drewN nq) := fun _ _ => rfl
    have HN2 := Lib.hid (show New w (W.drewN nq) from below_drewN HN.out nq)
    have HK2 := Lib.hid hk2
    clear q0 q1 q2 q3 f3 c0 c1 c2 c3 hk2
    generalize W.drewN nq = W2 at *
    have q0 := cell_of_heap d0 (i := 0) rfl
    have q3 := cell_of_heap d3 (i := 0) rfl
    have f3 : W2.frozen? ⟨w.heap.size + 1 + 1 + 1, 0, none⟩ = false := frozen_of_heap d3
    rcases hop with rfl | rfl | rfl
    · gi_wp2
      refine wpIn_region_still_round 7 (noDefer_of (by kernel_rfl)) (fun ⟨_, _, h⟩ => h) (by kernel_rfl) (by kernel_rfl) ?_
      simp only [List.take_succ_cons, List.take_zero, List.drop_succ_cons, List.drop_zero]
      repeat still_step
      try refine wpStill_nil ?_
      change wpList _ _ _ _ _ W2.drew
      have g0 : W2.drew.heap[w.heap.size]? = _ := d0
      have g1 : W2.drew.heap[w.heap.size + 1]? = _ := d1
      have g2 : W2.drew.heap[w.heap.size + 1 + 1]? = _ := d2
      have g3 : W2.drew.heap[w.heap.size + 1 + 1 + 1]? = _ := d3
      have HN3 := Lib.hid (show New w W2.drew from HN2.out.drew)
      have HK3 : Hid (KeepsOn (fun r => False ∨ r = w5.heap.size ∨ r = w5.heap.size + 1) W W2.drew) := HK2
      clear d0 d1 d2 d3 q0 q3 f3 HN2 HK2
      generalize W2.drew = W3 at *
      have q3 := cell_of_heap g3 (i := 0) rfl
      have f3 : W3.frozen? ⟨w.heap.size + 1 + 1 + 1, 0, none⟩ = false := frozen_of_heap g3
      have G := fun u v => lane_end (f := fun (_ : Unit) z => z) (B := w5.heap.size) (u := u) (by omega) HK3.out HN3.out g0 g1 g2 g3 v
      have GG := Lib.hid G
      clear G g0 g1 g2 g3
      go_wp2
      refine GG.out _ _ ?_
      rw [List.foldl_append]
      show _ = laneSt _ a b _ x
      unfold laneSt laneOp
      rfl
    · gi_wp2
      refine wpIn_region_still_round 7 (noDefer_of (by kernel_rfl)) (fun ⟨_, _, h⟩ => h) (by kernel_rfl) (by kernel_rfl) ?_
      simp only [List.take_succ_cons, List.take_zero, List.drop_succ_cons, List.drop_zero]
      repeat still_step
      try refine wpStill_nil ?_
      change wpList _ _ _ _ _ W2.drew
      have g0 : W2.drew.heap[w.heap.size]? = _ := d0
      have g1 : W2.drew.heap[w.heap.size + 1]? = _ := d1
      have g2 : W2.drew.heap[w.heap.size + 1 + 1]? = _ := d2
      have g3 : W2.drew.heap[w.heap.size + 1 + 1 + 1]? = _ := d3
      have HN3 := Lib.hid (show New w W2.drew from HN2.out.drew)
      have HK3 : Hid (KeepsOn (fun r => False ∨ r = w5.heap.size ∨ r = w5.heap.size + 1) W W2.drew) := HK2
      clear d0 d1 d2 d3 q0 q3 f3 HN2 HK2
      generalize W2.drew = W3 at *
      have q3 := cell_of_heap g3 (i := 0) rfl
      have f3 : W3.frozen? ⟨w.heap.size + 1 + 1 + 1, 0, none⟩ = false := frozen_of_heap g3
      have G := fun u v => lane_end (f := fun (_ : Unit) z => z) (B := w5.heap.size) (u := u) (by omega) HK3.out HN3.out g0 g1 g2 g3 v
      have GG := Lib.hid G
      clear G g0 g1 g2 g3
      go_wp2
      refine GG.out _ _ ?_
      rw [List.foldl_append]
      show _ = laneSt _ a b _ x
      unfold laneSt laneOp
      rfl
    · gi_wp2
      all_goals
        refine wpIn_region_still_round 7 (noDefer_of (by kernel_rfl)) (fun ⟨_, _, h⟩ => h) (by kernel_rfl) (by kernel_rfl) ?_
        simp only [List.take_succ_cons, List.take_zero, List.drop_succ_cons, List.drop_zero]
        repeat still_step
        try refine wpStill_nil ?_
        change wpList _ _ _ _ _ W2.drew
        have g0 : W2.drew.heap[w.heap.size]? = _ := d0
        have g1 : W2.drew.heap[w.heap.size + 1]? = _ := d1
        have g2 : W2.drew.heap[w.heap.size + 1 + 1]? = _ := d2
        have g3 : W2.drew.heap[w.heap.size + 1 + 1 + 1]? = _ := d3
        have HN3 := Lib.hid (show New w W2.drew from HN2.out.drew)
        have HK3 : Hid (KeepsOn (fun r => False ∨ r = w5.heap.size ∨ r = w5.heap.size + 1) W W2.drew) := HK2
        clear d0 d1 d2 d3 q0 q3 f3 HN2 HK2
        generalize W2.drew = W3 at *
        have q3 := cell_of_heap g3 (i := 0) rfl
        have f3 : W3.frozen? ⟨w.heap.size + 1 + 1 + 1, 0, none⟩ = false := frozen_of_heap g3
        have G := fun u v => lane_end (f := fun (_ : Unit) z => z) (B := w5.heap.size) (u := u) (by omega) HK3.out HN3.out g0 g1 g2 g3 v
        have GG := Lib.hid G
        clear G g0 g1 g2 g3
        go_wp2
        refine GG.out _ _ ?_
        rw [List.foldl_append]
        show _ = laneSt _ a b _ x
        generalize List.foldl (laneSt 53 a b) 0 pre = o
        show _ = bits .or .u32 o (bits .and .u32 (laneOp 53 _ _ _) _ * _ % 4294967296)
        rw [laneOp53]
        split
        · rename_i hq
          first | rfl | exact absurd ((beq_iff_eq.2 hq).symm.trans (by assumption)) (by decide)
        · rename_i hq
          first | rfl | exact absurd (beq_iff_eq.1 (by assumption)) hq
  case done =>
    rintro W ⟨hN, c0, c1, c2, c3⟩ hk
    have q3 := cell_of_heap c3 (i := 0) rfl
    have HN := Lib.hid hN
    have HK := Lib.hid hk
    clear hN c0 c1 c2 c3 hk
    gi_wp2
    refine ⟨by simp, .inl ⟨_, _, rfl, run_takeDeferred HK.out, ?_⟩⟩
    refine ⟨_, results_tmp rfl _ _ _, rfl, ?_⟩
    exact new_only HN.out (only_putObj _ _ _) (by omega)
  case stop =>
    rintro c pre W h
    exact h.elim
end Go.Proofs.Ytpooghnemlnopaa
/- The processor's registers as a value. -/
namespace Go.Proofs.Ytpooghnemlnopaa
open Go Go.RowKit Go.Cd
set_option linter.unusedVariables false

/-- The cells of a CPU: R in 0 to 15, PC 16, F 17, V from 18 on. -/
abbrev Regs := Nat → Int
def cpuCell (c : Regs) (j : Nat) : Value := if j = 17 then .int .i64 (c j) else .int .u32 (c j)
def cpuL (c : Regs) : List Value := (List.range 50).map (cpuCell c)
def cpuA (c : Regs) : Array Value := (cpuL c).toArray
def cpuV (c : Regs) : Value := .agg (cpuA c)
theorem cpuA_size (c : Regs) : (cpuA c).size = 50 := by simp [cpuA, cpuL]
theorem cpuA_get (c : Regs) (j : Nat) (h : j < 50) : (cpuA c)[j]? = some (cpuCell c j) := by simp [cpuA, cpuL, h]
theorem cpuCell_u32 (c : Regs) (j : Nat) (h : j ≠ 17) : cpuCell c j = .int .u32 (c j) := by unfold cpuCell; rw [if_neg h]
theorem cpuCell_f (c : Regs) : cpuCell c 17 = .int .i64 (c 17) := rfl
theorem cpuA_17 (c : Regs) : (cpuA c)[17]? = some (.int .i64 (c 17)) := (cpuA_get c 17 (by decide)).trans rfl
theorem cpuA_w (c : Regs) (j : Nat) (h : j < 50) (h' : j ≠ 17) : (cpuA c)[j]? = some (.int .u32 (c j)) := by rw [cpuA_get c j h, cpuCell_u32 c j h']
attribute [local go_sem] cpuA_17
def checkF (c : Regs) : Int := if 0 ≤ c 17 ∧ c 17 ≤ 15 then 0 else 4
theorem check_c (c : Regs) (w : World) : Calls Try.prog 14 #[cpuV c] w fun e w' => e = .returned (.int .i64 (checkF c)) ∧ New w w' := by
  unfold cpuV
  by_cases h : c 17 < 0
  · go_enter Try.func14, Try.ntmps14
    go_wp2
    go_ret
    exact ⟨ret_int (by unfold checkF; rw [if_neg (by omega)]), by go_grown⟩
  · by_cases h' : 15 < c 17
    · go_enter Try.func14, Try.ntmps14
      go_wp2
      go_ret
      exact ⟨ret_int (by unfold checkF; rw [if_neg (by omega)]), by go_grown⟩
    · go_enter Try.func14, Try.ntmps14
      go_wp2
      go_ret
      exact ⟨ret_int (by unfold checkF; rw [if_pos (by omega)]), by go_grown⟩
theorem rcheck_c (c : Regs) (w : World) : Calls Try.prog 15 #[cpuV c] w fun e w' => e = .returned (.int .i64 (checkF c)) ∧ New w w' := by
  unfold cpuV
  by_cases h : c 17 < 0
  · go_enter Try.func15, Try.ntmps15
    go_wp2
    go_ret
    exact ⟨ret_int (by unfold checkF; rw [if_neg (by omega)]), by go_grown⟩
  · by_cases h' : 15 < c 17
    · go_enter Try.func15, Try.ntmps15
      go_wp2
      go_ret
      exact ⟨ret_int (by unfold checkF; rw [if_neg (by omega)]), by go_grown⟩
    · go_enter Try.func15, Try.ntmps15
      go_wp2
      go_ret
      exact ⟨ret_int (by unfold checkF; rw [if_pos (by omega)]), by go_grown⟩
end Go.Proofs.Ytpooghnemlnopaa
/- Contracts of the bytes of a vector, and Mask. -/
namespace Go.Proofs.Ytpooghnemlnopaa
open Go Go.RowKit Go.Cd
set_option linter.unusedVariables false

abbrev Vc := Nat → Int
def vecA (v : Vc) : Array Value := #[.int .u32 (v 0), .int .u32 (v 1), .int .u32 (v 2), .int .u32 (v 3)]
def vecV (v : Vc) : Value := .agg (vecA v)
def VcOk (v : Vc) : Prop := ∀ k, k < 4 → 0 ≤ v k ∧ v k < 4294967296
theorem vecA_get (v : Vc) (k : Nat) (h : k < 4) : (vecA v)[k]? = some (.int .u32 (v k)) := by
  have : k = 0 ∨ k = 1 ∨ k = 2 ∨ k = 3 := by omega
  rcases this with rfl | rfl | rfl | rfl <;> rfl
/-- Byte i of a vector. -/
def byteF (v : Vc) (i : Nat) : Int := v (i / 4) / 2 ^ (i % 4 * 8) % 256
theorem octet_c (v : Vc) (i : Nat) (w : World) (hv : VcOk v) (hi : i < 16) : Calls Try.prog 37 #[vecV v, .int .i64 i] w fun e w' => e = .returned (.int .u32 (byteF v i)) ∧ New w w' := by
  have hg := vecA_get v (i / 4) (by omega)
  have hb := hv (i / 4) (by omega)
  have h0 := hb.1
  unfold vecV
  go_enter Try.func37, Try.ntmps37
  go_wp2
  go_ret
  refine ⟨ret_int ?_, by go_grown⟩
  unfold byteF
  exact and_255 _ (Int.ediv_nonneg hb.1 (Int.le_of_lt (pow_pos' _))) (Int.lt_of_le_of_lt (Int.ediv_le_self _ hb.1) hb.2)
theorem byteOf_c (v : Vc) (i : Nat) (w : World) (hv : VcOk v) (hi : i < 16) : Calls Try.prog 41 #[vecV v, .int .i64 i] w fun e w' => e = .returned (.int .u8 (byteF v i)) ∧ New w w' := by
  have hg := vecA_get v (i / 4) (by omega)
  have hb := hv (i / 4) (by omega)
  have h0 := hb.1
  unfold vecV
  go_enter Try.func41, Try.ntmps41
  go_wp2
  go_ret
  refine ⟨ret_int ?_, by go_grown⟩
  unfold byteF
  rw [Nat.mul_comm]
theorem byteF_bd (v : Vc) (i : Nat) : 0 ≤ byteF v i ∧ byteF v i < 256 := by unfold byteF; omega
/-- The top bits of the first k bytes. -/
def maskTo (v : Vc) : Nat → Int
  | 0 => 0
  | k + 1 => bits .or .u32 (maskTo v k) (byteF v k / 128 * 2 ^ k % 4294967296)
theorem maskTo_bd (v : Vc) (k : Nat) : 0 ≤ maskTo v k ∧ maskTo v k < 4294967296 := by
  cases k with
  | zero => exact ⟨Int.le_refl _, (by decide : (0 : Int) < 4294967296)⟩
  | succ k => exact ⟨bits_nonneg _ _ _, bits_lt _ _ _⟩
attribute [local go_sem ↓] Go.wp_at_zero Go.wp_at_succ
set_option maxHeartbeats 1000000 in
theorem mask_c (v : Vc) (w : World) (hv : VcOk v) : Calls Try.prog 19 #[vecV v] w fun e w' => e = .returned (.int .u32 (maskTo v 16)) ∧ New w w' := by
  have HV := Lib.hid hv
  clear hv
  unfold vecV
  go_enter Try.func19, Try.ntmps19
  go_wp2_with fail
  go_loopw [3, 5] (fun o i wr => ∃ k : Nat, k ≤ 16 ∧ i = .int .i64 k ∧ o = .int .u32 (maskTo v k) ∧ New w wr ∧ wr.heap[w.heap.size]? = some (.cells (vecA v) 32)) (fun _ i _ => 16 - (intOf i).toNat)
  case atStart => exact ⟨0, Nat.zero_le _, rfl, rfl, by go_grown, heap_alloc_at _ _ _ rfl⟩
  case round =>
    obtain ⟨k, hk, rfl, rfl, hN, hX⟩ := hrel
    have HN := Lib.hid hN
    have HX := Lib.hid hX
    clear hN hX
    by_cases hlt : k < 16
    · have hlw := lt_of_heap HX.out
      have c0 : wr.cell? ⟨w.heap.size, 0, none⟩ = some (.int .u32 (v 0)) := cell_of_heap HX.out rfl
      have c1 : wr.cell? ⟨w.heap.size, 1, none⟩ = some (.int .u32 (v 1)) := cell_of_heap HX.out rfl
      have c2 : wr.cell? ⟨w.heap.size, 2, none⟩ = some (.int .u32 (v 2)) := cell_of_heap HX.out rfl
      have c3 : wr.cell? ⟨w.heap.size, 3, none⟩ = some (.int .u32 (v 3)) := cell_of_heap HX.out rfl
      have hbd := byteF_bd v k
      have hb0 := hbd.1
      have hmd := maskTo_bd v k
      have C1 := Lib.hid (show Calls Try.prog 37 #[.agg #[.int .u32 (v 0), .int .u32 (v 1), .int .u32 (v 2), .int .u32 (v 3)], .int .i64 k] wr _ from octet_c v k wr HV.out hlt)
      go_wp2_with (go_at_call 37; refine C1.out.mono ?_; rintro e w1 ⟨rfl, hb1⟩; have N1 := Lib.hid hb1; clear hb1)
      go_roundw
      case rel =>
        refine ⟨k + 1, by omega, by simp, ?_, HN.out.trans (N1.out.mono HN.out.size), (N1.out.block _ hlw).trans HX.out⟩
        show _ = Value.int .u32 (bits .or .u32 (maskTo v k) (byteF v k / 128 * 2 ^ k % 4294967296))
        first | rfl | simp
      case measure => simp [intOf]; omega
    · obtain rfl : k = 16 := by omega
      go_wp2
      go_ret
      exact ⟨rfl, HN.out⟩
set_option maxHeartbeats 1000000 in
theorem rmask_c (v : Vc) (w : World) (hv : VcOk v) : Calls Try.prog 20 #[vecV v] w fun e w' => e = .returned (.int .u32 (maskTo v 16)) ∧ New w w' := by
  have HV := Lib.hid hv
  clear hv
  unfold vecV
  go_enter Try.func20, Try.ntmps20
  go_wp2_with fail
  go_loopw [3, 4] (fun o i wr => ∃ k : Nat, k ≤ 16 ∧ i = .int .i64 k ∧ o = .int .u32 (maskTo v k) ∧ New w wr ∧ wr.heap[w.heap.size]? = some (.cells (vecA v) 32)) (fun _ i _ => 16 - (intOf i).toNat)
  case atStart => exact ⟨0, Nat.zero_le _, rfl, rfl, by go_grown, heap_alloc_at _ _ _ rfl⟩
  case round =>
    obtain ⟨k, hk, rfl, rfl, hN, hX⟩ := hrel
    have HN := Lib.hid hN
    have HX := Lib.hid hX
    clear hN hX
    by_cases hlt : k < 16
    · have hlw := lt_of_heap HX.out
      have c0 : wr.cell? ⟨w.heap.size, 0, none⟩ = some (.int .u32 (v 0)) := cell_of_heap HX.out rfl
      have c1 : wr.cell? ⟨w.heap.size, 1, none⟩ = some (.int .u32 (v 1)) := cell_of_heap HX.out rfl
      have c2 : wr.cell? ⟨w.heap.size, 2, none⟩ = some (.int .u32 (v 2)) := cell_of_heap HX.out rfl
      have c3 : wr.cell? ⟨w.heap.size, 3, none⟩ = some (.int .u32 (v 3)) := cell_of_heap HX.out rfl
      have hbd := byteF_bd v k
      have hb0 := hbd.1
      have hmd := maskTo_bd v k
      have C1 := Lib.hid (show Calls Try.prog 41 #[.agg #[.int .u32 (v 0), .int .u32 (v 1), .int .u32 (v 2), .int .u32 (v 3)], .int .i64 k] wr _ from byteOf_c v k wr HV.out hlt)
      go_wp2_with (go_at_call 41; refine C1.out.mono ?_; rintro e w1 ⟨rfl, hb1⟩; have N1 := Lib.hid hb1; clear hb1)
      go_roundw
      case rel =>
        refine ⟨k + 1, by omega, by simp, ?_, HN.out.trans (N1.out.mono HN.out.size), (N1.out.block _ hlw).trans HX.out⟩
        show _ = Value.int .u32 (bits .or .u32 (maskTo v k) (byteF v k / 128 * 2 ^ k % 4294967296))
        first | rfl | simp
      case measure => simp [intOf]; omega
    · obtain rfl : k = 16 := by omega
      go_wp2
      go_ret
      exact ⟨rfl, HN.out⟩
end Go.Proofs.Ytpooghnemlnopaa
/- The contract of cpu.Lanes. Written by genLanes3.py. -/
namespace Go.Proofs.Ytpooghnemlnopaa
open Go Go.RowKit Go.Cd
set_option linter.unusedVariables false

def setV (v : Vc) (k : Nat) (x : Int) : Vc := fun j => if j = k then x else v j
theorem vecA_set (v : Vc) (k : Nat) (h : k < 4) (x : Int) : (vecA v).setIfInBounds k (.int .u32 x) = vecA (setV v k x) := by
  have : k = 0 ∨ k = 1 ∨ k = 2 ∨ k = 3 := by omega
  rcases this with rfl | rfl | rfl | rfl <;> rfl
def zeroV : Vc := fun _ => 0
/-- What a shuffle has made behind k bytes. -/
def shufTo (a b : Vc) : Nat → Vc
  | 0 => zeroV
  | k + 1 => setV (shufTo a b k) (k / 4) (bits .or .u32 (shufTo a b k (k / 4)) (byteF a (byteF b k % 16).toNat * 2 ^ (k % 4 * 8) % 4294967296))
def lanesTo (op d : Int) (a b : Vc) (n : Nat) : Vc := fun k => if k < n then byLanesF op d (a k) (b k) else 0
/-- What Lanes returns. -/
def lanesV (op d : Int) (a b : Vc) : Vc × Bool :=
  if op = 51 ∨ op = 52 ∨ op = 53 then (if d < 0 ∨ 2 < d then (zeroV, false) else (lanesTo op d a b 4, true))
  else if op = 54 then (fun k => bits .and .u32 (a k) (b k), true)
  else if op = 55 then (fun k => bits .or .u32 (a k) (b k), true)
  else if op = 56 then (fun k => bits .xor .u32 (a k) (b k), true)
  else if op = 57 then (shufTo a b 16, true)
  else (zeroV, false)
def LanesPost (t : Vc × Bool) (w : World) (e : Ending) (w' : World) : Prop := e = .returned (.tuple #[vecV t.1, .bool t.2]) ∧ New w w'
theorem laid4 (w : World) (o0 o1 o2 o3 : Obj) : let W := (((w.alloc o0).alloc o1).alloc o2).alloc o3
    W.heap[w.heap.size]? = some o0 ∧ W.heap[w.heap.size + 1]? = some o1 ∧ W.heap[w.heap.size + 1 + 1]? = some o2 ∧ W.heap[w.heap.size + 1 + 1 + 1]? = some o3 ∧ New w W := by
  refine ⟨?_, ?_, ?_, ?_, by go_grown⟩
  · exact heap_keep (heap_keep (heap_keep (heap_alloc_at w o0 _ rfl)))
  · exact heap_keep (heap_keep (heap_alloc_at (w.alloc o0) o1 _ (by simp)))
  · exact heap_keep (heap_alloc_at ((w.alloc o0).alloc o1) o2 _ (by simp))
  · exact heap_alloc_at (((w.alloc o0).alloc o1).alloc o2) o3 _ (by simp)
theorem vec_size : (Try.prog.info? 32).map (·.size) = some 4 := by kernel_rfl
theorem exVs (a : Act) (dst : Option Tmp) (x y : Operand) (ty : TypeId) (pos : String) (after : Array Edge) (guard : Option (Nat × Bool)) :
    execOp a.eval { dst, op := .store 32 x y, type := ty, pos, after, guard } = storeRow 32 (a.eval x) (a.eval y) := rfl
theorem exVl (a : Act) (dst : Option Tmp) (x : Operand) (ty : TypeId) (pos : String) (after : Array Edge) (guard : Option (Nat × Bool)) :
    execOp a.eval { dst, op := .load 32 x, type := ty, pos, after, guard } = loadRow 32 (a.eval x) := rfl
attribute [local go_sem ↓] exVs exVl Go.wp_at_zero Go.wp_at_succ
set_option maxRecDepth 100000 in
set_option maxHeartbeats 1000000 in
theorem lanes_54 (d : Int) (a b : Vc) (w : World) : Calls Try.prog 12 #[.int .i64 54, .int .i64 d, vecV a, vecV b] w (LanesPost (lanesV 54 d a b) w) := by
  unfold vecV
  go_enter Try.func12, Try.ntmps12
  go_upto_region 4 with (fail)
  obtain ⟨x0, x1, x2, x3, hN⟩ := laid4 w (.cells (vecA a) 32) (.cells (vecA b) 32) (.cells #[.int .u32 0, .int .u32 0, .int .u32 0, .int .u32 0] 32) (.cells #[.int .u32 0, .int .u32 0, .int .u32 0, .int .u32 0] 32)
  generalize (((w.alloc (.cells (vecA a) 32)).alloc (.cells (vecA b) 32)).alloc (.cells #[.int .u32 0, .int .u32 0, .int .u32 0, .int .u32 0] 32)).alloc (.cells #[.int .u32 0, .int .u32 0, .int .u32 0, .int .u32 0] 32) = W at *
  have X2 := Lib.hid x2
  have X3 := Lib.hid x3
  have HN := Lib.hid hN
  have a0 := cell_of_heap x0 (vecA_get a 0 (by decide))
  have a1 := cell_of_heap x0 (vecA_get a 1 (by decide))
  have a2 := cell_of_heap x0 (vecA_get a 2 (by decide))
  have a3 := cell_of_heap x0 (vecA_get a 3 (by decide))
  have b0 := cell_of_heap x1 (vecA_get b 0 (by decide))
  have b1 := cell_of_heap x1 (vecA_get b 1 (by decide))
  have b2 := cell_of_heap x1 (vecA_get b 2 (by decide))
  have b3 := cell_of_heap x1 (vecA_get b 3 (by decide))
  clear x0 x1 x2 x3 hN
  go_wp2_with fail
  obtain ⟨w1, hst, h1, ho1⟩ := store_all (P := Try.prog) 32 (w.heap.size + 1 + 1 + 1) _ (vecA (fun k => bits .and .u32 (a k) (b k))) _ W X3.out rfl (vec_size.trans rfl) (by simp [vecA, Value.oneCell'])
  unfold vecA at hst
  rw [hst]
  clear hst
  have N1 := Lib.hid (new_only HN.out ho1 (by omega))
  have Y2 := Lib.hid ((ho1.block (w.heap.size + 1 + 1) (by omega)).trans X2.out)
  have Y3 := Lib.hid h1
  clear h1 ho1 a0 a1 a2 a3 b0 b1 b2 b3 X2 X3
  go_wp2_with fail
  rw [load_all (P := Try.prog) 32 (w.heap.size + 1 + 1 + 1) (vecA (fun k => bits .and .u32 (a k) (b k))) 32 _ w1 Y3.out Try.underlying32 rfl (vec_size.trans rfl)]
  go_wp2_with fail
  obtain ⟨w8, hst, h8, ho8⟩ := store_all (P := Try.prog) 32 (w.heap.size + 1 + 1) _ (vecA (fun k => bits .and .u32 (a k) (b k))) _ w1 Y2.out rfl (vec_size.trans rfl) (by simp [vecA, Value.oneCell'])
  rw [hst]
  clear hst
  have N8 := Lib.hid (new_only N1.out ho8 (by omega))
  have X8 := Lib.hid h8
  clear h8 ho8
  go_wp2_with fail
  refine ⟨rfl, _, results_cell_slot Try.results12 _ _ _ _ rfl (load_row 32 (w.heap.size + 1 + 1) (vecA (fun k => bits .and .u32 (a k) (b k))) 32 _ w8 X8.out Try.underlying32 rfl (vec_size.trans rfl)), ?_⟩
  exact ⟨rfl, N8.out⟩
set_option maxRecDepth 100000 in
set_option maxHeartbeats 1000000 in
theorem lanes_55 (d : Int) (a b : Vc) (w : World) : Calls Try.prog 12 #[.int .i64 55, .int .i64 d, vecV a, vecV b] w (LanesPost (lanesV 55 d a b) w) := by
  unfold vecV
  go_enter Try.func12, Try.ntmps12
  go_upto_region 4 with (fail)
  obtain ⟨x0, x1, x2, x3, hN⟩ := laid4 w (.cells (vecA a) 32) (.cells (vecA b) 32) (.cells #[.int .u32 0, .int .u32 0, .int .u32 0, .int .u32 0] 32) (.cells #[.int .u32 0, .int .u32 0, .int .u32 0, .int .u32 0] 32)
  generalize (((w.alloc (.cells (vecA a) 32)).alloc (.cells (vecA b) 32)).alloc (.cells #[.int .u32 0, .int .u32 0, .int .u32 0, .int .u32 0] 32)).alloc (.cells #[.int .u32 0, .int .u32 0, .int .u32 0, .int .u32 0] 32) = W at *
  have X2 := Lib.hid x2
  have X3 := Lib.hid x3
  have HN := Lib.hid hN
  have a0 := cell_of_heap x0 (vecA_get a 0 (by decide))
  have a1 := cell_of_heap x0 (vecA_get a 1 (by decide))
  have a2 := cell_of_heap x0 (vecA_get a 2 (by decide))
  have a3 := cell_of_heap x0 (vecA_get a 3 (by decide))
  have b0 := cell_of_heap x1 (vecA_get b 0 (by decide))
  have b1 := cell_of_heap x1 (vecA_get b 1 (by decide))
  have b2 := cell_of_heap x1 (vecA_get b 2 (by decide))
  have b3 := cell_of_heap x1 (vecA_get b 3 (by decide))
  clear x0 x1 x2 x3 hN
  go_wp2_with fail
  obtain ⟨w1, hst, h1, ho1⟩ := store_all (P := Try.prog) 32 (w.heap.size + 1 + 1 + 1) _ (vecA (fun k => bits .or .u32 (a k) (b k))) _ W X3.out rfl (vec_size.trans rfl) (by simp [vecA, Value.oneCell'])
  unfold vecA at hst
  rw [hst]
  clear hst
  have N1 := Lib.hid (new_only HN.out ho1 (by omega))
  have Y2 := Lib.hid ((ho1.block (w.heap.size + 1 + 1) (by omega)).trans X2.out)
  have Y3 := Lib.hid h1
  clear h1 ho1 a0 a1 a2 a3 b0 b1 b2 b3 X2 X3
  go_wp2_with fail
  rw [load_all (P := Try.prog) 32 (w.heap.size + 1 + 1 + 1) (vecA (fun k => bits .or .u32 (a k) (b k))) 32 _ w1 Y3.out Try.underlying32 rfl (vec_size.trans rfl)]
  go_wp2_with fail
  obtain ⟨w8, hst, h8, ho8⟩ := store_all (P := Try.prog) 32 (w.heap.size + 1 + 1) _ (vecA (fun k => bits .or .u32 (a k) (b k))) _ w1 Y2.out rfl (vec_size.trans rfl) (by simp [vecA, Value.oneCell'])
  rw [hst]
  clear hst
  have N8 := Lib.hid (new_only N1.out ho8 (by omega))
  have X8 := Lib.hid h8
  clear h8 ho8
  go_wp2_with fail
  refine ⟨rfl, _, results_cell_slot Try.results12 _ _ _ _ rfl (load_row 32 (w.heap.size + 1 + 1) (vecA (fun k => bits .or .u32 (a k) (b k))) 32 _ w8 X8.out Try.underlying32 rfl (vec_size.trans rfl)), ?_⟩
  exact ⟨rfl, N8.out⟩
set_option maxRecDepth 100000 in
set_option maxHeartbeats 1000000 in
theorem lanes_56 (d : Int) (a b : Vc) (w : World) : Calls Try.prog 12 #[.int .i64 56, .int .i64 d, vecV a, vecV b] w (LanesPost (lanesV 56 d a b) w) := by
  unfold vecV
  go_enter Try.func12, Try.ntmps12
  go_upto_region 4 with (fail)
  obtain ⟨x0, x1, x2, x3, hN⟩ := laid4 w (.cells (vecA a) 32) (.cells (vecA b) 32) (.cells #[.int .u32 0, .int .u32 0, .int .u32 0, .int .u32 0] 32) (.cells #[.int .u32 0, .int .u32 0, .int .u32 0, .int .u32 0] 32)
  generalize (((w.alloc (.cells (vecA a) 32)).alloc (.cells (vecA b) 32)).alloc (.cells #[.int .u32 0, .int .u32 0, .int .u32 0, .int .u32 0] 32)).alloc (.cells #[.int .u32 0, .int .u32 0, .int .u32 0, .int .u32 0] 32) = W at *
  have X2 := Lib.hid x2
  have X3 := Lib.hid x3
  have HN := Lib.hid hN
  have a0 := cell_of_heap x0 (vecA_get a 0 (by decide))
  have a1 := cell_of_heap x0 (vecA_get a 1 (by decide))
  have a2 := cell_of_heap x0 (vecA_get a 2 (by decide))
  have a3 := cell_of_heap x0 (vecA_get a 3 (by decide))
  have b0 := cell_of_heap x1 (vecA_get b 0 (by decide))
  have b1 := cell_of_heap x1 (vecA_get b 1 (by decide))
  have b2 := cell_of_heap x1 (vecA_get b 2 (by decide))
  have b3 := cell_of_heap x1 (vecA_get b 3 (by decide))
  clear x0 x1 x2 x3 hN
  go_wp2_with fail
  obtain ⟨w1, hst, h1, ho1⟩ := store_all (P := Try.prog) 32 (w.heap.size + 1 + 1 + 1) _ (vecA (fun k => bits .xor .u32 (a k) (b k))) _ W X3.out rfl (vec_size.trans rfl) (by simp [vecA, Value.oneCell'])
  unfold vecA at hst
  rw [hst]
  clear hst
  have N1 := Lib.hid (new_only HN.out ho1 (by omega))
  have Y2 := Lib.hid ((ho1.block (w.heap.size + 1 + 1) (by omega)).trans X2.out)
  have Y3 := Lib.hid h1
  clear h1 ho1 a0 a1 a2 a3 b0 b1 b2 b3 X2 X3
  go_wp2_with fail
  rw [load_all (P := Try.prog) 32 (w.heap.size + 1 + 1 + 1) (vecA (fun k => bits .xor .u32 (a k) (b k))) 32 _ w1 Y3.out Try.underlying32 rfl (vec_size.trans rfl)]
  go_wp2_with fail
  obtain ⟨w8, hst, h8, ho8⟩ := store_all (P := Try.prog) 32 (w.heap.size + 1 + 1) _ (vecA (fun k => bits .xor .u32 (a k) (b k))) _ w1 Y2.out rfl (vec_size.trans rfl) (by simp [vecA, Value.oneCell'])
  rw [hst]
  clear hst
  have N8 := Lib.hid (new_only N1.out ho8 (by omega))
  have X8 := Lib.hid h8
  clear h8 ho8
  go_wp2_with fail
  refine ⟨rfl, _, results_cell_slot Try.results12 _ _ _ _ rfl (load_row 32 (w.heap.size + 1 + 1) (vecA (fun k => bits .xor .u32 (a k) (b k))) 32 _ w8 X8.out Try.underlying32 rfl (vec_size.trans rfl)), ?_⟩
  exact ⟨rfl, N8.out⟩
theorem lanesTo_succ (op d : Int) (a b : Vc) (k : Nat) : setV (lanesTo op d a b k) k (byLanesF op d (a k) (b k)) = lanesTo op d a b (k + 1) := by
  funext j
  unfold setV lanesTo
  by_cases h : j = k
  · subst h
    rw [if_pos rfl, if_pos (by omega)]
  · rw [if_neg h]
    by_cases h2 : j < k
    · rw [if_pos h2, if_pos (by omega)]
    · rw [if_neg h2, if_neg (by omega)]
set_option maxRecDepth 100000 in
set_option maxHeartbeats 1000000 in
theorem lanes_by (op d : Int) (a b : Vc) (w : World) (hop : op = 51 ∨ op = 52 ∨ op = 53) (hd : d = 0 ∨ d = 1 ∨ d = 2) (ha : VcOk a) (hb : VcOk b) :
    Calls Try.prog 12 #[.int .i64 op, .int .i64 d, vecV a, vecV b] w (LanesPost (lanesV op d a b) w) := by
  have BL := Lib.hid (fun x y w hx hy => byLanes_c op d x y w hop hd hx hy)
  have e : lanesV op d a b = (lanesTo op d a b 4, true) := by
    unfold lanesV
    rw [if_pos hop, if_neg (by omega)]
  rw [e]
  clear e
  have hd0 : ¬ d < 0 := by omega
  have hd2 : ¬ 2 < d := by omega
  have HA := Lib.hid ha
  have HB := Lib.hid hb
  clear hd ha hb
  have e51 : ((op == 51) = true ∨ (op == 51) = false ∧ (op == 52) = true ∨ (op == 51) = false ∧ (op == 52) = false ∧ (op == 53) = true) := by
    rcases hop with rfl | rfl | rfl <;> simp
  clear hop
  unfold vecV
  go_enter Try.func12, Try.ntmps12
  go_upto_region 4 with (fail)
  obtain ⟨x0, x1, x2, x3, hN⟩ := laid4 w (.cells (vecA a) 32) (.cells (vecA b) 32) (.cells #[.int .u32 0, .int .u32 0, .int .u32 0, .int .u32 0] 32) (.cells #[.int .u32 0, .int .u32 0, .int .u32 0, .int .u32 0] 32)
  generalize (((w.alloc (.cells (vecA a) 32)).alloc (.cells (vecA b) 32)).alloc (.cells #[.int .u32 0, .int .u32 0, .int .u32 0, .int .u32 0] 32)).alloc (.cells #[.int .u32 0, .int .u32 0, .int .u32 0, .int .u32 0] 32) = W at *
  have Y0 := Lib.hid x0
  have Y1 := Lib.hid x1
  have Y2 := Lib.hid x2
  have Y3 := Lib.hid (show W.heap[w.heap.size + 1 + 1 + 1]? = some (.cells (vecA (lanesTo op d a b 0)) 32) from x3)
  have HN := Lib.hid hN
  clear x0 x1 x2 x3 hN
  rcases e51 with e51 | ⟨e51, e52⟩ | ⟨e51, e52, e53⟩
  all_goals
    go_wp2_with fail
    go_loopw [26] (fun i wr => ∃ k : Nat, k ≤ 4 ∧ i = .int .i64 k ∧ wr.heap[w.heap.size]? = some (.cells (vecA a) 32) ∧ wr.heap[w.heap.size + 1]? = some (.cells (vecA b) 32) ∧ wr.heap[w.heap.size + 1 + 1]? = some (.cells #[.int .u32 0, .int .u32 0, .int .u32 0, .int .u32 0] 32) ∧ wr.heap[w.heap.size + 1 + 1 + 1]? = some (.cells (vecA (lanesTo op d a b k)) 32) ∧ New w wr) (fun i _ => 4 - (intOf i).toNat)
    case atStart => exact ⟨0, Nat.zero_le _, rfl, Y0.out, Y1.out, Y2.out, Y3.out, HN.out⟩
    case round =>
      clear Y0 Y1 Y2 Y3 HN
      obtain ⟨k, hk, rfl, y0, y1, y2, y3, hN⟩ := hrel
      have HN := Lib.hid hN
      have Y0 := Lib.hid y0
      have Y1 := Lib.hid y1
      have Y2 := Lib.hid y2
      have Y3 := Lib.hid y3
      clear hN y0 y1 y2 y3
      by_cases hlt : k < 4
      · have hax := cell_of_heap Y0.out (vecA_get a k hlt)
        have hbx := cell_of_heap Y1.out (vecA_get b k hlt)
        have hfz : wr.frozen? ⟨w.heap.size + 1 + 1 + 1, k, none⟩ = false := frozen_of_heap Y3.out
        have C1 := Lib.hid (fun u => BL.out (a k) (b k) u (HA.out k hlt) (HB.out k hlt))
        go_wp2_with fail
        go_region_with (first | (go_at_call 36; (with_reducible refine (C1.out _).mono ?_); rintro e u1 ⟨rfl, hb1⟩; have hfz1 : u1.frozen? ⟨w.heap.size + 1 + 1 + 1, k, none⟩ = false := (hb1.frozen (p := ⟨w.heap.size + 1 + 1 + 1, k, none⟩) (lt_of_heap Y3.out)).trans hfz; have hcz1 : u1.cell? ⟨w.heap.size + 1 + 1 + 1, k, none⟩ = some (.int .u32 (lanesTo op d a b k k)) := (hb1.cell (p := ⟨w.heap.size + 1 + 1 + 1, k, none⟩) (lt_of_heap Y3.out)).trans (cell_of_heap Y3.out (vecA_get _ k hlt)); have N1 := Lib.hid (show New wr u1 from (by first | exact hb1 | exact Below.trans ((New.refl wr).drew) hb1)); clear hb1) | fail)
        all_goals
          have Z0 := Lib.hid ((N1.out.block _ (lt_of_heap Y0.out)).trans Y0.out)
          have Z1 := Lib.hid ((N1.out.block _ (lt_of_heap Y1.out)).trans Y1.out)
          have Z2 := Lib.hid ((N1.out.block _ (lt_of_heap Y2.out)).trans Y2.out)
          have Z3 := Lib.hid ((N1.out.block _ (lt_of_heap Y3.out)).trans Y3.out)
          have N2 := Lib.hid (HN.out.trans (N1.out.mono HN.out.size))
          clear N1 Y0 Y1 Y2 Y3 HN hfz1 hcz1 hfz hax hbx
          have N3 := Lib.hid (new_only N2.out (only_setCell u1 (w.heap.size + 1 + 1 + 1) k (.int .u32 (byLanesF op d (a k) (b k)))) (by omega))
          have ho := only_setCell u1 (w.heap.size + 1 + 1 + 1) k (.int .u32 (byLanesF op d (a k) (b k)))
          have V0 := Lib.hid ((ho.block w.heap.size (by omega)).trans Z0.out)
          have V1 := Lib.hid ((ho.block (w.heap.size + 1) (by omega)).trans Z1.out)
          have V2 := Lib.hid ((ho.block (w.heap.size + 1 + 1) (by omega)).trans Z2.out)
          have v3 := setCell_at (o := k) Z3.out (.int .u32 (byLanesF op d (a k) (b k)))
          rw [vecA_set _ _ hlt, lanesTo_succ] at v3
          have V3 := Lib.hid v3
          clear v3 ho Z0 Z1 Z2 Z3 N2
          generalize u1.setCell ⟨w.heap.size + 1 + 1 + 1, k, none⟩ (.int .u32 (byLanesF op d (a k) (b k))) = u2 at *
          go_wp2_with fail
          go_roundw
          case rel => exact ⟨k + 1, by omega, by simp, V0.out, V1.out, V2.out, V3.out, N3.out⟩
          case measure => simp [intOf]; omega
      · obtain rfl : k = 4 := by omega
        go_wp2_with fail
        rw [load_all (P := Try.prog) 32 (w.heap.size + 1 + 1 + 1) (vecA (lanesTo op d a b 4)) 32 _ wr Y3.out Try.underlying32 rfl (vec_size.trans rfl)]
        go_wp2_with fail
        obtain ⟨w8, hst, h8, ho8⟩ := store_all (P := Try.prog) 32 (w.heap.size + 1 + 1) _ (vecA (lanesTo op d a b 4)) _ wr Y2.out rfl (vec_size.trans rfl) (by simp [vecA, Value.oneCell'])
        rw [hst]
        clear hst
        have N8 := Lib.hid (new_only HN.out ho8 (by omega))
        have X8 := Lib.hid h8
        clear h8 ho8
        go_wp2_with fail
        refine ⟨rfl, _, results_cell_slot Try.results12 _ _ _ _ rfl (load_row 32 (w.heap.size + 1 + 1) (vecA (lanesTo op d a b 4)) 32 _ w8 X8.out Try.underlying32 rfl (vec_size.trans rfl)), ?_⟩
        exact ⟨rfl, N8.out⟩
attribute [-go_sem] exVl exVs
attribute [local go_sem ↓] Go.wp_at_zero Go.wp_at_succ
set_option maxRecDepth 100000 in
set_option maxHeartbeats 1000000 in
theorem lanes_57 (d : Int) (a b : Vc) (w : World) (ha : VcOk a) (hb : VcOk b) :
    Calls Try.prog 12 #[.int .i64 57, .int .i64 d, vecV a, vecV b] w (LanesPost (lanesV 57 d a b) w) := by
  have HA := Lib.hid ha
  have HB := Lib.hid hb
  clear ha hb
  unfold vecV
  go_enter Try.func12, Try.ntmps12
  go_upto_region 4 with (fail)
  obtain ⟨x0, x1, x2, x3, hN⟩ := laid4 w (.cells (vecA a) 32) (.cells (vecA b) 32) (.cells #[.int .u32 0, .int .u32 0, .int .u32 0, .int .u32 0] 32) (.cells #[.int .u32 0, .int .u32 0, .int .u32 0, .int .u32 0] 32)
  generalize (((w.alloc (.cells (vecA a) 32)).alloc (.cells (vecA b) 32)).alloc (.cells #[.int .u32 0, .int .u32 0, .int .u32 0, .int .u32 0] 32)).alloc (.cells #[.int .u32 0, .int .u32 0, .int .u32 0, .int .u32 0] 32) = W at *
  have Y0 := Lib.hid x0
  have Y1 := Lib.hid x1
  have Y2 := Lib.hid x2
  have Y3 := Lib.hid (show W.heap[w.heap.size + 1 + 1 + 1]? = some (.cells (vecA (shufTo a b 0)) 32) from x3)
  have HN := Lib.hid hN
  clear x0 x1 x2 x3 hN
  go_wp2_with fail
  go_loopw [112] (fun i wr => ∃ k : Nat, k ≤ 16 ∧ i = .int .i64 k ∧ wr.heap[w.heap.size]? = some (.cells (vecA a) 32) ∧ wr.heap[w.heap.size + 1]? = some (.cells (vecA b) 32) ∧ wr.heap[w.heap.size + 1 + 1]? = some (.cells #[.int .u32 0, .int .u32 0, .int .u32 0, .int .u32 0] 32) ∧ wr.heap[w.heap.size + 1 + 1 + 1]? = some (.cells (vecA (shufTo a b k)) 32) ∧ New w wr) (fun i _ => 16 - (intOf i).toNat)
  case atStart => exact ⟨0, Nat.zero_le _, rfl, Y0.out, Y1.out, Y2.out, Y3.out, HN.out⟩
  case round =>
    clear Y0 Y1 Y2 Y3 HN
    obtain ⟨k, hk, rfl, y0, y1, y2, y3, hN⟩ := hrel
    have HN := Lib.hid hN
    have Y0 := Lib.hid y0
    have Y1 := Lib.hid y1
    have Y2 := Lib.hid y2
    have Y3 := Lib.hid y3
    clear hN y0 y1 y2 y3
    by_cases hlt : k < 16
    · obtain ⟨q, hq, hqe⟩ : ∃ q : Nat, q < 16 ∧ (byteF b k % 16).toNat = q := ⟨_, by omega, rfl⟩
      have hand : bits .and .u32 (byteF b k) 15 = (q : Int) := by
        rw [show (15 : Int) = 2 ^ 4 - 1 from rfl, and_mask _ (byteF_bd b k).1 (Int.lt_trans (byteF_bd b k).2 (by decide)) 4 (by decide)]
        omega
      obtain ⟨j, hj4, hje⟩ : ∃ j : Nat, j < 4 ∧ k / 4 = j := ⟨_, by omega, rfl⟩
      obtain ⟨r, hr4, hre⟩ : ∃ r : Nat, r < 4 ∧ k % 4 = r := ⟨_, by omega, rfl⟩
      have hji : (k : Int) / 4 = (j : Int) := by omega
      have hri : (k : Int) % 4 = (r : Int) := by omega
      have hrt : (k : Int).tmod 4 = (r : Int) := by rw [Int.tmod_eq_emod_of_nonneg (by omega)]; exact hri
      have hs : shufTo a b (k + 1) = setV (shufTo a b k) j (bits .or .u32 (shufTo a b k j) (byteF a q * 2 ^ (r * 8) % 4294967296)) := by
        rw [← hqe, ← hje, ← hre]; rfl
      clear hje hre
      have HS := Lib.hid hs
      clear hs hqe
      have a0 : wr.cell? ⟨w.heap.size, 0, none⟩ = some (.int .u32 (a 0)) := cell_of_heap Y0.out (vecA_get a 0 (by decide))
      have a1 : wr.cell? ⟨w.heap.size, 1, none⟩ = some (.int .u32 (a 1)) := cell_of_heap Y0.out (vecA_get a 1 (by decide))
      have a2 : wr.cell? ⟨w.heap.size, 2, none⟩ = some (.int .u32 (a 2)) := cell_of_heap Y0.out (vecA_get a 2 (by decide))
      have a3 : wr.cell? ⟨w.heap.size, 3, none⟩ = some (.int .u32 (a 3)) := cell_of_heap Y0.out (vecA_get a 3 (by decide))
      have b0 : wr.cell? ⟨w.heap.size + 1, 0, none⟩ = some (.int .u32 (b 0)) := cell_of_heap Y1.out (vecA_get b 0 (by decide))
      have b1 : wr.cell? ⟨w.heap.size + 1, 1, none⟩ = some (.int .u32 (b 1)) := cell_of_heap Y1.out (vecA_get b 1 (by decide))
      have b2 : wr.cell? ⟨w.heap.size + 1, 2, none⟩ = some (.int .u32 (b 2)) := cell_of_heap Y1.out (vecA_get b 2 (by decide))
      have b3 : wr.cell? ⟨w.heap.size + 1, 3, none⟩ = some (.int .u32 (b 3)) := cell_of_heap Y1.out (vecA_get b 3 (by decide))
      have hcz : wr.cell? ⟨w.heap.size + 1 + 1 + 1, j, none⟩ = some (.int .u32 (shufTo a b k j)) := cell_of_heap Y3.out (vecA_get _ j hj4)
      have hfz : wr.frozen? ⟨w.heap.size + 1 + 1 + 1, j, none⟩ = false := frozen_of_heap Y3.out
      have hw1 : IntKind.i64.wrap (j : Int) = (j : Int) := IntWalk.i64_in _ (by omega)
      have hw2 : IntKind.i64.wrap (r : Int) = (r : Int) := IntWalk.i64_in _ (by omega)
      have hw3 : IntKind.i64.wrap ((r : Int) * 8) = (r : Int) * 8 := IntWalk.i64_in _ (by omega)
      have hj0 : (0 : Int) ≤ (j : Int) := by omega
      have hj1 : (j : Int) < 4 := by omega
      have hr0 : (0 : Int) ≤ (r : Int) * 8 := by omega
      have hw4 : IntKind.i64.wrap (q : Int) = (q : Int) := IntWalk.i64_in _ (by omega)
      have C1 := Lib.hid (fun u => octet_c b k u HB.out hlt)
      have C2 := Lib.hid (fun u => octet_c a q u HA.out hq)
      unfold vecV vecA at C1 C2
      go_wp2_with fail
      go_region_with (first | (go_at_call 37; (with_reducible refine (C1.out _).mono ?_); rintro e u1 ⟨rfl, hb1⟩; have N1 := Lib.hid (show New wr u1 from (by first | exact hb1 | exact Below.trans ((New.refl wr).drew) hb1)); clear hb1; have W0 := Lib.hid ((N1.out.block _ (lt_of_heap Y0.out)).trans Y0.out); have W1 := Lib.hid ((N1.out.block _ (lt_of_heap Y1.out)).trans Y1.out); have a0x : u1.cell? ⟨w.heap.size, 0, none⟩ = some (.int .u32 (a 0)) := cell_of_heap W0.out (vecA_get a 0 (by decide)); have a1x : u1.cell? ⟨w.heap.size, 1, none⟩ = some (.int .u32 (a 1)) := cell_of_heap W0.out (vecA_get a 1 (by decide)); have a2x : u1.cell? ⟨w.heap.size, 2, none⟩ = some (.int .u32 (a 2)) := cell_of_heap W0.out (vecA_get a 2 (by decide)); have a3x : u1.cell? ⟨w.heap.size, 3, none⟩ = some (.int .u32 (a 3)) := cell_of_heap W0.out (vecA_get a 3 (by decide)); have b0x : u1.cell? ⟨w.heap.size + 1, 0, none⟩ = some (.int .u32 (b 0)) := cell_of_heap W1.out (vecA_get b 0 (by decide)); have b1x : u1.cell? ⟨w.heap.size + 1, 1, none⟩ = some (.int .u32 (b 1)) := cell_of_heap W1.out (vecA_get b 1 (by decide)); have b2x : u1.cell? ⟨w.heap.size + 1, 2, none⟩ = some (.int .u32 (b 2)) := cell_of_heap W1.out (vecA_get b 2 (by decide)); have b3x : u1.cell? ⟨w.heap.size + 1, 3, none⟩ = some (.int .u32 (b 3)) := cell_of_heap W1.out (vecA_get b 3 (by decide));  have hcz1 : u1.cell? ⟨w.heap.size + 1 + 1 + 1, j, none⟩ = some (.int .u32 (shufTo a b k j)) := (N1.out.cell (p := ⟨w.heap.size + 1 + 1 + 1, j, none⟩) (lt_of_heap Y3.out)).trans hcz; clear W0 W1) | (go_at_call 37; (with_reducible refine (C2.out _).mono ?_); rintro e u2 ⟨rfl, hb2⟩; have N2 := Lib.hid (show New u1 u2 from (by first | exact hb2 | exact Below.trans ((New.refl u1).drew) hb2)); clear hb2; have N3 := Lib.hid (N1.out.trans (N2.out.mono N1.out.size));  have hcz2 : u2.cell? ⟨w.heap.size + 1 + 1 + 1, j, none⟩ = some (.int .u32 (shufTo a b k j)) := (N3.out.cell (p := ⟨w.heap.size + 1 + 1 + 1, j, none⟩) (lt_of_heap Y3.out)).trans hcz; have hfz2 : u2.frozen? ⟨w.heap.size + 1 + 1 + 1, j, none⟩ = false := (N3.out.frozen (p := ⟨w.heap.size + 1 + 1 + 1, j, none⟩) (lt_of_heap Y3.out)).trans hfz))
      all_goals
        have Z0 := Lib.hid ((N3.out.block _ (lt_of_heap Y0.out)).trans Y0.out)
        have Z1 := Lib.hid ((N3.out.block _ (lt_of_heap Y1.out)).trans Y1.out)
        have Z2 := Lib.hid ((N3.out.block _ (lt_of_heap Y2.out)).trans Y2.out)
        have Z3 := Lib.hid ((N3.out.block _ (lt_of_heap Y3.out)).trans Y3.out)
        have M2 := Lib.hid (HN.out.trans (N3.out.mono HN.out.size))
        have hX : (bits .or .u32 (shufTo a b k j) (IntKind.u32.wrap (byteF a q * 2 ^ ((r : Int) * 8).toNat))) = bits .or .u32 (shufTo a b k j) (byteF a q * 2 ^ (r * 8) % 4294967296) := by
          rw [show ((r : Int) * 8).toNat = r * 8 by omega]; rfl
        have HX := Lib.hid hX
        clear N1 N2 N3 Y0 Y1 Y2 Y3 HN hfz2 hcz1 hcz2 hfz hcz hX a0 a1 a2 a3 b0 b1 b2 b3 a0x a1x a2x a3x b0x b1x b2x b3x hand C1 C2
        generalize (bits .or .u32 (shufTo a b k j) (IntKind.u32.wrap (byteF a q * 2 ^ ((r : Int) * 8).toNat))) = x at *
        have M3 := Lib.hid (new_only M2.out (only_setCell u2 (w.heap.size + 1 + 1 + 1) j (.int .u32 x)) (by omega))
        have ho := only_setCell u2 (w.heap.size + 1 + 1 + 1) j (.int .u32 x)
        have V0 := Lib.hid ((ho.block w.heap.size (by omega)).trans Z0.out)
        have V1 := Lib.hid ((ho.block (w.heap.size + 1) (by omega)).trans Z1.out)
        have V2 := Lib.hid ((ho.block (w.heap.size + 1 + 1) (by omega)).trans Z2.out)
        have v3 := setCell_at (o := j) Z3.out (.int .u32 x)
        have hv : setV (shufTo a b k) j x = shufTo a b (k + 1) := by rw [HS.out, HX.out]
        rw [vecA_set _ _ hj4, hv] at v3
        have V3 := Lib.hid v3
        clear v3 hv ho Z0 Z1 Z2 Z3 M2 HX HS
        generalize u2.setCell ⟨w.heap.size + 1 + 1 + 1, j, none⟩ (.int .u32 x) = u3 at *
        go_wp2_with fail
        go_roundw
        case rel => exact ⟨k + 1, by omega, by simp, V0.out, V1.out, V2.out, V3.out, M3.out⟩
        case measure => simp [intOf]; omega
    · obtain rfl : k = 16 := by omega
      have z0 := cell_of_heap Y3.out (vecA_get _ 0 (by decide))
      have z1 := cell_of_heap Y3.out (vecA_get _ 1 (by decide))
      have z2 := cell_of_heap Y3.out (vecA_get _ 2 (by decide))
      have z3 := cell_of_heap Y3.out (vecA_get _ 3 (by decide))
      have y0 : wr.cell? ⟨w.heap.size + 1 + 1, 0, none⟩ = some (.int .u32 0) := cell_of_heap Y2.out rfl
      have y1 : wr.cell? ⟨w.heap.size + 1 + 1, 1, none⟩ = some (.int .u32 0) := cell_of_heap Y2.out rfl
      have y2 : wr.cell? ⟨w.heap.size + 1 + 1, 2, none⟩ = some (.int .u32 0) := cell_of_heap Y2.out rfl
      have y3 : wr.cell? ⟨w.heap.size + 1 + 1, 3, none⟩ = some (.int .u32 0) := cell_of_heap Y2.out rfl
      have f0 : wr.frozen? ⟨w.heap.size + 1 + 1, 0, none⟩ = false := frozen_of_heap Y2.out
      have f1 : wr.frozen? ⟨w.heap.size + 1 + 1, 1, none⟩ = false := frozen_of_heap Y2.out
      have f2 : wr.frozen? ⟨w.heap.size + 1 + 1, 2, none⟩ = false := frozen_of_heap Y2.out
      have f3 : wr.frozen? ⟨w.heap.size + 1 + 1, 3, none⟩ = false := frozen_of_heap Y2.out
      go_wp2_with fail
      have h8 := setCell_at (o := 3) (setCell_at (o := 2) (setCell_at (o := 1) (setCell_at (o := 0) Y2.out (.int .u32 (shufTo a b 16 0))) (.int .u32 (shufTo a b 16 1))) (.int .u32 (shufTo a b 16 2))) (.int .u32 (shufTo a b 16 3))
      have n8 := new_only (new_only (new_only (new_only HN.out (only_setCell wr (w.heap.size + 1 + 1) 0 (.int .u32 (shufTo a b 16 0))) (by omega)) (only_setCell _ (w.heap.size + 1 + 1) 1 (.int .u32 (shufTo a b 16 1))) (by omega)) (only_setCell _ (w.heap.size + 1 + 1) 2 (.int .u32 (shufTo a b 16 2))) (by omega)) (only_setCell _ (w.heap.size + 1 + 1) 3 (.int .u32 (shufTo a b 16 3))) (by omega)
      refine ⟨rfl, _, results_cell_slot Try.results12 _ _ _ _ rfl (load_row 32 (w.heap.size + 1 + 1) (vecA (shufTo a b 16)) 32 _ _ h8 Try.underlying32 rfl (vec_size.trans rfl)), rfl, n8⟩
end Go.Proofs.Ytpooghnemlnopaa
