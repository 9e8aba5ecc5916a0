/- thunk.comparisons. -/
import Derived.Test.YtmkjgkldbonpnaaRows
import Derived.Test.YtmkjgkldbonpnaaKitRow
namespace Go.Proofs.Ytmkjgkldbonpnaa
open Go Go.RowKit Go.Cd
set_option linter.unusedVariables false

/-- The two tables of comparisons: operation and exchange, for each condition. -/
def cmpS : Array Value := #[.int .i64 14, .bool false, .int .i64 15, .bool false, .int .i64 16, .bool false, .int .i64 18, .bool true, .int .i64 0, .bool false, .int .i64 0, .bool false, .int .i64 0, .bool false, .int .i64 0, .bool false,
  .int .i64 18, .bool false, .int .i64 16, .bool true, .int .i64 17, .bool false, .int .i64 19, .bool true, .int .i64 19, .bool false, .int .i64 17, .bool true]
def cmpR : Array Value := #[.int .i64 14, .bool false, .int .i64 15, .bool false, .int .i64 0, .bool false, .int .i64 0, .bool false, .int .i64 17, .bool false, .int .i64 19, .bool true, .int .i64 0, .bool false, .int .i64 0, .bool false,
  .int .i64 14, .bool false, .int .i64 15, .bool false, .int .i64 17, .bool false, .int .i64 19, .bool true, .int .i64 19, .bool false, .int .i64 17, .bool true]
theorem size108 : (Try.prog.info? 108).map (·.size) = some 28 := by kernel_rfl
theorem st1 (n : Nat) (c : Array Value) (cs : List Value) (t : TypeId) (w : World) (hn : n = w.heap.size) (hc : c.size = 28) (hs : cs.length = 28) (h1 : Ones cs) :
    (storeRow 108 (.pointer (some ⟨n, 0, none⟩)) (.agg cs.toArray)).run Try.prog (w.alloc (.cells c t)) = .ok .skip (w.alloc (.cells cs.toArray t)) :=
  run_storeRow _ _ _ _ _ _ (store_new _ n c cs.toArray t w hn (by simp [hc, hs]) (size108.trans (by simp [hs])) (ones_all h1))
theorem st2 (n : Nat) (c : Array Value) (cs : List Value) (t : TypeId) (ob : Obj) (w : World) (hn : n = w.heap.size) (hc : c.size = 28) (hs : cs.length = 28) (h1 : Ones cs) :
    (storeRow 108 (.pointer (some ⟨n, 0, none⟩)) (.agg cs.toArray)).run Try.prog ((w.alloc (.cells c t)).alloc ob) = .ok .skip ((w.alloc (.cells cs.toArray t)).alloc ob) :=
  run_storeRow _ _ _ _ _ _ (store_new2 _ n c cs.toArray t ob w hn (by simp [hc, hs]) (size108.trans (by simp [hs])) (ones_all h1))
theorem ld1 (n : Nat) (cs : List Value) (t : TypeId) (w : World) (hn : n = w.heap.size) (hs : cs.length = 28) :
    (loadRow 108 (.pointer (some ⟨n, 0, none⟩))).run Try.prog (w.alloc (.cells cs.toArray t)) = .ok (.value (.agg cs.toArray)) (w.alloc (.cells cs.toArray t)) :=
  run_loadRow _ _ _ _ _ _ (load_new _ n cs.toArray t _ w hn Try.underlying108 rfl (size108.trans (by simp [hs])))
theorem ld2 (n : Nat) (cs : List Value) (t : TypeId) (ob : Obj) (w : World) (hn : n = w.heap.size) (hs : cs.length = 28) :
    (loadRow 108 (.pointer (some ⟨n, 0, none⟩))).run Try.prog ((w.alloc (.cells cs.toArray t)).alloc ob) = .ok (.value (.agg cs.toArray)) ((w.alloc (.cells cs.toArray t)).alloc ob) :=
  run_loadRow _ _ _ _ _ _ (load_new2 _ n cs.toArray t ob _ w hn Try.underlying108 rfl (size108.trans (by simp [hs])))
theorem st1d (n : Nat) (c : Array Value) (cs : List Value) (t : TypeId) (w : World) (hn : n = w.heap.size) (hc : c.size = 28) (hs : cs.length = 28) (h1 : Ones cs) :
    (storeRow 108 (.pointer (some ⟨n, 0, none⟩)) (.agg cs.toArray)).run Try.prog ((w.alloc (.cells c t)).drew) = .ok .skip ((w.alloc (.cells cs.toArray t)).drew) := st1 n c cs t w.drew hn hc hs h1
theorem st2d (n : Nat) (c : Array Value) (cs : List Value) (t : TypeId) (ob : Obj) (w : World) (hn : n = w.heap.size) (hc : c.size = 28) (hs : cs.length = 28) (h1 : Ones cs) :
    (storeRow 108 (.pointer (some ⟨n, 0, none⟩)) (.agg cs.toArray)).run Try.prog (((w.alloc (.cells c t)).alloc ob).drew) = .ok .skip (((w.alloc (.cells cs.toArray t)).alloc ob).drew) := st2 n c cs t ob w.drew hn hc hs h1
theorem ld1d (n : Nat) (cs : List Value) (t : TypeId) (w : World) (hn : n = w.heap.size) (hs : cs.length = 28) :
    (loadRow 108 (.pointer (some ⟨n, 0, none⟩))).run Try.prog ((w.alloc (.cells cs.toArray t)).drew) = .ok (.value (.agg cs.toArray)) ((w.alloc (.cells cs.toArray t)).drew) := ld1 n cs t w.drew hn hs
theorem ld2d (n : Nat) (cs : List Value) (t : TypeId) (ob : Obj) (w : World) (hn : n = w.heap.size) (hs : cs.length = 28) :
    (loadRow 108 (.pointer (some ⟨n, 0, none⟩))).run Try.prog (((w.alloc (.cells cs.toArray t)).alloc ob).drew) = .ok (.value (.agg cs.toArray)) (((w.alloc (.cells cs.toArray t)).alloc ob).drew) := ld2 n cs t ob w.drew hn hs
theorem ex1 (a : Act) (dst : Option Tmp) (x y : Operand) (ty : TypeId) (pos : String) (after : Array Edge) (guard : Option (Nat × Bool)) :
    execOp a.eval { dst, op := .store 108 x y, type := ty, pos, after, guard } = storeRow 108 (a.eval x) (a.eval y) := rfl
theorem ex2 (a : Act) (dst : Option Tmp) (x : Operand) (ty : TypeId) (pos : String) (after : Array Edge) (guard : Option (Nat × Bool)) :
    execOp a.eval { dst, op := .load 108 x, type := ty, pos, after, guard } = loadRow 108 (a.eval x) := rfl
attribute [local go_sem] ones_nil ones_int ones_bool
attribute [local go_sem] st1 st2 ld1 ld2 st1d st2d ld1d ld2d
attribute [local go_sem ↓] ex1 ex2 Go.wp_at_zero Go.wp_at_succ
set_option maxRecDepth 100000 in
set_option maxHeartbeats 4000000 in
theorem comparisons_c (w : World) : Calls Try.prog 70 #[] w fun e w' => e = .returned (.tuple #[.agg cmpS, .agg cmpR]) ∧ New w w' := by
  go_enter Try.func70, Try.ntmps70
  go_wp2_with fail
  go_region
  go_wp2
  refine bodyPost_ret (v := .tuple #[.agg cmpS, .agg cmpR]) ?_ rfl ⟨rfl, by go_grown⟩
  exact results_rows2 Try.results70 _ _ _ _ _ _ rfl rfl
    (load_new2 (P := Try.prog) _ _ cmpS _ _ _ w.drew rfl Try.underlying108 rfl (size108.trans rfl)) (load_new (P := Try.prog) _ _ cmpR _ _ (w.drew.alloc _) (by simp) Try.underlying108 rfl (size108.trans rfl))
end Go.Proofs.Ytmkjgkldbonpnaa
