/- Parts of the proof: KitLaw, Kit, KitMap, WAdd, KitEq, WAtomEq, WAtom, WBin. -/
import Derived.Test.YtmkjgkldbonpnaaRows
import Derived.Carry
import Derived.WalkKit
import Derived.ProofKit
import Derived.OpenShut
import Derived.Lib.SmallJoins
import Derived.WalkLawsBesides
import Derived.WalkSpells
import Derived.Handy
import Derived.Deep.QuietTactic
import Derived.BigQuiet
import Derived.Laws.EntriesVeiled
import Derived.Deep.RegionHeld3
import Derived.Deep.DrawnRows
import Derived.Lib.Hide
import Derived.Deep.DeepFit
import Derived.Deep.LoopGhost
import Derived.Deep.DeepCutAuto
import Derived.Deep.RegionWith
import Derived.Deep.RegionLaw
import Derived.StillTailTactics
import Derived.MapKept
import Derived.Deep.AppendLies
import Derived.OneCell
import Derived.Laws.StructEq
import Derived.ChangeKeysEq
import Derived.KernelRfl
/- What a law's row asks behind the call, where the call has made new blocks alone: one theorem for all laws. -/
namespace Go.Cd
open Go Go.ChangeShapes Go.WideShapes Go.ChangeAt Go.RowKit
section
variable {H : Type} {enc : TypeId × Value → H} {P : Program}
theorem trodAll_keep (hl : laidOutB P = true) {W W' : World} (hb : Below W.heap.size W W') : ∀ {ts : List TypeId} {vs : List Value} {ds : List (DataW H)} {ps : List MemPlace},
    (∀ t ∈ ts, P.readableRec t = true ∧ t < P.types.size) → DataW.TrodAll enc P W 0 (fun _ => true) true ts vs ds ps → (∀ x ∈ ps, x.block < W.heap.size) → DataW.TrodAll enc P W' 0 (fun b => decide (b < W.heap.size)) true ts vs ds ps
  | [], _, _, _, _, h, _ => by
    obtain ⟨rfl, rfl, rfl⟩ := trodAll_nil h
    rfl
  | t :: ts, _, _, _, hr, h, hlt => by
    obtain ⟨v, vs', d, ds', p, q, rfl, rfl, rfl, h1, h2⟩ := trodAll_cons h
    refine ⟨p, q, Below.trod hl (hr t (by simp)).1 (hr t (by simp)).2 h1 hb (fun x hx => hlt x (by simp [hx])), trodAll_keep hl hb (fun t' ht => hr t' (by simp [ht])) h2 (fun x hx => hlt x (by simp [hx])), rfl⟩
/-- A law that answered true and made new blocks alone. -/
theorem law_post {f : Func} {s : ChangeSpec} {W W' : World} {args : Array Value} {ds gs : List (DataW H)} {before : List MemPlace} {tb : TypeId} (hl : laidOutB P = true) (hr : ∀ t ∈ f.params.toList, P.readableRec t = true ∧ t < P.types.size)
    (hrt : f.resultTypes = #[tb]) (hub : P.underlying tb = some .bool) (hv : s.vars = [])
    (hW : DataW.Whole enc P f.params.toList s.vars false W args.toList ds gs before)
    (hfn : s.fn H ds = { results := [.lit (.bool true)], args := ds }) (hb : Below W.heap.size W W') :
    s.post enc P f false true false false W args (.bool true) W' := by
  have hlt : ∀ p ∈ before, p.block < W.heap.size := fun p hp => hW.lt p hp
  have hW' := hW
  obtain ⟨p, q, hA, hV, rfl, hfz, hnd⟩ := hW'
  rw [hv] at hV
  obtain ⟨rfl, rfl⟩ := trodVars_none hV
  refine ⟨ds, [], p ++ [], [], p, [], hW, ?_, ?_, ?_, World.keptBut_mono (fun x hx => ⟨hx, Or.inr (Or.inl (by simpa using hx))⟩) (hb.frame (· ∈ p ++ [])), fun h => by cases h⟩
  · rw [hrt, List.append_nil, hfn]
    exact trodAll_cons_mk (shut_bool hub _) trodAll_mk0
  · rw [List.append_nil, hfn]
    exact trodAll_keep hl hb hr hA (fun x hx => hlt x (by simp [hx]))
  · rw [List.append_nil, hfn, hv]
    rfl
end
theorem wf_u32 {a : Int} (h : (Lit.int .u32 a).wf = true) : 0 ≤ a ∧ a < 4294967296 := by
  have h1 : IntKind.u32.min ≤ a ∧ a ≤ IntKind.u32.max := by simpa [Lit.wf] using h
  have e1 : IntKind.u32.min = 0 := by decide
  have e2 : IntKind.u32.max = 4294967295 := by decide
  omega
theorem wf_i64 {a : Int} (h : (Lit.int .i64 a).wf = true) : -9223372036854775808 ≤ a ∧ a < 9223372036854775808 := by
  have h1 : IntKind.i64.min ≤ a ∧ a ≤ IntKind.i64.max := by simpa [Lit.wf] using h
  have e1 : IntKind.i64.min = -9223372036854775808 := by decide
  have e2 : IntKind.i64.max = 9223372036854775807 := by decide
  omega
end Go.Cd
/- Small laws for walks: a call through a function value in a slot; what is below stays. -/
namespace Go.Cd
open Go Go.RowKit

def callValue (v : Value) (args : Array Value) : Sem Next := do let d ← Deferred.ofValue v args; invoke d.target d.args
theorem execOp_call_tmp (a : Act) (dst : Option Tmp) (t : Nat) (xs : Array Operand) (ats : Array TypeId) (ty : TypeId) (pos : String) (after : Array Edge) (guard : Option (Nat × Bool)) :
    execOp a.eval { dst, op := .call { callee := .value (.tmp t), args := xs, argTypes := ats }, type := ty, pos, after, guard } = callValue (a.eval (.tmp t)) (xs.map a.eval) := rfl
theorem callValue_func (f : FuncId) (first captured args : Array Value) : callValue (.func (.func f) first captured) args = callFunc f (first ++ args ++ captured) := rfl
attribute [go_sem ↓] execOp_call_tmp callValue_func

/-- What a call that makes memory leaves of what was there. -/
abbrev New (w w' : World) : Prop := Below w.heap.size w w'
theorem New.refl (w : World) : New w w := Below.refl _ _

/-- Behind such a call: all old cells and marks as before, for the walk's own rules. -/
theorem bcell {W w1 : World} (hb : New W w1) : (∀ b o, b < W.heap.size → w1.cell? ⟨b, o, none⟩ = W.cell? ⟨b, o, none⟩) ∧ (∀ b o, b < W.heap.size → w1.frozen? ⟨b, o, none⟩ = W.frozen? ⟨b, o, none⟩) :=
  ⟨fun b o h => hb.cell (p := ⟨b, o, none⟩) h, fun b o h => hb.frozen (p := ⟨b, o, none⟩) h⟩
/-- The same, and that no block has gone. -/
theorem bcell3 {W w1 : World} (hb : New W w1) : (∀ b o, b < W.heap.size → w1.cell? ⟨b, o, none⟩ = W.cell? ⟨b, o, none⟩) ∧ (∀ b o, b < W.heap.size → w1.frozen? ⟨b, o, none⟩ = W.frozen? ⟨b, o, none⟩) ∧ W.heap.size ≤ w1.heap.size :=
  ⟨fun b o h => hb.cell (p := ⟨b, o, none⟩) h, fun b o h => hb.frozen (p := ⟨b, o, none⟩) h, hb.size⟩
theorem Calls.new {P : Program} {f : FuncId} {args : Array Value} {w : World} {v : Value} (h : Calls P f args w fun e w' => e = .returned v ∧ w = w') : Calls P f args w fun e w' => e = .returned v ∧ New w w' :=
  h.mono fun _ _ ⟨he, hw⟩ => ⟨he, hw ▸ New.refl _⟩
theorem ret_bool {a b : Bool} (h : a = b) : Ending.returned (.bool a) = .returned (.bool b) := by rw [h]
theorem ret_int {k : IntKind} {a b : Int} (h : a = b) : Ending.returned (.int k a) = .returned (.int k b) := by rw [h]
end Go.Cd
/- Laws for small maps that a function makes itself: whole numbers as keys, all entries known. -/
namespace Go.Cd
open Go Go.RowKit Go.MapKept

theorem heap_alloc_at (w : World) (o : Obj) (r : Nat) (hr : r = w.heap.size) : (w.alloc o).heap[r]? = some o := by
  subst hr; exact (MapKept.heap_alloc w _).1
theorem alloc_set_at (w : World) (o o' : Obj) (r : Nat) (hr : r = w.heap.size) : ({ (w.alloc o) with heap := (w.alloc o).heap.setIfInBounds r o' } : World) = w.alloc o' := by
  subst hr
  show ({ heap := (w.heap.push o).setIfInBounds w.heap.size o', tape := w.tape, drawn := w.drawn, os := w.os, output := w.output } : World) = { heap := w.heap.push o', tape := w.tape, drawn := w.drawn, os := w.os, output := w.output }
  have e : (w.heap.push o).setIfInBounds w.heap.size o' = w.heap.push o' := by
    rw [← Array.toList_inj, Array.toList_setIfInBounds, Array.toList_push, Array.toList_push, ← Array.length_toList, List.set_append_right _ _ (Nat.le_refl _)]
    simp
  rw [e]

theorem isKey_int (j : IntKind) (k : Int) : IsKey (.int j) (.int j k) := rfl
section
variable {P : Program} {T K E : TypeId} {j : IntKind} (hT : P.underlying T = some (.map K E)) (hK : P.underlying K = some (.int j))
include hT hK
/-- A new entry into a map that is the newest block. -/
theorem run_mapInsert (es : Array MapEntry) (c : Nat) (k : Int) (v : Value) (w : World) (r : Nat) (hr : r = w.heap.size) (hf : Instr.findNow (.int j) (.int j k) es.toList 0 = some none) :
    (Instr.mapUpdate T (.map (some r)) (.int j k) v).run P (w.alloc (.map es c)) = .ok () (w.alloc (.map (es.push { key := .int j k, val := v, born := c }) (c + 1))) := by
  have h1 := heap_alloc_at w (.map es c) r hr
  have h2 := alloc_set_at w (.map es c) (.map (es.push { key := .int j k, val := v, born := c }) (c + 1)) r hr
  simp only [Instr.mapUpdate, Sem.run_bind, run_underlying hT, MapKept.run_getObj_map h1, run_checkKey hK (isKey_int j k), run_findKey hK hf, MapKept.run_setObj_map _ h1, Result.andThen, h2]
/-- A lookup of a key that is there. -/
theorem run_mapGet (es : Array MapEntry) (c : Nat) (k : Int) (i : Nat) (v : Value) (w : World) (r : Nat) (hb : w.heap[r]? = some (.map es c)) (hf : Instr.findNow (.int j) (.int j k) es.toList 0 = some (some (i, v))) (ok : Bool) :
    (Instr.lookup T (.map (some r)) (.int j k) ok).run P w = .ok (if ok then .tuple #[v, .bool true] else v) w := by
  simp [Instr.lookup, run_underlying hT, MapKept.run_getObj_map hb, run_checkKey hK (isKey_int j k), run_findKey hK hf, Result.andThen]
theorem run_mapGet_at (es : Array MapEntry) (c : Nat) (k : Int) (i : Nat) (v : Value) (w : World) (r : Nat) (hr : r = w.heap.size) (hf : Instr.findNow (.int j) (.int j k) es.toList 0 = some (some (i, v))) (ok : Bool) :
    (Instr.lookup T (.map (some r)) (.int j k) ok).run P (w.alloc (.map es c)) = .ok (if ok then .tuple #[v, .bool true] else v) (w.alloc (.map es c)) :=
  run_mapGet hT hK es c k i v _ r (heap_alloc_at w _ r hr) hf ok
/-- A lookup of a key that is not there. -/
theorem run_mapMiss (es : Array MapEntry) (c : Nat) (k : Int) (z : Value) (w : World) (r : Nat) (hb : w.heap[r]? = some (.map es c)) (hz : (zeroValue E).run P w = .ok z w) (hf : Instr.findNow (.int j) (.int j k) es.toList 0 = some none) (ok : Bool) :
    (Instr.lookup T (.map (some r)) (.int j k) ok).run P w = .ok (if ok then .tuple #[z, .bool false] else z) w := by
  simp [Instr.lookup, run_underlying hT, MapKept.run_getObj_map hb, run_checkKey hK (isKey_int j k), run_findKey hK hf, hz, Result.andThen]
end
end Go.Cd
/- Contracts of the simplifier's add, bin, is, fixed. -/
namespace Go.Proofs.Ytmkjgkldbonpnaa
open Go Go.RowKit Go.Cd
set_option linter.unusedVariables false

/-- All but block bs and a row is as it was. -/
structure Kp (bs : Nat) (row : Option Nat) (w w' : World) : Prop where
  os : w'.os = w.os
  tape : w'.tape = w.tape
  output : w'.output = w.output
  size : w.heap.size ≤ w'.heap.size
  block : ∀ k, k < w.heap.size → k ≠ bs → some k ≠ row → w'.heap[k]? = w.heap[k]?

/-- A world that is another but for one block's cells. -/
structure Only (r : Nat) (w w' : World) : Prop where
  size : w'.heap.size = w.heap.size
  os : w'.os = w.os
  tape : w'.tape = w.tape
  output : w'.output = w.output
  block : ∀ k, k ≠ r → w'.heap[k]? = w.heap[k]?
theorem Kp.sets {bs r : Nat} {row : Option Nat} {a b c : World} (h : Kp bs row a b) (k : Only r b c) (hr : a.heap.size ≤ r := by omega) : Kp bs row a c :=
  ⟨k.os.trans h.os, k.tape.trans h.tape, k.output.trans h.output, by rw [k.size]; exact h.size, fun x hx h1 h2 => (k.block x (by omega)).trans (h.block x hx h1 h2)⟩
theorem heap3_old (w : World) (A B C : Obj) (k : Nat) (hk : k < w.heap.size) : (((w.alloc A).alloc B).alloc C).heap[k]? = w.heap[k]? := by
  rw [(MapKept.heap_alloc _ _).2 k (by simp; omega), (MapKept.heap_alloc _ _).2 k (by simp; omega), (MapKept.heap_alloc _ _).2 k hk]
theorem heap3_mid (w : World) (A B C : Obj) : (((w.alloc A).alloc B).alloc C).heap[w.heap.size + 1]? = some B := by
  rw [(MapKept.heap_alloc _ _).2 _ (by simp)]
  exact heap_alloc_at _ _ _ (by simp)
theorem cell_of_heap {w : World} {b i : Nat} {c : Array Value} {t : TypeId} {v : Value} (h : w.heap[b]? = some (.cells c t)) (hc : c[i]? = some v) : w.cell? ⟨b, i, none⟩ = some v := by
  simp [World.cell?, h, hc]
theorem frozen_of_heap {w : World} {b i : Nat} {c : Array Value} {t : TypeId} (h : w.heap[b]? = some (.cells c t)) : w.frozen? ⟨b, i, none⟩ = false := by
  simp [World.frozen?, h]
theorem infoE : (Try.prog.info? 64).map (fun i => (i.zero, i.size, i.bytes)) = some (some (.agg #[.int .i64 0, .int .i64 0, .int .i64 0, .int .i64 0, .slice none 0 0]), 5, 56) := by kernel_rfl
/-- What adding an expression leaves. -/
def AddPost (base bs n : Nat) (v : Value) (xs new : List Value) (tmp : Int) (w : World) (e : Ending) (w' : World) : Prop :=
  ∃ g cap, e = .returned (.agg #[.int .i64 (tmp + n), .int .i64 0, .int .u32 0, .int .u32 0, .int .u32 0, .int .u32 0]) ∧
    w'.heap[bs]? = some (.cells #[.slice (some ⟨g, 0, none⟩) (n + 1) cap, .int .i64 tmp] 76) ∧
    w'.ownsRow base 64 5 (.slice (some ⟨g, 0, none⟩) (n + 1) cap) (n + 1) (xs ++ new) ∧ (v.ownBlock = some g ∨ w.heap.size ≤ g) ∧ Kp bs v.ownBlock w w'
theorem heap_setCell_ne (w : World) (a : Addr) (u : Value) (k : Nat) (h : k ≠ a.block) : (w.setCell a u).heap[k]? = w.heap[k]? := Below.heap_setCell w a u k h
theorem heap_setCell_0 {w : World} {b : Nat} {x y u : Value} {t : TypeId} (h : w.heap[b]? = some (.cells #[x, y] t)) : (w.setCell ⟨b, 0, none⟩ u).heap[b]? = some (.cells #[u, y] t) := by
  simp [World.setCell, Array.getElem?_modify, h]
theorem os_drew (w : World) : w.drew.os = w.os := by unfold World.drew; rfl
theorem tape_drew (w : World) : w.drew.tape = w.tape := by unfold World.drew; rfl
theorem output_drew (w : World) : w.drew.output = w.output := by unfold World.drew; rfl
theorem os_setCell (w : World) (a : Addr) (v : Value) : (w.setCell a v).os = w.os := by unfold World.setCell; rfl
theorem tape_setCell (w : World) (a : Addr) (v : Value) : (w.setCell a v).tape = w.tape := by unfold World.setCell; rfl
theorem output_setCell (w : World) (a : Addr) (v : Value) : (w.setCell a v).output = w.output := by unfold World.setCell; rfl
theorem heap_drew (w : World) : w.drew.heap = w.heap := rfl
theorem ownsRow_drew {w : World} {base : Nat} {e : TypeId} {size : Nat} {v : Value} {n : Nat} {xs : List Value} (h : w.ownsRow base e size v n xs) : w.drew.ownsRow base e size v n xs := h
theorem heap_set_at {w : World} {b : Nat} {c : Array Value} {t : TypeId} (h : w.heap[b]? = some (.cells c t)) (i : Nat) (u : Value) : (w.setCell ⟨b, i, none⟩ u).heap[b]? = some (.cells (c.setIfInBounds i u) t) := by
  simp [World.setCell, Array.getElem?_modify, h]
attribute [local go_sem ↓] Go.wp_at_zero Go.wp_at_succ
set_option maxRecDepth 100000 in
set_option maxHeartbeats 1000000 in
theorem add_c (base bs n : Nat) (v lv : Value) (xs : List Value) (tmp k ty op off : Int) (w : World) (hs : w.heap[bs]? = some (.cells #[v, .int .i64 tmp] 76)) (hown : w.ownsRow base 64 5 v n xs) (hbase : base ≤ w.heap.size) (hv : v.ownBlock ≠ some bs) (hn : n ≤ 1000) (ht0 : 0 ≤ tmp) (ht1 : tmp ≤ 10000) (hl : ∃ a b c, lv = .slice a b c) :
    Calls Try.prog 69 #[.pointer (some ⟨bs, 0, none⟩), .agg #[.int .i64 k, .int .i64 ty, .int .i64 op, .int .i64 off, lv]] w fun e w' => AddPost base bs n v xs [.int .i64 k, .int .i64 ty, .int .i64 op, .int .i64 off, lv] tmp w e w' := by
  obtain ⟨i0, hi, hz0, hz1, hz2⟩ := info_parts infoE
  have hc0 : w.cell? ⟨bs, 0, none⟩ = some v := by simp [World.cell?, hs]
  have hc1 : w.cell? ⟨bs, 1, none⟩ = some (.int .i64 tmp) := by simp [World.cell?, hs]
  have hf0 : w.frozen? ⟨bs, 0, none⟩ = false := by simp [World.frozen?, hs]
  obtain ⟨la, lb, lc, rfl⟩ := hl
  have hbw : bs < w.heap.size := by
    rcases Nat.lt_or_ge bs w.heap.size with h | h
    · exact h
    · rw [Array.getElem?_eq_none h] at hs; cases hs
  have hbw1 : bs < w.heap.size + 1 := by omega
  have hbw2 : bs < w.heap.size + 1 + 1 := by omega
  have hbw3 : bs < w.heap.size + 1 + 1 + 1 := by omega
  have Hs := Lib.hid hs
  clear hs
  go_enter Try.func69, Try.ntmps69
  go_wp2_with fail
  go_region_law (refine step_append_lies _ (by rfl) _ _ _ (by rfl) base 64 i0 (.agg #[.int .i64 0, .int .i64 0, .int .i64 0, .int .i64 0, .slice none 0 0]) 5 56 Try.underlying24 hi hz0 hz1 hz2 rfl (by omega) v n xs (by rfl) ?hown ⟨w.heap.size + 2, 0, none⟩ 1 1 [.int .i64 k, .int .i64 ty, .int .i64 op, .int .i64 off, .slice la lb lc] (by rfl) (by rfl) ?hnews ?h1 (by omega) ?h63 ?hbytes ?hbase (w.heap.size + 3) ?hH ?_; (case hown => exact ((hown.alloc _).alloc _).alloc _); (case hnews => exact World.news_of_block (heap_alloc_at _ _ _ (by simp))); (case h1 => (intro u hu; simp at hu; rcases hu with rfl | rfl | rfl | rfl | rfl <;> rfl)); (case h63 => (unfold maxLen; omega)); (case hbytes => omega); (case hbase => (simp; omega)); (case hH => simp); intro g cap w1 hown1 hgrow hat hlt; (have b0 := (hgrow.block bs (by simp; omega) (fun q => hv q.symm)).trans ((heap3_old w _ _ _ bs hbw).trans Hs.out)); (have b1 := (hgrow.block (w.heap.size + 1) (by simp) (fun q => by have := (hown.lt _ q.symm).2; omega)).trans (heap3_mid w _ _ _)); (have c0 : w1.cell? ⟨bs, 0, none⟩ = some v := cell_of_heap b0 rfl); (have c1 : w1.cell? ⟨bs, 1, none⟩ = some (.int .i64 tmp) := cell_of_heap b0 rfl); (have f0 := frozen_of_heap (i := 0) b0); (have d0 : w1.cell? ⟨w.heap.size + 1, 0, none⟩ = some (.int .i64 0) := cell_of_heap b1 rfl); (have df : ∀ i, w1.frozen? ⟨w.heap.size + 1, i, none⟩ = false := fun i => frozen_of_heap b1); (have d1 : w1.cell? ⟨w.heap.size + 1, 1, none⟩ = some (.int .i64 0) := cell_of_heap b1 rfl); (have d2 : w1.cell? ⟨w.heap.size + 1, 2, none⟩ = some (.int .u32 0) := cell_of_heap b1 rfl); (have d3 : w1.cell? ⟨w.heap.size + 1, 3, none⟩ = some (.int .u32 0) := cell_of_heap b1 rfl); (have d4 : w1.cell? ⟨w.heap.size + 1, 4, none⟩ = some (.int .u32 0) := cell_of_heap b1 rfl); (have d5 : w1.cell? ⟨w.heap.size + 1, 5, none⟩ = some (.int .u32 0) := cell_of_heap b1 rfl); (have B0 := Lib.hid b0); (have B1 := Lib.hid b1); clear b0 b1)
  all_goals
    have hbne : bs ≠ w.heap.size + 1 := by omega
    have hat' : v.ownBlock = some g ∨ w.heap.size ≤ g := by
      rcases hat with h | h
      · exact .inl h
      · exact .inr (by omega)
    have hg : g ≠ bs := fun q => by
      rcases hat with h | h
      · exact hv (q ▸ h)
      · omega
    have e0 := World.cell?_setCell_same w1 ⟨bs, 0, none⟩ (.slice (some ⟨g, 0, none⟩) (n + 1) cap) c0
    have e1 : (w1.setCell ⟨bs, 0, none⟩ (.slice (some ⟨g, 0, none⟩) (n + 1) cap)).cell? ⟨bs, 1, none⟩ = some (.int .i64 tmp) := (World.cell?_setCell_other w1 ⟨bs, 0, none⟩ ⟨bs, 1, none⟩ _ (by simp)).trans c1
    have DB := Lib.hid ((heap_setCell_ne w1 ⟨bs, 0, none⟩ (.slice (some ⟨g, 0, none⟩) (n + 1) cap) (w.heap.size + 1) (by simp; omega)).trans B1.out)
    have EB := Lib.hid (heap_setCell_0 (u := .slice (some ⟨g, 0, none⟩) (n + 1) cap) B0.out)
    have HO := Lib.hid (ownsRow_setCell_other hown1 (a := ⟨bs, 0, none⟩) (by simpa [Value.ownBlock] using hg) (.slice (some ⟨g, 0, none⟩) (n + 1) cap))
    have hsz2 : w.heap.size + 1 + 1 + 1 ≤ w1.heap.size := by have := hgrow.size; simpa using this
    have HK : Kp bs v.ownBlock w (w1.setCell ⟨bs, 0, none⟩ (.slice (some ⟨g, 0, none⟩) (n + 1) cap)) :=
      ⟨hgrow.os, hgrow.tape, hgrow.output, by simp; omega, fun k hk hkb hkr => by
        rw [heap_setCell_ne _ _ _ _ (by simpa using hkb)]
        exact (hgrow.block k (by simp; omega) hkr).trans (heap3_old w _ _ _ k hk)⟩
    have D0 := (World.cell?_setCell_other w1 ⟨bs, 0, none⟩ ⟨w.heap.size + 1, 0, none⟩ (.slice (some ⟨g, 0, none⟩) (n + 1) cap) (by intro q; injection q with q; omega)).trans d0
    have D1 := (World.cell?_setCell_other w1 ⟨bs, 0, none⟩ ⟨w.heap.size + 1, 1, none⟩ (.slice (some ⟨g, 0, none⟩) (n + 1) cap) (by simp)).trans d1
    have D2 := (World.cell?_setCell_other w1 ⟨bs, 0, none⟩ ⟨w.heap.size + 1, 2, none⟩ (.slice (some ⟨g, 0, none⟩) (n + 1) cap) (by simp)).trans d2
    have D3 := (World.cell?_setCell_other w1 ⟨bs, 0, none⟩ ⟨w.heap.size + 1, 3, none⟩ (.slice (some ⟨g, 0, none⟩) (n + 1) cap) (by simp)).trans d3
    have D4 := (World.cell?_setCell_other w1 ⟨bs, 0, none⟩ ⟨w.heap.size + 1, 4, none⟩ (.slice (some ⟨g, 0, none⟩) (n + 1) cap) (by simp)).trans d4
    have D5 := (World.cell?_setCell_other w1 ⟨bs, 0, none⟩ ⟨w.heap.size + 1, 5, none⟩ (.slice (some ⟨g, 0, none⟩) (n + 1) cap) (by simp)).trans d5
    have DF : ∀ i, (w1.setCell ⟨bs, 0, none⟩ (.slice (some ⟨g, 0, none⟩) (n + 1) cap)).frozen? ⟨w.heap.size + 1, i, none⟩ = false := fun i => (World.frozen?_setCell _ _ _ _).trans (df i)
    clear c0 c1 f0 d0 d1 d2 d3 d4 d5 df B0 B1 hown1 hgrow
    generalize w1.setCell ⟨bs, 0, none⟩ (.slice (some ⟨g, 0, none⟩) (n + 1) cap) = w2 at *
    go_wp2_with fail
    go_region
    go_wp2
    have hx : tmp + ((n : Int) + 1) - 1 = tmp + n := by omega
    rw [hx]
    have HH : ∀ (W : World) (x0 x1 x2 x3 x4 x5 : Value) (k : Nat), k ≠ w.heap.size + 1 → ((((((W.setCell ⟨w.heap.size + 1, 0, none⟩ x0).setCell ⟨w.heap.size + 1, 1, none⟩ x1).setCell ⟨w.heap.size + 1, 2, none⟩ x2).setCell ⟨w.heap.size + 1, 3, none⟩ x3).setCell ⟨w.heap.size + 1, 4, none⟩ x4).setCell ⟨w.heap.size + 1, 5, none⟩ x5).heap[k]? = W.heap[k]? := by
      intro W x0 x1 x2 x3 x4 x5 k hk
      rw [heap_setCell_ne _ _ _ _ hk, heap_setCell_ne _ _ _ _ hk, heap_setCell_ne _ _ _ _ hk, heap_setCell_ne _ _ _ _ hk, heap_setCell_ne _ _ _ _ hk, heap_setCell_ne _ _ _ _ hk]
    generalize hW : ((((((w2.setCell ⟨w.heap.size + 1, 0, none⟩ (.int .i64 (tmp + n))).setCell ⟨w.heap.size + 1, 1, none⟩ (.int .i64 0)).setCell ⟨w.heap.size + 1, 2, none⟩ (.int .u32 0)).setCell ⟨w.heap.size + 1, 3, none⟩ (.int .u32 0)).setCell ⟨w.heap.size + 1, 4, none⟩ (.int .u32 0)).setCell ⟨w.heap.size + 1, 5, none⟩ (.int .u32 0)) = w3
    have HO3 : Only (w.heap.size + 1) w2 w3.drew := by
      subst hW
      refine ⟨by simp [heap_drew], ?_, ?_, ?_, fun k hk => by rw [heap_drew, HH _ _ _ _ _ _ _ k hk]⟩
      · simp only [os_drew, os_setCell]
      · simp only [tape_drew, tape_setCell]
      · simp only [output_drew, output_setCell]
    have HR : w3.drew.heap[w.heap.size + 1]? = some (.cells #[.int .i64 (tmp + n), .int .i64 0, .int .u32 0, .int .u32 0, .int .u32 0, .int .u32 0] 59) := by
      subst hW
      rw [heap_drew]
      exact heap_set_at (heap_set_at (heap_set_at (heap_set_at (heap_set_at (heap_set_at DB.out 0 _) 1 _) 2 _) 3 _) 4 _) 5 _
    have HW3 : w3.drew.ownsRow base 64 5 (.slice (some ⟨g, 0, none⟩) (n + 1) cap) (n + 1) (xs ++ [.int .i64 k, .int .i64 ty, .int .i64 op, .int .i64 off, .slice la lb lc]) := by
      subst hW
      have hne : Value.ownBlock (.slice (some ⟨g, 0, none⟩) (n + 1) cap) ≠ some (w.heap.size + 1) := by
        simp only [Value.ownBlock, ne_eq, Option.some.injEq]
        rcases hat with h | h
        · have := (hown.lt _ h).2; omega
        · omega
      exact ownsRow_drew (ownsRow_setCell_other (ownsRow_setCell_other (ownsRow_setCell_other (ownsRow_setCell_other (ownsRow_setCell_other (ownsRow_setCell_other HO.out hne _) hne _) hne _) hne _) hne _) hne _)
    clear hW HH D0 D1 D2 D3 D4 D5 DF
    generalize w3.drew = w4 at *
    refine bodyPost_ret (v := .agg #[.int .i64 (tmp + n), .int .i64 0, .int .u32 0, .int .u32 0, .int .u32 0, .int .u32 0]) ?_ rfl ?_
    · exact results_cell_row Try.results69 _ _ (w.heap.size + 1) 59 _ (0, 0) _ rfl HR Try.underlying59 rfl (by kernel_rfl)
    · exact ⟨g, cap, rfl, (HO3.block bs hbne).trans EB.out, HW3, hat', HK.sets HO3 (Nat.le_succ _)⟩
end Go.Proofs.Ytmkjgkldbonpnaa
/- Laws for '==' of structs and arrays, as one Bool. -/
namespace Go.Cd
open Go
section
variable {P : Program} {d : Nat} {xs ys : Array Value} {f : Field} {fs : List Field} {a b : Value} {r s : Bool} {w : World}
theorem eqF_nil : (Op.eqFields d xs ys []).run P w = .ok true w := by simp [Op.eqFields]
theorem eqF_cons (hn : f.name ≠ "_") (ha : (part f.type xs f.offset).run P w = .ok a w) (hb : (part f.type ys f.offset).run P w = .ok b w) (he : (Op.equalIn d f.type a b).run P w = .ok r w)
    (hr : (Op.eqFields d xs ys fs).run P w = .ok s w) : (Op.eqFields d xs ys (f :: fs)).run P w = .ok (r && s) w := by
  rw [Op.eqFields, if_pos hn]
  simp only [Sem.run_bind, ha, hb, he, Result.andThen_ok]
  cases r <;> simp [hr]
theorem eqI_nil {e n : Nat} : (Op.eqItems d e n xs ys []).run P w = .ok true w := by simp [Op.eqItems]
theorem eqI_cons {e n i : Nat} {is : List Nat} (ha : (part e xs (i * n)).run P w = .ok a w) (hb : (part e ys (i * n)).run P w = .ok b w) (he : (Op.equalIn d e a b).run P w = .ok r w)
    (hr : (Op.eqItems d e n xs ys is).run P w = .ok s w) : (Op.eqItems d e n xs ys (i :: is)).run P w = .ok (r && s) w := by
  rw [Op.eqItems]
  simp only [Sem.run_bind, ha, hb, he, Result.andThen_ok]
  cases r <;> simp [hr]
theorem eq_struct {t : TypeId} {F : Array Field} (hu : P.underlying t = some (.struct F)) (hp : P.stoodInHeld t = false) (h : (Op.eqFields d xs ys F.toList).run P w = .ok r w) : (Op.equalIn (d + 1) t (.agg xs) (.agg ys)).run P w = .ok r w := by
  have hF : P.fieldsOf t = F := by simp [Program.fieldsOf, hu]
  rw [run_equalIn_struct w d t xs ys (by rw [hF]; exact hu) hp, hF]
  exact h
end
end Go.Cd
/- '==' of vectors and atoms. -/
namespace Go.Proofs.Ytmkjgkldbonpnaa
open Go Go.Cd
set_option linter.unusedVariables false

theorem infoU32 : ∃ i, Try.prog.info? 29 = some i := by
  cases h : Try.prog.info? 29 with
  | some i => exact ⟨i, rfl⟩
  | none => exact absurd (show (Try.prog.info? 29).isSome = true by kernel_rfl) (by simp [h])
theorem cellsU32 : Try.prog.cellsOf 29 = 1 := by kernel_rfl
theorem eq_vec (d : Nat) (a0 a1 a2 a3 b0 b1 b2 b3 : Int) (w : World) :
    (Op.equalIn (d + 2) 57 (.agg #[.int .u32 a0, .int .u32 a1, .int .u32 a2, .int .u32 a3]) (.agg #[.int .u32 b0, .int .u32 b1, .int .u32 b2, .int .u32 b3])).run Try.prog w = .ok (a0 == b0 && (a1 == b1 && (a2 == b2 && (a3 == b3 && true)))) w := by
  obtain ⟨i, hi⟩ := infoU32
  rw [run_equalIn_array w (d + 1) _ _ Try.underlying57 hi, cellsU32]
  refine eqI_cons (i := 0) (a := .int .u32 a0) (b := .int .u32 b0) (by kernel_rfl) (by kernel_rfl) (run_equalIn_int w d _ _ _ _ _ Try.underlying29) ?_
  refine eqI_cons (i := 1) (a := .int .u32 a1) (b := .int .u32 b1) (by kernel_rfl) (by kernel_rfl) (run_equalIn_int w d _ _ _ _ _ Try.underlying29) ?_
  refine eqI_cons (i := 2) (a := .int .u32 a2) (b := .int .u32 b2) (by kernel_rfl) (by kernel_rfl) (run_equalIn_int w d _ _ _ _ _ Try.underlying29) ?_
  refine eqI_cons (i := 3) (a := .int .u32 a3) (b := .int .u32 b3) (by kernel_rfl) (by kernel_rfl) (run_equalIn_int w d _ _ _ _ _ Try.underlying29) ?_
  exact eqI_nil
theorem eq_atom (d : Nat) (a0 a1 a2 a3 a4 a5 b0 b1 b2 b3 b4 b5 : Int) (w : World) :
    (Op.equalIn (d + 3) 59 (.agg #[.int .i64 a0, .int .i64 a1, .int .u32 a2, .int .u32 a3, .int .u32 a4, .int .u32 a5]) (.agg #[.int .i64 b0, .int .i64 b1, .int .u32 b2, .int .u32 b3, .int .u32 b4, .int .u32 b5])).run Try.prog w
     = .ok (a0 == b0 && (a1 == b1 && ((a2 == b2 && (a3 == b3 && (a4 == b4 && (a5 == b5 && true)))) && true))) w := by
  refine eq_struct Try.underlying59 (by kernel_rfl) ?_
  refine eqF_cons (a := .int .i64 a0) (b := .int .i64 b0) (by decide) (by kernel_rfl) (by kernel_rfl) (run_equalIn_int w (d + 1) _ _ _ _ _ Try.underlying3) ?_
  refine eqF_cons (a := .int .i64 a1) (b := .int .i64 b1) (by decide) (by kernel_rfl) (by kernel_rfl) (run_equalIn_int w (d + 1) _ _ _ _ _ Try.underlying3) ?_
  refine eqF_cons (a := .agg #[.int .u32 a2, .int .u32 a3, .int .u32 a4, .int .u32 a5]) (b := .agg #[.int .u32 b2, .int .u32 b3, .int .u32 b4, .int .u32 b5]) (by decide) (by kernel_rfl) (by kernel_rfl) (eq_vec d _ _ _ _ _ _ _ _ w) ?_
  exact eqF_nil
/-- The same, for the walk: '==' and '!=' at once. -/
theorem eql_atom (a0 a1 a2 a3 a4 a5 b0 b1 b2 b3 b4 b5 : Int) (w : World) :
    (binOp .eql 59 (.agg #[.int .i64 a0, .int .i64 a1, .int .u32 a2, .int .u32 a3, .int .u32 a4, .int .u32 a5]) (.agg #[.int .i64 b0, .int .i64 b1, .int .u32 b2, .int .u32 b3, .int .u32 b4, .int .u32 b5])).run Try.prog w
     = .ok (.bool (a0 == b0 && (a1 == b1 && ((a2 == b2 && (a3 == b3 && (a4 == b4 && (a5 == b5 && true)))) && true)))) w := by
  rw [run_eql_struct, eq_atom 9997]; rfl
theorem neq_atom (a0 a1 a2 a3 a4 a5 b0 b1 b2 b3 b4 b5 : Int) (w : World) :
    (binOp .neq 59 (.agg #[.int .i64 a0, .int .i64 a1, .int .u32 a2, .int .u32 a3, .int .u32 a4, .int .u32 a5]) (.agg #[.int .i64 b0, .int .i64 b1, .int .u32 b2, .int .u32 b3, .int .u32 b4, .int .u32 b5])).run Try.prog w
     = .ok (.bool (!(a0 == b0 && (a1 == b1 && ((a2 == b2 && (a3 == b3 && (a4 == b4 && (a5 == b5 && true)))) && true))))) w := by
  rw [run_neq_struct, eq_atom 9997]; rfl
theorem eql_vec (a2 a3 a4 a5 b2 b3 b4 b5 : Int) (w : World) :
    (binOp .eql 57 (.agg #[.int .u32 a2, .int .u32 a3, .int .u32 a4, .int .u32 a5]) (.agg #[.int .u32 b2, .int .u32 b3, .int .u32 b4, .int .u32 b5])).run Try.prog w
     = .ok (.bool (a2 == b2 && (a3 == b3 && (a4 == b4 && (a5 == b5 && true))))) w := by
  rw [run_eql_struct, eq_vec 9998]; rfl
end Go.Proofs.Ytmkjgkldbonpnaa
/- Contracts on atoms: word, isWord, isAtom. -/
namespace Go.Proofs.Ytmkjgkldbonpnaa
open Go Go.RowKit Go.Cd
set_option linter.unusedVariables false

/-- An atom of the intermediate form. -/
structure Atom where
  tmp : Int
  ty : Int
  c0 : Int
  c1 : Int
  c2 : Int
  c3 : Int
  deriving DecidableEq
def Atom.cells (a : Atom) : List Value := [.int .i64 a.tmp, .int .i64 a.ty, .int .u32 a.c0, .int .u32 a.c1, .int .u32 a.c2, .int .u32 a.c3]
def Atom.val (a : Atom) : Value := .agg #[.int .i64 a.tmp, .int .i64 a.ty, .int .u32 a.c0, .int .u32 a.c1, .int .u32 a.c2, .int .u32 a.c3]
def wordA (n : Int) : Atom := ⟨-1, 32, n, 0, 0, 0⟩
def tmpA (n : Int) : Atom := ⟨n, 0, 0, 0, 0, 0⟩

theorem lword_c (n : Int) (w : World) : Calls Try.prog 37 #[.int .u32 n] w fun e w' => e = .returned (wordA n).val ∧ New w w' := by
  go_enter Try.func37, Try.ntmps37
  go_wp2
  exact bodyPost_ret (v := (wordA n).val) (by simp [results, Try.results37, go_sem, wordA, Atom.val]) rfl ⟨rfl, by go_grown⟩
theorem tword_c (n : Int) (w : World) : Calls Try.prog 68 #[.int .u32 n] w fun e w' => e = .returned (wordA n).val ∧ New w w' := by
  go_enter Try.func68, Try.ntmps68
  go_wp2
  exact bodyPost_ret (v := (wordA n).val) (by simp [results, Try.results68, go_sem, wordA, Atom.val]) rfl ⟨rfl, by go_grown⟩
theorem rword_c (n : Int) (w : World) : Calls Try.prog 76 #[.int .u32 n] w fun e w' => e = .returned (wordA n).val ∧ New w w' := by
  go_enter Try.func76, Try.ntmps76
  go_wp2
  exact bodyPost_ret (v := (wordA n).val) (by simp [results, Try.results76, go_sem, wordA, Atom.val]) rfl ⟨rfl, by go_grown⟩
/-- A temporary, or a constant word. -/
def isW (a : Atom) : Bool := if 0 ≤ a.tmp then decide (a.ty = 0 ∧ a.c0 = 0 ∧ a.c1 = 0 ∧ a.c2 = 0 ∧ a.c3 = 0) else decide (a.tmp = -1 ∧ a.ty = 32 ∧ a.c1 = 0 ∧ a.c2 = 0 ∧ a.c3 = 0)
attribute [local go_sem ↓] Go.wp_at_zero Go.wp_at_succ eql_atom neq_atom eql_vec
set_option maxRecDepth 100000 in
set_option maxHeartbeats 1000000 in
theorem isword_neg (t ty c0 c1 c2 c3 : Int) (w : World) (h : ¬ 0 ≤ t) : Calls Try.prog 38 #[.agg #[.int .i64 t, .int .i64 ty, .int .u32 c0, .int .u32 c1, .int .u32 c2, .int .u32 c3]] w fun e w' => e = .returned (.bool (isW ⟨t, ty, c0, c1, c2, c3⟩)) ∧ New w w' := by
  have hlt : t < 0 := by omega
  go_enter Try.func38, Try.ntmps38
  go_wp2_with fail
  go_region_held3 (fun w' => w'.cell? ⟨w.heap.size, 0, none⟩ = some (.int .i64 t) ∧ w'.cell? ⟨w.heap.size, 1, none⟩ = some (.int .i64 ty) ∧ w'.cell? ⟨w.heap.size, 2, none⟩ = some (.int .u32 c0) ∧ w'.cell? ⟨w.heap.size, 3, none⟩ = some (.int .u32 c1) ∧ w'.cell? ⟨w.heap.size, 4, none⟩ = some (.int .u32 c2) ∧ w'.cell? ⟨w.heap.size, 5, none⟩ = some (.int .u32 c3) ∧ w.heap.size < w'.heap.size ∧ New w w') (((try dsimp only); (repeat' apply And.intro) <;> (first | go_keep | omega | go_grown)))
    (first | (go_at_call 68; refine (tword_c _ _).mono ?_; rintro e w1 ⟨rfl, hb1⟩; obtain ⟨hc1, hf1, hz1⟩ := bcell3 hb1; (try simp only [World.size_alloc, World.size_drew] at hz1); have hn1 : New w w1 := Below.trans (by go_grown) (hb1.mono (by simp)); unfold Atom.val wordA; dsimp only))
  have hn : New w w1 := by assumption
  clear hc1 hf1
  go_wp2
  go_ret
  refine ⟨ret_bool ?_, hn⟩
  unfold isW
  rw [if_neg (show ¬ (0 : Int) ≤ t by omega), Bool.eq_iff_iff]
  simp
theorem isword_pos (t ty c0 c1 c2 c3 : Int) (w : World) (h : 0 ≤ t) : Calls Try.prog 38 #[.agg #[.int .i64 t, .int .i64 ty, .int .u32 c0, .int .u32 c1, .int .u32 c2, .int .u32 c3]] w fun e w' => e = .returned (.bool (isW ⟨t, ty, c0, c1, c2, c3⟩)) ∧ New w w' := by
  go_enter Try.func38, Try.ntmps38
  go_wp2
  all_goals go_ret
  all_goals refine ⟨ret_bool ?_, by go_grown⟩
  all_goals unfold isW
  all_goals rw [if_pos (show (0 : Int) ≤ t by omega), Bool.eq_iff_iff]
  all_goals simp_all
theorem isword_c (a : Atom) (w : World) : Calls Try.prog 38 #[a.val] w fun e w' => e = .returned (.bool (isW a)) ∧ New w w' := by
  obtain ⟨t, ty, c0, c1, c2, c3⟩ := a
  by_cases h : 0 ≤ t
  · exact isword_pos t ty c0 c1 c2 c3 w h
  · exact isword_neg t ty c0 c1 c2 c3 w h
set_option maxHeartbeats 1000000 in
theorem isatom_c (a : Atom) (w : World) : Calls Try.prog 41 #[a.val] w fun e w' => e = .returned (.bool (isW a)) ∧ New w w' := by
  obtain ⟨t, ty, c0, c1, c2, c3⟩ := a
  unfold Atom.val
  dsimp only
  by_cases h : 0 ≤ t
  · go_enter Try.func41, Try.ntmps41
    go_wp2
    all_goals go_ret
    all_goals refine ⟨ret_bool ?_, by go_grown⟩
    all_goals unfold isW
    all_goals rw [if_pos (show (0 : Int) ≤ t by omega), Bool.eq_iff_iff]
    all_goals simp_all
  · go_enter Try.func41, Try.ntmps41
    go_wp2
    all_goals go_ret
    all_goals refine ⟨ret_bool ?_, by go_grown⟩
    all_goals unfold isW
    all_goals rw [if_neg (by dsimp only; omega), Bool.eq_iff_iff]
    all_goals simp_all
end Go.Proofs.Ytmkjgkldbonpnaa
/- Contracts of the simplifier's bin, is, fixed. -/
namespace Go.Proofs.Ytmkjgkldbonpnaa
open Go Go.RowKit Go.Cd
set_option linter.unusedVariables false

/-- The cells of an expression. -/
def exprC (k ty op off : Int) (lv : Value) : List Value := [.int .i64 k, .int .i64 ty, .int .i64 op, .int .i64 off, lv]
/-- The simplifier's memory: a struct in block bs, its list a row of its own. -/
structure Sim (w : World) (base bs n : Nat) (v : Value) (xs : List Value) (tmp : Int) : Prop where
  heap : w.heap[bs]? = some (.cells #[v, .int .i64 tmp] 76)
  own : w.ownsRow base 64 5 v n xs
  base_le : base ≤ w.heap.size
  apart : v.ownBlock ≠ some bs
/-- What adding an expression with new elements leaves. -/
def BinPost (base bs n : Nat) (v : Value) (xs : List Value) (tmp k ty op : Int) (m : Nat) (cells : Array Value) (r : Value) (w : World) (e : Ending) (w' : World) : Prop :=
  ∃ g cap bl, e = .returned r ∧ Sim w' base bs (n + 1) (.slice (some ⟨g, 0, none⟩) (n + 1) cap) (xs ++ exprC k ty op 0 (.slice (some ⟨bl, 0, none⟩) m m)) tmp ∧
    (v.ownBlock = some g ∨ w.heap.size ≤ g) ∧ Kp bs v.ownBlock w w' ∧ w'.heap[bl]? = some (.cells cells 59) ∧ w.heap.size ≤ bl ∧ bl ≠ g
/-- The type that a binary operation has. -/
def binTy (op : Int) : Int := if 14 ≤ op ∧ op ≤ 19 then 1 else 32

theorem lt_of_heap {w : World} {k : Nat} {c : Obj} (h : w.heap[k]? = some c) : k < w.heap.size := by
  rcases Nat.lt_or_ge k w.heap.size with h' | h'
  · exact h'
  · rw [Array.getElem?_eq_none h'] at h; cases h
theorem heap_keep {w : World} {o : Obj} {k : Nat} {c : Obj} (h : w.heap[k]? = some c) : (w.alloc o).heap[k]? = some c := by
  rw [(MapKept.heap_alloc w o).2 k (lt_of_heap h)]; exact h
theorem Kp.refl (bs : Nat) (row : Option Nat) (w : World) : Kp bs row w w := ⟨rfl, rfl, rfl, Nat.le_refl _, fun _ _ _ _ => rfl⟩
theorem Kp.alloc {bs : Nat} {row : Option Nat} {a b : World} (h : Kp bs row a b) (o : Obj) : Kp bs row a (b.alloc o) :=
  ⟨h.os, h.tape, h.output, by have := h.size; simp; omega, fun k hk h1 h2 => ((MapKept.heap_alloc b o).2 k (Nat.lt_of_lt_of_le hk h.size)).trans (h.block k hk h1 h2)⟩
theorem Kp.trans {bs : Nat} {row : Option Nat} {a b c : World} (h : Kp bs row a b) (k : Kp bs row b c) : Kp bs row a c :=
  ⟨k.os.trans h.os, k.tape.trans h.tape, k.output.trans h.output, Nat.le_trans h.size k.size, fun x hx h1 h2 => (k.block x (Nat.lt_of_lt_of_le hx h.size) h1 h2).trans (h.block x hx h1 h2)⟩
/-- The next row is the old one, or new. -/
theorem Kp.trans2 {bs g : Nat} {row : Option Nat} {a b c : World} (h : Kp bs row a b) (hg : row = some g ∨ a.heap.size ≤ g) (k : Kp bs (some g) b c) : Kp bs row a c :=
  ⟨k.os.trans h.os, k.tape.trans h.tape, k.output.trans h.output, Nat.le_trans h.size k.size, fun x hx h1 h2 => (k.block x (Nat.lt_of_lt_of_le hx h.size) h1 (fun q => by
    injection q with q
    rcases hg with h | h
    · exact h2 (by rw [h, q])
    · omega)).trans (h.block x hx h1 h2)⟩
theorem own_of_heap {w w' : World} {base : Nat} {e : TypeId} {size : Nat} {v : Value} {n : Nat} {xs : List Value} (h : w.ownsRow base e size v n xs) (hh : ∀ g, v.ownBlock = some g → w'.heap[g]? = w.heap[g]?) : w'.ownsRow base e size v n xs := by
  obtain ⟨h1, h2⟩ := h
  refine ⟨h1, ?_⟩
  rcases h2 with h2 | ⟨g, cap, cur, hv, hb, hg, r⟩
  · exact .inl h2
  · refine .inr ⟨g, cap, cur, hv, hb, ?_, r⟩
    rw [hh g (by rw [hv]; rfl)]; exact hg
theorem own_lt {w : World} {base : Nat} {e : TypeId} {size : Nat} {v : Value} {n : Nat} {xs : List Value} (h : w.ownsRow base e size v n xs) {g : Nat} (hg : v.ownBlock = some g) : g < w.heap.size := (h.lt g hg).2
theorem Sim.only {w w' : World} {base bs n r : Nat} {v : Value} {xs : List Value} {tmp : Int} (h : Sim w base bs n v xs tmp) (ho : Only r w w') (hb : bs ≠ r) (hr : v.ownBlock ≠ some r) : Sim w' base bs n v xs tmp :=
  ⟨(ho.block bs hb).trans h.heap, own_of_heap h.own (fun g hg => ho.block g (fun q => hr (by rw [hg, q]))), by rw [ho.size]; exact h.base_le, h.apart⟩
theorem Sim.alloc {w : World} {base bs n : Nat} {v : Value} {xs : List Value} {tmp : Int} (h : Sim w base bs n v xs tmp) (o : Obj) : Sim (w.alloc o) base bs n v xs tmp :=
  ⟨heap_keep h.heap, own_of_heap h.own (fun g hg => (MapKept.heap_alloc w o).2 g (own_lt h.own hg)), by have := h.base_le; simp; omega, h.apart⟩
theorem Sim.lt {w : World} {base bs n : Nat} {v : Value} {xs : List Value} {tmp : Int} (h : Sim w base bs n v xs tmp) : bs < w.heap.size := lt_of_heap h.heap
theorem Only.drew {r : Nat} {w w' : World} (h : Only r w w') : Only r w w'.drew := ⟨h.size, h.os, h.tape, h.output, h.block⟩
/-- Six cells of one block are set. -/
theorem set6 (w : World) (r : Nat) (x0 x1 x2 x3 x4 x5 c0 c1 c2 c3 c4 c5 : Value) (t : TypeId) (h : w.heap[r]? = some (.cells #[c0, c1, c2, c3, c4, c5] t)) :
    Only r w ((((((w.setCell ⟨r, 0, none⟩ x0).setCell ⟨r, 1, none⟩ x1).setCell ⟨r, 2, none⟩ x2).setCell ⟨r, 3, none⟩ x3).setCell ⟨r, 4, none⟩ x4).setCell ⟨r, 5, none⟩ x5) ∧
    ((((((w.setCell ⟨r, 0, none⟩ x0).setCell ⟨r, 1, none⟩ x1).setCell ⟨r, 2, none⟩ x2).setCell ⟨r, 3, none⟩ x3).setCell ⟨r, 4, none⟩ x4).setCell ⟨r, 5, none⟩ x5).heap[r]? = some (.cells #[x0, x1, x2, x3, x4, x5] t) := by
  refine ⟨⟨by simp, ?_, ?_, ?_, fun k hk => ?_⟩, heap_set_at (heap_set_at (heap_set_at (heap_set_at (heap_set_at (heap_set_at h 0 _) 1 _) 2 _) 3 _) 4 _) 5 _⟩
  · simp only [os_setCell]
  · simp only [tape_setCell]
  · simp only [output_setCell]
  · rw [heap_setCell_ne _ _ _ _ hk, heap_setCell_ne _ _ _ _ hk, heap_setCell_ne _ _ _ _ hk, heap_setCell_ne _ _ _ _ hk, heap_setCell_ne _ _ _ _ hk, heap_setCell_ne _ _ _ _ hk]
/-- add, in these words. -/
theorem add_s (base bs n : Nat) (v : Value) (xs : List Value) (tmp k ty op off : Int) (bl m : Nat) (w : World) (hs : Sim w base bs n v xs tmp) (hn : n ≤ 1000) (ht0 : 0 ≤ tmp) (ht1 : tmp ≤ 10000) :
    Calls Try.prog 69 #[.pointer (some ⟨bs, 0, none⟩), .agg #[.int .i64 k, .int .i64 ty, .int .i64 op, .int .i64 off, .slice (some ⟨bl, 0, none⟩) m m]] w fun e w' =>
      ∃ g cap, e = .returned (.agg #[.int .i64 (tmp + n), .int .i64 0, .int .u32 0, .int .u32 0, .int .u32 0, .int .u32 0]) ∧ Sim w' base bs (n + 1) (.slice (some ⟨g, 0, none⟩) (n + 1) cap) (xs ++ exprC k ty op off (.slice (some ⟨bl, 0, none⟩) m m)) tmp ∧
        (v.ownBlock = some g ∨ w.heap.size ≤ g) ∧ Kp bs v.ownBlock w w' := by
  refine (add_c base bs n v (.slice (some ⟨bl, 0, none⟩) m m) xs tmp k ty op off w hs.heap hs.own hs.base_le hs.apart hn ht0 ht1 ⟨_, _, _, rfl⟩).mono ?_
  rintro e w' ⟨g, cap, he, h1, h2, h3, h4⟩
  refine ⟨g, cap, he, ⟨h1, h2, Nat.le_trans hs.base_le h4.size, ?_⟩, h3, h4⟩
  intro q
  have q : g = bs := by simpa [Value.ownBlock] using q
  rcases h3 with h | h
  · exact hs.apart (by rw [h, q])
  · have := hs.lt; omega

set_option maxRecDepth 100000 in
set_option maxHeartbeats 2000000 in
theorem bin_cmp (base bs n : Nat) (v : Value) (xs : List Value) (tmp op x0 x1 x2 x3 x4 x5 y0 y1 y2 y3 y4 y5 : Int) (w : World) (hs : Sim w base bs n v xs tmp) (hn : n ≤ 1000) (ht0 : 0 ≤ tmp) (ht1 : tmp ≤ 10000) (ho : 14 ≤ op) (ho' : op ≤ 19) :
    Calls Try.prog 74 #[.pointer (some ⟨bs, 0, none⟩), .int .i64 op, .agg #[.int .i64 x0, .int .i64 x1, .int .u32 x2, .int .u32 x3, .int .u32 x4, .int .u32 x5], .agg #[.int .i64 y0, .int .i64 y1, .int .u32 y2, .int .u32 y3, .int .u32 y4, .int .u32 y5]] w
      (BinPost base bs n v xs tmp 4 1 op 2 #[.int .i64 x0, .int .i64 x1, .int .u32 x2, .int .u32 x3, .int .u32 x4, .int .u32 x5, .int .i64 y0, .int .i64 y1, .int .u32 y2, .int .u32 y3, .int .u32 y4, .int .u32 y5] (.agg #[.int .i64 (tmp + n), .int .i64 0, .int .u32 0, .int .u32 0, .int .u32 0, .int .u32 0]) w) := by
  have HS := Lib.hid hs
  have hbs := hs.lt
  have hrow : ∀ g, v.ownBlock = some g → g < w.heap.size := fun g hg => own_lt hs.own hg
  have HROW := Lib.hid hrow
  clear hs hrow
  go_enter Try.func74, Try.ntmps74
  go_wp2_with fail
  refine (add_s base bs n v xs tmp 4 1 op 0 (w.heap.size + 1 + 1 + 1) 2 _ (((((HS.out.alloc _).alloc _).alloc _).alloc _).alloc _) hn ht0 ht1).mono ?_
  rintro e w1 ⟨g, cap, rfl, hs1, hg1, hk1⟩
  have hK : Kp bs v.ownBlock w w1 := Kp.trans (((((Kp.refl _ _ w).alloc _).alloc _).alloc _).alloc _ |>.alloc _) hk1
  have hR : w1.heap[w.heap.size + 1 + 1]? = some (.cells #[.int .i64 0, .int .i64 0, .int .u32 0, .int .u32 0, .int .u32 0, .int .u32 0] 59) :=
    (hk1.block _ (by simp) (by omega) (fun q => by have := HROW.out _ q.symm; omega)).trans (heap_keep (heap_keep (heap_alloc_at _ _ _ (by simp))))
  have hL : w1.heap[w.heap.size + 1 + 1 + 1]? = some (.cells #[.int .i64 x0, .int .i64 x1, .int .u32 x2, .int .u32 x3, .int .u32 x4, .int .u32 x5, .int .i64 y0, .int .i64 y1, .int .u32 y2, .int .u32 y3, .int .u32 y4, .int .u32 y5] 59) :=
    (hk1.block _ (by simp) (by omega) (fun q => by have := HROW.out _ q.symm; omega)).trans (heap_keep (heap_alloc_at _ _ _ (by simp)))
  have hgr : v.ownBlock = some g ∨ w.heap.size + 1 + 1 + 1 + 1 + 1 ≤ g := by simpa using hg1
  have hgne : g ≠ w.heap.size + 1 + 1 ∧ g ≠ w.heap.size + 1 + 1 + 1 := by
    rcases hgr with h | h
    · have := HROW.out _ h; omega
    · omega
  have hgr' : v.ownBlock = some g ∨ w.heap.size ≤ g := hgr.imp id (by omega)
  have hbr : bs ≠ w.heap.size + 1 + 1 := by omega
  have d0 : w1.cell? ⟨w.heap.size + 1 + 1, 0, none⟩ = some (.int .i64 0) := cell_of_heap hR rfl
  have d1 : w1.cell? ⟨w.heap.size + 1 + 1, 1, none⟩ = some (.int .i64 0) := cell_of_heap hR rfl
  have d2 : w1.cell? ⟨w.heap.size + 1 + 1, 2, none⟩ = some (.int .u32 0) := cell_of_heap hR rfl
  have d3 : w1.cell? ⟨w.heap.size + 1 + 1, 3, none⟩ = some (.int .u32 0) := cell_of_heap hR rfl
  have d4 : w1.cell? ⟨w.heap.size + 1 + 1, 4, none⟩ = some (.int .u32 0) := cell_of_heap hR rfl
  have d5 : w1.cell? ⟨w.heap.size + 1 + 1, 5, none⟩ = some (.int .u32 0) := cell_of_heap hR rfl
  have df : ∀ i, w1.frozen? ⟨w.heap.size + 1 + 1, i, none⟩ = false := fun i => frozen_of_heap hR
  have S6 := Lib.hid (set6 w1 (w.heap.size + 1 + 1) (.int .i64 (tmp + n)) (.int .i64 0) (.int .u32 0) (.int .u32 0) (.int .u32 0) (.int .u32 0) _ _ _ _ _ _ _ hR)
  have HL := Lib.hid hL
  have H1 := Lib.hid hs1
  have HK := Lib.hid hK
  clear hR hL hs1 hk1 hK hg1
  go_wp2
  obtain ⟨HO, HR⟩ := S6.out
  generalize ((((((w1.setCell ⟨w.heap.size + 1 + 1, 0, none⟩ (.int .i64 (tmp + n))).setCell ⟨w.heap.size + 1 + 1, 1, none⟩ (.int .i64 0)).setCell ⟨w.heap.size + 1 + 1, 2, none⟩ (.int .u32 0)).setCell ⟨w.heap.size + 1 + 1, 3, none⟩ (.int .u32 0)).setCell ⟨w.heap.size + 1 + 1, 4, none⟩ (.int .u32 0)).setCell ⟨w.heap.size + 1 + 1, 5, none⟩ (.int .u32 0)) = w3 at *
  refine bodyPost_ret (v := .agg #[.int .i64 (tmp + n), .int .i64 0, .int .u32 0, .int .u32 0, .int .u32 0, .int .u32 0]) ?_ rfl ?_
  · exact results_cell_row Try.results74 _ _ (w.heap.size + 1 + 1) 59 _ (0, 0) _ rfl HR Try.underlying59 rfl (by kernel_rfl)
  · exact ⟨g, cap, w.heap.size + 1 + 1 + 1, rfl, H1.out.only HO hbr (by simpa [Value.ownBlock] using hgne.1), hgr', HK.out.sets HO (by omega), (HO.block _ (by omega)).trans HL.out, by omega, fun q => hgne.2 q.symm⟩
set_option maxRecDepth 100000 in
set_option maxHeartbeats 2000000 in
theorem bin_lo (base bs n : Nat) (v : Value) (xs : List Value) (tmp op x0 x1 x2 x3 x4 x5 y0 y1 y2 y3 y4 y5 : Int) (w : World) (hs : Sim w base bs n v xs tmp) (hn : n ≤ 1000) (ht0 : 0 ≤ tmp) (ht1 : tmp ≤ 10000) (ho : op < 14) :
    Calls Try.prog 74 #[.pointer (some ⟨bs, 0, none⟩), .int .i64 op, .agg #[.int .i64 x0, .int .i64 x1, .int .u32 x2, .int .u32 x3, .int .u32 x4, .int .u32 x5], .agg #[.int .i64 y0, .int .i64 y1, .int .u32 y2, .int .u32 y3, .int .u32 y4, .int .u32 y5]] w
      (BinPost base bs n v xs tmp 4 32 op 2 #[.int .i64 x0, .int .i64 x1, .int .u32 x2, .int .u32 x3, .int .u32 x4, .int .u32 x5, .int .i64 y0, .int .i64 y1, .int .u32 y2, .int .u32 y3, .int .u32 y4, .int .u32 y5] (.agg #[.int .i64 (tmp + n), .int .i64 0, .int .u32 0, .int .u32 0, .int .u32 0, .int .u32 0]) w) := by
  have HS := Lib.hid hs
  have hbs := hs.lt
  have hrow : ∀ g, v.ownBlock = some g → g < w.heap.size := fun g hg => own_lt hs.own hg
  have HROW := Lib.hid hrow
  clear hs hrow
  go_enter Try.func74, Try.ntmps74
  go_wp2_with fail
  refine (add_s base bs n v xs tmp 4 32 op 0 (w.heap.size + 1 + 1 + 1) 2 _ (((((HS.out.alloc _).alloc _).alloc _).alloc _).alloc _) hn ht0 ht1).mono ?_
  rintro e w1 ⟨g, cap, rfl, hs1, hg1, hk1⟩
  have hK : Kp bs v.ownBlock w w1 := Kp.trans (((((Kp.refl _ _ w).alloc _).alloc _).alloc _).alloc _ |>.alloc _) hk1
  have hR : w1.heap[w.heap.size + 1 + 1]? = some (.cells #[.int .i64 0, .int .i64 0, .int .u32 0, .int .u32 0, .int .u32 0, .int .u32 0] 59) :=
    (hk1.block _ (by simp) (by omega) (fun q => by have := HROW.out _ q.symm; omega)).trans (heap_keep (heap_keep (heap_alloc_at _ _ _ (by simp))))
  have hL : w1.heap[w.heap.size + 1 + 1 + 1]? = some (.cells #[.int .i64 x0, .int .i64 x1, .int .u32 x2, .int .u32 x3, .int .u32 x4, .int .u32 x5, .int .i64 y0, .int .i64 y1, .int .u32 y2, .int .u32 y3, .int .u32 y4, .int .u32 y5] 59) :=
    (hk1.block _ (by simp) (by omega) (fun q => by have := HROW.out _ q.symm; omega)).trans (heap_keep (heap_alloc_at _ _ _ (by simp)))
  have hgr : v.ownBlock = some g ∨ w.heap.size + 1 + 1 + 1 + 1 + 1 ≤ g := by simpa using hg1
  have hgne : g ≠ w.heap.size + 1 + 1 ∧ g ≠ w.heap.size + 1 + 1 + 1 := by
    rcases hgr with h | h
    · have := HROW.out _ h; omega
    · omega
  have hgr' : v.ownBlock = some g ∨ w.heap.size ≤ g := hgr.imp id (by omega)
  have hbr : bs ≠ w.heap.size + 1 + 1 := by omega
  have d0 : w1.cell? ⟨w.heap.size + 1 + 1, 0, none⟩ = some (.int .i64 0) := cell_of_heap hR rfl
  have d1 : w1.cell? ⟨w.heap.size + 1 + 1, 1, none⟩ = some (.int .i64 0) := cell_of_heap hR rfl
  have d2 : w1.cell? ⟨w.heap.size + 1 + 1, 2, none⟩ = some (.int .u32 0) := cell_of_heap hR rfl
  have d3 : w1.cell? ⟨w.heap.size + 1 + 1, 3, none⟩ = some (.int .u32 0) := cell_of_heap hR rfl
  have d4 : w1.cell? ⟨w.heap.size + 1 + 1, 4, none⟩ = some (.int .u32 0) := cell_of_heap hR rfl
  have d5 : w1.cell? ⟨w.heap.size + 1 + 1, 5, none⟩ = some (.int .u32 0) := cell_of_heap hR rfl
  have df : ∀ i, w1.frozen? ⟨w.heap.size + 1 + 1, i, none⟩ = false := fun i => frozen_of_heap hR
  have S6 := Lib.hid (set6 w1 (w.heap.size + 1 + 1) (.int .i64 (tmp + n)) (.int .i64 0) (.int .u32 0) (.int .u32 0) (.int .u32 0) (.int .u32 0) _ _ _ _ _ _ _ hR)
  have HL := Lib.hid hL
  have H1 := Lib.hid hs1
  have HK := Lib.hid hK
  clear hR hL hs1 hk1 hK hg1
  go_wp2
  obtain ⟨HO, HR⟩ := S6.out
  generalize ((((((w1.setCell ⟨w.heap.size + 1 + 1, 0, none⟩ (.int .i64 (tmp + n))).setCell ⟨w.heap.size + 1 + 1, 1, none⟩ (.int .i64 0)).setCell ⟨w.heap.size + 1 + 1, 2, none⟩ (.int .u32 0)).setCell ⟨w.heap.size + 1 + 1, 3, none⟩ (.int .u32 0)).setCell ⟨w.heap.size + 1 + 1, 4, none⟩ (.int .u32 0)).setCell ⟨w.heap.size + 1 + 1, 5, none⟩ (.int .u32 0)) = w3 at *
  refine bodyPost_ret (v := .agg #[.int .i64 (tmp + n), .int .i64 0, .int .u32 0, .int .u32 0, .int .u32 0, .int .u32 0]) ?_ rfl ?_
  · exact results_cell_row Try.results74 _ _ (w.heap.size + 1 + 1) 59 _ (0, 0) _ rfl HR Try.underlying59 rfl (by kernel_rfl)
  · exact ⟨g, cap, w.heap.size + 1 + 1 + 1, rfl, H1.out.only HO hbr (by simpa [Value.ownBlock] using hgne.1), hgr', HK.out.sets HO (by omega), (HO.block _ (by omega)).trans HL.out, by omega, fun q => hgne.2 q.symm⟩
set_option maxRecDepth 100000 in
set_option maxHeartbeats 2000000 in
theorem bin_hi (base bs n : Nat) (v : Value) (xs : List Value) (tmp op x0 x1 x2 x3 x4 x5 y0 y1 y2 y3 y4 y5 : Int) (w : World) (hs : Sim w base bs n v xs tmp) (hn : n ≤ 1000) (ht0 : 0 ≤ tmp) (ht1 : tmp ≤ 10000) (ho : 19 < op) :
    Calls Try.prog 74 #[.pointer (some ⟨bs, 0, none⟩), .int .i64 op, .agg #[.int .i64 x0, .int .i64 x1, .int .u32 x2, .int .u32 x3, .int .u32 x4, .int .u32 x5], .agg #[.int .i64 y0, .int .i64 y1, .int .u32 y2, .int .u32 y3, .int .u32 y4, .int .u32 y5]] w
      (BinPost base bs n v xs tmp 4 32 op 2 #[.int .i64 x0, .int .i64 x1, .int .u32 x2, .int .u32 x3, .int .u32 x4, .int .u32 x5, .int .i64 y0, .int .i64 y1, .int .u32 y2, .int .u32 y3, .int .u32 y4, .int .u32 y5] (.agg #[.int .i64 (tmp + n), .int .i64 0, .int .u32 0, .int .u32 0, .int .u32 0, .int .u32 0]) w) := by
  have HS := Lib.hid hs
  have hbs := hs.lt
  have hrow : ∀ g, v.ownBlock = some g → g < w.heap.size := fun g hg => own_lt hs.own hg
  have HROW := Lib.hid hrow
  clear hs hrow
  go_enter Try.func74, Try.ntmps74
  go_wp2_with fail
  refine (add_s base bs n v xs tmp 4 32 op 0 (w.heap.size + 1 + 1 + 1) 2 _ (((((HS.out.alloc _).alloc _).alloc _).alloc _).alloc _) hn ht0 ht1).mono ?_
  rintro e w1 ⟨g, cap, rfl, hs1, hg1, hk1⟩
  have hK : Kp bs v.ownBlock w w1 := Kp.trans (((((Kp.refl _ _ w).alloc _).alloc _).alloc _).alloc _ |>.alloc _) hk1
  have hR : w1.heap[w.heap.size + 1 + 1]? = some (.cells #[.int .i64 0, .int .i64 0, .int .u32 0, .int .u32 0, .int .u32 0, .int .u32 0] 59) :=
    (hk1.block _ (by simp) (by omega) (fun q => by have := HROW.out _ q.symm; omega)).trans (heap_keep (heap_keep (heap_alloc_at _ _ _ (by simp))))
  have hL : w1.heap[w.heap.size + 1 + 1 + 1]? = some (.cells #[.int .i64 x0, .int .i64 x1, .int .u32 x2, .int .u32 x3, .int .u32 x4, .int .u32 x5, .int .i64 y0, .int .i64 y1, .int .u32 y2, .int .u32 y3, .int .u32 y4, .int .u32 y5] 59) :=
    (hk1.block _ (by simp) (by omega) (fun q => by have := HROW.out _ q.symm; omega)).trans (heap_keep (heap_alloc_at _ _ _ (by simp)))
  have hgr : v.ownBlock = some g ∨ w.heap.size + 1 + 1 + 1 + 1 + 1 ≤ g := by simpa using hg1
  have hgne : g ≠ w.heap.size + 1 + 1 ∧ g ≠ w.heap.size + 1 + 1 + 1 := by
    rcases hgr with h | h
    · have := HROW.out _ h; omega
    · omega
  have hgr' : v.ownBlock = some g ∨ w.heap.size ≤ g := hgr.imp id (by omega)
  have hbr : bs ≠ w.heap.size + 1 + 1 := by omega
  have d0 : w1.cell? ⟨w.heap.size + 1 + 1, 0, none⟩ = some (.int .i64 0) := cell_of_heap hR rfl
  have d1 : w1.cell? ⟨w.heap.size + 1 + 1, 1, none⟩ = some (.int .i64 0) := cell_of_heap hR rfl
  have d2 : w1.cell? ⟨w.heap.size + 1 + 1, 2, none⟩ = some (.int .u32 0) := cell_of_heap hR rfl
  have d3 : w1.cell? ⟨w.heap.size + 1 + 1, 3, none⟩ = some (.int .u32 0) := cell_of_heap hR rfl
  have d4 : w1.cell? ⟨w.heap.size + 1 + 1, 4, none⟩ = some (.int .u32 0) := cell_of_heap hR rfl
  have d5 : w1.cell? ⟨w.heap.size + 1 + 1, 5, none⟩ = some (.int .u32 0) := cell_of_heap hR rfl
  have df : ∀ i, w1.frozen? ⟨w.heap.size + 1 + 1, i, none⟩ = false := fun i => frozen_of_heap hR
  have S6 := Lib.hid (set6 w1 (w.heap.size + 1 + 1) (.int .i64 (tmp + n)) (.int .i64 0) (.int .u32 0) (.int .u32 0) (.int .u32 0) (.int .u32 0) _ _ _ _ _ _ _ hR)
  have HL := Lib.hid hL
  have H1 := Lib.hid hs1
  have HK := Lib.hid hK
  clear hR hL hs1 hk1 hK hg1
  go_wp2
  obtain ⟨HO, HR⟩ := S6.out
  generalize ((((((w1.setCell ⟨w.heap.size + 1 + 1, 0, none⟩ (.int .i64 (tmp + n))).setCell ⟨w.heap.size + 1 + 1, 1, none⟩ (.int .i64 0)).setCell ⟨w.heap.size + 1 + 1, 2, none⟩ (.int .u32 0)).setCell ⟨w.heap.size + 1 + 1, 3, none⟩ (.int .u32 0)).setCell ⟨w.heap.size + 1 + 1, 4, none⟩ (.int .u32 0)).setCell ⟨w.heap.size + 1 + 1, 5, none⟩ (.int .u32 0)) = w3 at *
  refine bodyPost_ret (v := .agg #[.int .i64 (tmp + n), .int .i64 0, .int .u32 0, .int .u32 0, .int .u32 0, .int .u32 0]) ?_ rfl ?_
  · exact results_cell_row Try.results74 _ _ (w.heap.size + 1 + 1) 59 _ (0, 0) _ rfl HR Try.underlying59 rfl (by kernel_rfl)
  · exact ⟨g, cap, w.heap.size + 1 + 1 + 1, rfl, H1.out.only HO hbr (by simpa [Value.ownBlock] using hgne.1), hgr', HK.out.sets HO (by omega), (HO.block _ (by omega)).trans HL.out, by omega, fun q => hgne.2 q.symm⟩
end Go.Proofs.Ytmkjgkldbonpnaa
