/- Laws for small maps that a function makes itself: whole numbers as keys, all entries known. -/
import Derived.Test.YtpooghnemlnopaaKit
import Derived.Carry
import Derived.MapKept
namespace Go.Cd
open Go Go.RowKit Go.MapKept

theorem heap_alloc_at (w : World) (o : Obj) (r : Nat) (hr : r = w.heap.size) : (w.alloc o).heap[r]? = some o := by
  subst hr; exact (MapKept.heap_alloc w _).1
theorem alloc_set_at (w : World) (o o' : Obj) (r : Nat) (hr : r = w.heap.size) : ({ (w.alloc o) with heap := (w.alloc o).heap.setIfInBounds r o' } : World) = w.alloc o' := by
  subst hr
  show ({ heap := (w.heap.push o).setIfInBounds w.heap.size o', tape := w.tape, drawn := w.drawn, os := w.os, output := w.output } : World) = { heap := w.heap.push o', tape := w.tape, drawn := w.drawn, os := w.os, output := w.output }
  have e : (w.heap.push o).setIfInBounds w.heap.size o' = w.heap.push o' := by
    rw [← Array.toList_inj, Array.toList_setIfInBounds, Array.toList_push, Array.toList_push, ← Array.length_toList, List.set_append_right _ _ (Nat.le_refl _)]
    simp
  rw [e]

theorem isKey_int (j : IntKind) (k : Int) : IsKey (.int j) (.int j k) := rfl
section
variable {P : Program} {T K E : TypeId} {j : IntKind} (hT : P.underlying T = some (.map K E)) (hK : P.underlying K = some (.int j))
include hT hK
/-- A new entry into a map that is the newest block. -/
theorem run_mapInsert (es : Array MapEntry) (c : Nat) (k : Int) (v : Value) (w : World) (r : Nat) (hr : r = w.heap.size) (hf : Instr.findNow (.int j) (.int j k) es.toList 0 = some none) :
    (Instr.mapUpdate T (.map (some r)) (.int j k) v).run P (w.alloc (.map es c)) = .ok () (w.alloc (.map (es.push { key := .int j k, val := v, born := c }) (c + 1))) := by
  have h1 := heap_alloc_at w (.map es c) r hr
  have h2 := alloc_set_at w (.map es c) (.map (es.push { key := .int j k, val := v, born := c }) (c + 1)) r hr
  simp only [Instr.mapUpdate, Sem.run_bind, run_underlying hT, MapKept.run_getObj_map h1, run_checkKey hK (isKey_int j k), run_findKey hK hf, MapKept.run_setObj_map _ h1, Result.andThen, h2]
/-- A lookup of a key that is there. -/
theorem run_mapGet (es : Array MapEntry) (c : Nat) (k : Int) (i : Nat) (v : Value) (w : World) (r : Nat) (hb : w.heap[r]? = some (.map es c)) (hf : Instr.findNow (.int j) (.int j k) es.toList 0 = some (some (i, v))) (ok : Bool) :
    (Instr.lookup T (.map (some r)) (.int j k) ok).run P w = .ok (if ok then .tuple #[v, .bool true] else v) w := by
  simp [Instr.lookup, run_underlying hT, MapKept.run_getObj_map hb, run_checkKey hK (isKey_int j k), run_findKey hK hf, Result.andThen]
theorem run_mapGet_at (es : Array MapEntry) (c : Nat) (k : Int) (i : Nat) (v : Value) (w : World) (r : Nat) (hr : r = w.heap.size) (hf : Instr.findNow (.int j) (.int j k) es.toList 0 = some (some (i, v))) (ok : Bool) :
    (Instr.lookup T (.map (some r)) (.int j k) ok).run P (w.alloc (.map es c)) = .ok (if ok then .tuple #[v, .bool true] else v) (w.alloc (.map es c)) :=
  run_mapGet hT hK es c k i v _ r (heap_alloc_at w _ r hr) hf ok
/-- A lookup of a key that is not there. -/
theorem run_mapMiss (es : Array MapEntry) (c : Nat) (k : Int) (z : Value) (w : World) (r : Nat) (hb : w.heap[r]? = some (.map es c)) (hz : (zeroValue E).run P w = .ok z w) (hf : Instr.findNow (.int j) (.int j k) es.toList 0 = some none) (ok : Bool) :
    (Instr.lookup T (.map (some r)) (.int j k) ok).run P w = .ok (if ok then .tuple #[z, .bool false] else z) w := by
  simp [Instr.lookup, run_underlying hT, MapKept.run_getObj_map hb, run_checkKey hK (isKey_int j k), run_findKey hK hf, hz, Result.andThen]
end
end Go.Cd
