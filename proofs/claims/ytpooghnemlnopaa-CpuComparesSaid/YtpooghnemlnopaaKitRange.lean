/- A range over a small map of the call's own, whose entries are known. -/
import Derived.Test.YtpooghnemlnopaaKitMap
import Derived.Maps.RangeWalk
namespace Go.Cd
open Go Go.RowKit Go.ChangeMaps

/-- A loop over a map of known entries is under way: the map lies in block b, its iterator in block r. -/
def Rng (es : Array MapEntry) (b r : Nat) (seen : Array Nat) (w : World) : Prop :=
  w.heap[b]? = some (.map es es.size) ∧ ∃ c0, w.heap[r]? = some (.mapIter (some b) es.size seen c0) ∧ es.size ≤ c0
/-- What is known of the entries, whichever comes. -/
structure EsOk (Pr : Value → Value → Prop) (es : Array MapEntry) : Prop where
  hold : ∀ x ∈ es.toList, x.born < es.size
  nodup : (es.toList.map (·.born)).Nodup
  each : ∀ e ∈ es.toList, Pr e.key e.val
theorem heap_lt {w : World} {k : Nat} {c : Obj} (h : w.heap[k]? = some c) : k < w.heap.size := by
  rcases Nat.lt_or_ge k w.heap.size with h' | h'
  · exact h'
  · rw [Array.getElem?_eq_none h'] at h; cases h
theorem Rng.lt {es : Array MapEntry} {b r : Nat} {seen : Array Nat} {w : World} (h : Rng es b r seen w) : b < w.heap.size ∧ r < w.heap.size := by
  obtain ⟨h1, c0, h2, _⟩ := h
  exact ⟨heap_lt h1, heap_lt h2⟩
theorem Rng.new {es : Array MapEntry} {b r : Nat} {seen : Array Nat} {w w' : World} (h : Rng es b r seen w) (hb : New w w') : Rng es b r seen w' := by
  have hl := h.lt
  obtain ⟨h1, c0, h2, h3⟩ := h
  exact ⟨(hb.block b hl.1).trans h1, c0, (hb.block r hl.2).trans h2, h3⟩
theorem Rng.seen {es : Array MapEntry} {b r : Nat} {seen : Array Nat} {w : World} (h : Rng es b r seen w) : w.iterSeen r = seen := by
  obtain ⟨_, c0, h2, _⟩ := h
  simp only [World.iterSeen, h2]
theorem setBlock_other (w : World) (r k : Nat) (o : Obj) (h : k ≠ r) : (setBlock w r o).heap[k]? = w.heap[k]? := by
  simp [setBlock, Ne.symm h]
theorem setBlock_same {w : World} {r : Nat} {c : Obj} (o : Obj) (h : w.heap[r]? = some c) : (setBlock w r o).heap[r]? = some o := by
  have := heap_lt h
  simp [setBlock, this]
theorem run_range_new {P : Program} {t k e : TypeId} (ht : P.underlying t = some (.map k e)) (w : World) (es : Array MapEntry) (c r : Nat) (hr : r = w.heap.size) :
    (Instr.range t (.map (some r))).run P (w.alloc (.map es c)) = .ok (.pointer (some ⟨w.heap.size + 1, 0, none⟩)) ((w.alloc (.map es c)).alloc (.mapIter (some r) c #[] c)) := by
  have h := run_range_map (P := P) (w.alloc (.map es c)) t k e r es c ht (heap_alloc_at _ _ _ hr)
  simpa using h
theorem Rng.start (w : World) (es : Array MapEntry) (b r n : Nat) (hb : b = w.heap.size) (hr : r = w.heap.size + 1) (hn : n = es.size) : Rng es b r #[] ((w.alloc (.map es n)).alloc (.mapIter (some b) n #[] n)) := by
  subst hn
  refine ⟨?_, es.size, heap_alloc_at _ _ _ (by simp [hr]), Nat.le_refl _⟩
  rw [(MapKept.heap_alloc _ _).2 b (by simp; omega)]
  exact heap_alloc_at _ _ _ hb
section
variable {P : Program} (w : World) {ops : Array Oper} {rest : List Oper} {o : Oper} {a : Act} {Q : Exit → Act → World → Prop}
/-- The step: nothing is left, or one of the entries comes. -/
theorem wpList_next_known (hg : o.guard = none) (it : Operand) (hop : o.op = Op.next it false) (es : Array MapEntry) (b r : Nat) (seen : Array Nat) (hit : a.eval it = .pointer (some ⟨r, 0, none⟩)) (h : Rng es b r seen w)
    (Pr : Value → Value → Prop) (hK : EsOk Pr es)
    (hDone : wpList P ops Q rest (a.put o.dst (.tuple #[.bool false])) w)
    (hMore : ∀ (k v : Value) (w' : World) (seen' : Array Nat), Pr k v → Rng es b r seen' w' → (leftOf es seen').size < (leftOf es seen).size → Below r w w' → w'.heap.size = w.heap.size →
      (Instr.entry (.pointer (some ⟨r, 0, none⟩))).run P w' = .ok (.tuple #[k, v]) w' → wpList P ops Q rest (a.put o.dst (.tuple #[.bool true, k, v])) w') :
    wpList P ops Q (o :: rest) a w := by
  obtain ⟨hold, hn, hE⟩ := hK
  refine wpList_plain hg fun K' hK' => ?_
  unfold Oper.wp
  have hl := h.lt
  obtain ⟨h1, c0, h2, h3⟩ := h
  have hne : b ≠ r := fun q => by rw [q, h2] at h1; cases h1
  rcases run_next_at (P := P) w o.type r b es.size c0 seen es es.size h2 h1 hold h3 with ⟨h0, hrun⟩ | ⟨e, he, w1, hw, hrun⟩
  · simp [execOp, hop, hit, hrun, Result.andThen]
    exact hK' _ _ hDone
  · simp [execOp, hop, hit, hrun, Result.andThen]
    have hm := mem_left he
    have hh : w1.heap = w.heap := by rcases hw with rfl | rfl <;> rfl
    have r1 : w1.heap[r]? = some (.mapIter (some b) es.size seen c0) := by rw [hh]; exact h2
    have r2 := setBlock_same (w := w1) (.mapIter (some b) es.size (seen.push e.born) es.size) r1
    have r3 : (setBlock w1 r (.mapIter (some b) es.size (seen.push e.born) es.size)).heap[b]? = some (.map es es.size) := by rw [setBlock_other _ _ _ _ hne, hh]; exact h1
    have hsz : (setBlock w1 r (.mapIter (some b) es.size (seen.push e.born) es.size)).heap.size = w.heap.size := by simp [setBlock, hh]
    refine hK' _ _ (hMore e.key e.val _ (seen.push e.born) (hE e hm.1) ⟨r3, es.size, r2, Nat.le_refl _⟩ (left_shrinks es seen e he) ⟨?_, ?_, ?_, by rw [hsz]; exact Nat.le_refl _, fun k hk => by rw [setBlock_other _ _ _ _ (by omega), hh]⟩ hsz
      (run_entry_at _ r b es.size seen es es.size e r2 r3 hm.1 hn))
    · rcases hw with rfl | rfl <;> rfl
    · rcases hw with rfl | rfl <;> rfl
    · rcases hw with rfl | rfl <;> rfl
end
end Go.Cd
