/- Whole structs and arrays, stored into blocks of the call's own and loaded from them, with no unrolling. -/
import Derived.Test.YtpooghnemlnopaaKitMap
import Derived.Deep.MidRow
namespace Go.Cd
open Go Go.RowKit

def spl (c : Array Value) : Nat → List Value → Array Value
  | _, [] => c
  | o, v :: r => spl (c.setIfInBounds o v) (o + 1) r
theorem spl_size : ∀ (vs : List Value) (c : Array Value) (o : Nat), (spl c o vs).size = c.size
  | [], _, _ => rfl
  | v :: r, c, o => by rw [spl, spl_size r, Array.size_setIfInBounds]
theorem spl_get : ∀ (vs : List Value) (c : Array Value) (o i : Nat), o + vs.length ≤ c.size → (spl c o vs)[i]? = if o ≤ i ∧ i < o + vs.length then vs[i - o]? else c[i]?
  | [], c, o, i, _ => by rw [if_neg (by simp only [List.length_nil]; omega)]; rfl
  | v :: r, c, o, i, h => by
    rw [spl, spl_get r _ _ _ (by simp at h ⊢; omega)]
    simp only [List.length_cons] at h ⊢
    by_cases h1 : o + 1 ≤ i ∧ i < o + 1 + r.length
    · rw [if_pos h1, if_pos (by omega), show i - o = (i - (o + 1)) + 1 by omega]; rfl
    · rw [if_neg h1]
      by_cases h2 : i = o
      · subst h2
        rw [if_pos (by omega), Nat.sub_self, Array.getElem?_setIfInBounds_self]
        simp; omega
      · rw [if_neg (by omega)]
        simp [Ne.symm h2]
theorem spl_full (vs : List Value) (c : Array Value) (h : c.size = vs.length) : spl c 0 vs = vs.toArray := by
  apply Array.ext_getElem?
  intro i
  rw [spl_get vs c 0 i (by omega)]
  by_cases hi : i < vs.length
  · rw [if_pos (by omega)]; simp
  · rw [if_neg (by omega), Array.getElem?_eq_none (by omega), Array.getElem?_eq_none (by simpa using Nat.le_of_not_lt hi)]
theorem setCell_new (w : World) (c : Array Value) (t : TypeId) (b o : Nat) (v : Value) (hb : b = w.heap.size) : (w.alloc (.cells c t)).setCell ⟨b, o, none⟩ v = w.alloc (.cells (c.setIfInBounds o v) t) := by
  subst hb
  exact World.setCell_alloc_at _ _ _ _ _ rfl
theorem setCells_new (w : World) (t : TypeId) (b : Nat) (hb : b = w.heap.size) : ∀ (vs : List Value) (c : Array Value) (o : Nat), (w.alloc (.cells c t)).setCells b o vs = w.alloc (.cells (spl c o vs) t)
  | [], _, _ => rfl
  | v :: r, c, o => by rw [World.setCells, setCell_new w c t b o v hb, setCells_new w t b hb r]; rfl
theorem setCells_past (b : Nat) (ob : Obj) : ∀ (vs : List Value) (o : Nat) (w : World), b < w.heap.size → (w.alloc ob).setCells b o vs = (w.setCells b o vs).alloc ob
  | [], _, _, _ => rfl
  | v :: r, o, w, h => by
    have e : (w.alloc ob).setCell ⟨b, o, none⟩ v = (w.setCell ⟨b, o, none⟩ v).alloc ob := World.setCell_alloc_past _ _ _ _ h
    rw [World.setCells, World.setCells, e, setCells_past b ob r (o + 1) _ (by simpa using h)]
theorem there_new (w : World) (c : Array Value) (t : TypeId) (b : Nat) (hb : b = w.heap.size) : (w.alloc (.cells c t)).there b 0 c.size := by
  subst hb
  intro j hj
  refine ⟨?_, ?_⟩
  · rw [Nat.zero_add, World.cell?_alloc_new]; simp [hj]
  · rw [frozen?_alloc_cells]
    simp [World.frozen?]
/-- All cells are single. -/
def Ones (l : List Value) : Prop := ∀ v ∈ l, v.oneCell' = true
theorem ones_nil : Ones [] = True := by simp [Ones]
theorem ones_int (k : IntKind) (n : Int) (l : List Value) : Ones (.int k n :: l) = Ones l := by simp [Ones, Value.oneCell']
theorem ones_bool (b : Bool) (l : List Value) : Ones (.bool b :: l) = Ones l := by simp [Ones, Value.oneCell']
theorem ones_slice (a : Option Addr) (n c : Nat) (l : List Value) : Ones (.slice a n c :: l) = Ones l := by simp [Ones, Value.oneCell']
theorem ones_pointer (a : Option Addr) (l : List Value) : Ones (.pointer a :: l) = Ones l := by simp [Ones, Value.oneCell']
theorem ones_all {l : List Value} (h : Ones l) : l.toArray.all (·.oneCell') = true := all_oneCell_toArray h
section
variable {P : Program}
/-- A whole value goes into the newest block. -/
theorem store_new (ty : TypeId) (n : Nat) (c cs : Array Value) (t : TypeId) (w : World) (hn : n = w.heap.size) (hc : c.size = cs.size) (hi : (P.info? ty).map (·.size) = some cs.size) (h1 : cs.all (·.oneCell') = true) :
    (storeVar ty ⟨n, 0, none⟩ (.agg cs)).run P (w.alloc (.cells c t)) = .ok () (w.alloc (.cells cs t)) := by
  rw [run_storeVar_mid _ n 0 ty cs (by rw [← hc]; exact there_new w c t n hn) hi h1, setCells_new w t n hn, spl_full _ _ (by simpa using hc)]
/-- .. or into the one ahead of it. -/
theorem store_new2 (ty : TypeId) (n : Nat) (c cs : Array Value) (t : TypeId) (ob : Obj) (w : World) (hn : n = w.heap.size) (hc : c.size = cs.size) (hi : (P.info? ty).map (·.size) = some cs.size) (h1 : cs.all (·.oneCell') = true) :
    (storeVar ty ⟨n, 0, none⟩ (.agg cs)).run P ((w.alloc (.cells c t)).alloc ob) = .ok () ((w.alloc (.cells cs t)).alloc ob) := by
  rw [run_storeVar_mid _ n 0 ty cs (World.there_alloc (by rw [← hc]; exact there_new w c t n hn) ob) hi h1, setCells_past _ _ _ _ _ (by simp; omega), setCells_new w t n hn, spl_full _ _ (by simpa using hc)]
/-- A whole value is loaded from a block that is known. -/
theorem load_row (ty : TypeId) (n : Nat) (cs : Array Value) (t : TypeId) (d : TypeDesc) (w : World) (hb : w.heap[n]? = some (.cells cs t)) (hu : P.underlying ty = some d) (hd : d.isRow = true) (hi : (P.info? ty).map (·.size) = some cs.size) :
    (loadVar ty ⟨n, 0, none⟩).run P w = .ok (.agg cs) w := by
  have h := run_loadVar_mid (P := P) w n 0 ty cs.toList d (by
    have := World.rangeAt_of_block hb 0 cs.size
    rwa [Nat.zero_add, Array.extract_size] at this) hu hd (by simpa using hi)
  simpa using h
theorem load_new (ty : TypeId) (n : Nat) (cs : Array Value) (t : TypeId) (d : TypeDesc) (w : World) (hn : n = w.heap.size) (hu : P.underlying ty = some d) (hd : d.isRow = true) (hi : (P.info? ty).map (·.size) = some cs.size) :
    (loadVar ty ⟨n, 0, none⟩).run P (w.alloc (.cells cs t)) = .ok (.agg cs) (w.alloc (.cells cs t)) := load_row ty n cs t d _ (heap_alloc_at _ _ _ hn) hu hd hi
theorem load_new2 (ty : TypeId) (n : Nat) (cs : Array Value) (t : TypeId) (ob : Obj) (d : TypeDesc) (w : World) (hn : n = w.heap.size) (hu : P.underlying ty = some d) (hd : d.isRow = true) (hi : (P.info? ty).map (·.size) = some cs.size) :
    (loadVar ty ⟨n, 0, none⟩).run P ((w.alloc (.cells cs t)).alloc ob) = .ok (.agg cs) ((w.alloc (.cells cs t)).alloc ob) :=
  load_row ty n cs t d _ (((MapKept.heap_alloc (w.alloc (.cells cs t)) ob).2 n (by simp; omega)).trans (heap_alloc_at _ _ _ hn)) hu hd hi
/-! The same at the operation: what is stored and loaded stays folded till its operands are known. -/
def storeRow (t : TypeId) (p v : Value) : Sem Next := do Instr.storeAt t p v; pure .skip
def loadRow (t : TypeId) (p : Value) : Sem Next := do pure (.value (← Instr.loadAt t p))
theorem execOp_storeRow (a : Act) (dst : Option Tmp) (t : TypeId) (x y : Operand) (ty : TypeId) (pos : String) (after : Array Edge) (guard : Option (Nat × Bool)) :
    execOp a.eval { dst, op := .store t x y, type := ty, pos, after, guard } = storeRow t (a.eval x) (a.eval y) := rfl
theorem execOp_loadRow (a : Act) (dst : Option Tmp) (t : TypeId) (x : Operand) (ty : TypeId) (pos : String) (after : Array Edge) (guard : Option (Nat × Bool)) :
    execOp a.eval { dst, op := .load t x, type := ty, pos, after, guard } = loadRow t (a.eval x) := rfl
theorem run_storeRow (ty : TypeId) (n k : Nat) (v : Value) (w w' : World) (h : (storeVar ty ⟨n, k, none⟩ v).run P w = .ok () w') : (storeRow ty (.pointer (some ⟨n, k, none⟩)) v).run P w = .ok .skip w' := by
  simp only [storeRow, Instr.storeAt, Instr.sureAddr, Sem.run_bind, Sem.run_pure, Result.andThen_ok, h]
theorem run_loadRow (ty : TypeId) (n k : Nat) (v : Value) (w w' : World) (h : (loadVar ty ⟨n, k, none⟩).run P w = .ok v w') : (loadRow ty (.pointer (some ⟨n, k, none⟩))).run P w = .ok (.value v) w' := by
  simp only [loadRow, Instr.loadAt, Instr.sureAddr, Sem.run_bind, Sem.run_pure, Result.andThen_ok, h]
/-- Two results that lie in memory. -/
theorem results_rows2 {fn : Func} {p q : Tmp} {ty ty2 : TypeId} (h : fn.results = #[.cell p ty, .cell q ty2]) (tmps : Array Value) (w : World) (a b : Addr) (v1 v2 : Value)
    (hp : tmps.getD p undef = .pointer (some a)) (hq : tmps.getD q undef = .pointer (some b)) (h1 : (loadVar ty a).run P w = .ok v1 w) (h2 : (loadVar ty2 b).run P w = .ok v2 w) : (results fn tmps).run P w = .ok (.tuple #[v1, v2]) w := by
  simp only [results, h]
  simp only [Array.getD_eq_getD_getElem?] at hp hq
  simp [hp, hq, asAddr, h1, h2]
end
end Go.Cd
