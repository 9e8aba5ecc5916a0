/- Parts of the proof: KitRow, KitHeap, KitRow2, Sx2, Sx3. -/
import Derived.Test.YtpooghnemlnopaaZ0
import Derived.Deep.MidRow
import Derived.RangeFuncRecord
import Derived.RowKit2
/- Whole structs and arrays, stored into blocks of the call's own and loaded from them, with no unrolling. -/
namespace Go.Cd
open Go Go.RowKit

def spl (c : Array Value) : Nat → List Value → Array Value
  | _, [] => c
  | o, v :: r => spl (c.setIfInBounds o v) (o + 1) r
theorem spl_size : ∀ (vs : List Value) (c : Array Value) (o : Nat), (spl c o vs).size = c.size
  | [], _, _ => rfl
  | v :: r, c, o => by rw [spl, spl_size r, Array.size_setIfInBounds]
theorem spl_get : ∀ (vs : List Value) (c : Array Value) (o i : Nat), o + vs.length ≤ c.size → (spl c o vs)[i]? = if o ≤ i ∧ i < o + vs.length then vs[i - o]? else c[i]?
  | [], c, o, i, _ => by rw [if_neg (by simp only [List.length_nil]; omega)]; rfl
  | v :: r, c, o, i, h => by
    rw [spl, spl_get r _ _ _ (by simp at h ⊢; omega)]
    simp only [List.length_cons] at h ⊢
    by_cases h1 : o + 1 ≤ i ∧ i < o + 1 + r.length
    · rw [if_pos h1, if_pos (by omega), show i - o = (i - (o + 1)) + 1 by omega]; rfl
    · rw [if_neg h1]
      by_cases h2 : i = o
      · subst h2
        rw [if_pos (by omega), Nat.sub_self, Array.getElem?_setIfInBounds_self]
        simp; omega
      · rw [if_neg (by omega)]
        simp [Ne.symm h2]
theorem spl_full (vs : List Value) (c : Array Value) (h : c.size = vs.length) : spl c 0 vs = vs.toArray := by
  apply Array.ext_getElem?
  intro i
  rw [spl_get vs c 0 i (by omega)]
  by_cases hi : i < vs.length
  · rw [if_pos (by omega)]; simp
  · rw [if_neg (by omega), Array.getElem?_eq_none (by omega), Array.getElem?_eq_none (by simpa using Nat.le_of_not_lt hi)]
theorem setCell_new (w : World) (c : Array Value) (t : TypeId) (b o : Nat) (v : Value) (hb : b = w.heap.size) : (w.alloc (.cells c t)).setCell ⟨b, o, none⟩ v = w.alloc (.cells (c.setIfInBounds o v) t) := by
  subst hb
  exact World.setCell_alloc_at _ _ _ _ _ rfl
theorem setCells_new (w : World) (t : TypeId) (b : Nat) (hb : b = w.heap.size) : ∀ (vs : List Value) (c : Array Value) (o : Nat), (w.alloc (.cells c t)).setCells b o vs = w.alloc (.cells (spl c o vs) t)
  | [], _, _ => rfl
  | v :: r, c, o => by rw [World.setCells, setCell_new w c t b o v hb, setCells_new w t b hb r]; rfl
theorem setCells_past (b : Nat) (ob : Obj) : ∀ (vs : List Value) (o : Nat) (w : World), b < w.heap.size → (w.alloc ob).setCells b o vs = (w.setCells b o vs).alloc ob
  | [], _, _, _ => rfl
  | v :: r, o, w, h => by
    have e : (w.alloc ob).setCell ⟨b, o, none⟩ v = (w.setCell ⟨b, o, none⟩ v).alloc ob := World.setCell_alloc_past _ _ _ _ h
    rw [World.setCells, World.setCells, e, setCells_past b ob r (o + 1) _ (by simpa using h)]
theorem there_new (w : World) (c : Array Value) (t : TypeId) (b : Nat) (hb : b = w.heap.size) : (w.alloc (.cells c t)).there b 0 c.size := by
  subst hb
  intro j hj
  refine ⟨?_, ?_⟩
  · rw [Nat.zero_add, World.cell?_alloc_new]; simp [hj]
  · rw [frozen?_alloc_cells]
    simp [World.frozen?]
/-- All cells are single. -/
def Ones (l : List Value) : Prop := ∀ v ∈ l, v.oneCell' = true
theorem ones_nil : Ones [] = True := by simp [Ones]
theorem ones_int (k : IntKind) (n : Int) (l : List Value) : Ones (.int k n :: l) = Ones l := by simp [Ones, Value.oneCell']
theorem ones_bool (b : Bool) (l : List Value) : Ones (.bool b :: l) = Ones l := by simp [Ones, Value.oneCell']
theorem ones_slice (a : Option Addr) (n c : Nat) (l : List Value) : Ones (.slice a n c :: l) = Ones l := by simp [Ones, Value.oneCell']
theorem ones_pointer (a : Option Addr) (l : List Value) : Ones (.pointer a :: l) = Ones l := by simp [Ones, Value.oneCell']
theorem ones_all {l : List Value} (h : Ones l) : l.toArray.all (·.oneCell') = true := all_oneCell_toArray h
section
variable {P : Program}
/-- A whole value goes into the newest block. -/
theorem store_new (ty : TypeId) (n : Nat) (c cs : Array Value) (t : TypeId) (w : World) (hn : n = w.heap.size) (hc : c.size = cs.size) (hi : (P.info? ty).map (·.size) = some cs.size) (h1 : cs.all (·.oneCell') = true) :
    (storeVar ty ⟨n, 0, none⟩ (.agg cs)).run P (w.alloc (.cells c t)) = .ok () (w.alloc (.cells cs t)) := by
  rw [run_storeVar_mid _ n 0 ty cs (by rw [← hc]; exact there_new w c t n hn) hi h1, setCells_new w t n hn, spl_full _ _ (by simpa using hc)]
/-- .. or into the one ahead of it. -/
theorem store_new2 (ty : TypeId) (n : Nat) (c cs : Array Value) (t : TypeId) (ob : Obj) (w : World) (hn : n = w.heap.size) (hc : c.size = cs.size) (hi : (P.info? ty).map (·.size) = some cs.size) (h1 : cs.all (·.oneCell') = true) :
    (storeVar ty ⟨n, 0, none⟩ (.agg cs)).run P ((w.alloc (.cells c t)).alloc ob) = .ok () ((w.alloc (.cells cs t)).alloc ob) := by
  rw [run_storeVar_mid _ n 0 ty cs (World.there_alloc (by rw [← hc]; exact there_new w c t n hn) ob) hi h1, setCells_past _ _ _ _ _ (by simp; omega), setCells_new w t n hn, spl_full _ _ (by simpa using hc)]
/-- A whole value is loaded from a block that is known. -/
theorem load_row (ty : TypeId) (n : Nat) (cs : Array Value) (t : TypeId) (d : TypeDesc) (w : World) (hb : w.heap[n]? = some (.cells cs t)) (hu : P.underlying ty = some d) (hd : d.isRow = true) (hi : (P.info? ty).map (·.size) = some cs.size) :
    (loadVar ty ⟨n, 0, none⟩).run P w = .ok (.agg cs) w := by
  have h := run_loadVar_mid (P := P) w n 0 ty cs.toList d (by
    have := World.rangeAt_of_block hb 0 cs.size
    rwa [Nat.zero_add, Array.extract_size] at this) hu hd (by simpa using hi)
  simpa using h
theorem load_new (ty : TypeId) (n : Nat) (cs : Array Value) (t : TypeId) (d : TypeDesc) (w : World) (hn : n = w.heap.size) (hu : P.underlying ty = some d) (hd : d.isRow = true) (hi : (P.info? ty).map (·.size) = some cs.size) :
    (loadVar ty ⟨n, 0, none⟩).run P (w.alloc (.cells cs t)) = .ok (.agg cs) (w.alloc (.cells cs t)) := load_row ty n cs t d _ (heap_alloc_at _ _ _ hn) hu hd hi
theorem load_new2 (ty : TypeId) (n : Nat) (cs : Array Value) (t : TypeId) (ob : Obj) (d : TypeDesc) (w : World) (hn : n = w.heap.size) (hu : P.underlying ty = some d) (hd : d.isRow = true) (hi : (P.info? ty).map (·.size) = some cs.size) :
    (loadVar ty ⟨n, 0, none⟩).run P ((w.alloc (.cells cs t)).alloc ob) = .ok (.agg cs) ((w.alloc (.cells cs t)).alloc ob) :=
  load_row ty n cs t d _ (((MapKept.heap_alloc (w.alloc (.cells cs t)) ob).2 n (by simp; omega)).trans (heap_alloc_at _ _ _ hn)) hu hd hi
/-! The same at the operation: what is stored and loaded stays folded till its operands are known. -/
def storeRow (t : TypeId) (p v : Value) : Sem Next := do Instr.storeAt t p v; pure .skip
def loadRow (t : TypeId) (p : Value) : Sem Next := do pure (.value (← Instr.loadAt t p))
theorem execOp_storeRow (a : Act) (dst : Option Tmp) (t : TypeId) (x y : Operand) (ty : TypeId) (pos : String) (after : Array Edge) (guard : Option (Nat × Bool)) :
    execOp a.eval { dst, op := .store t x y, type := ty, pos, after, guard } = storeRow t (a.eval x) (a.eval y) := rfl
theorem execOp_loadRow (a : Act) (dst : Option Tmp) (t : TypeId) (x : Operand) (ty : TypeId) (pos : String) (after : Array Edge) (guard : Option (Nat × Bool)) :
    execOp a.eval { dst, op := .load t x, type := ty, pos, after, guard } = loadRow t (a.eval x) := rfl
theorem run_storeRow (ty : TypeId) (n k : Nat) (v : Value) (w w' : World) (h : (storeVar ty ⟨n, k, none⟩ v).run P w = .ok () w') : (storeRow ty (.pointer (some ⟨n, k, none⟩)) v).run P w = .ok .skip w' := by
  simp only [storeRow, Instr.storeAt, Instr.sureAddr, Sem.run_bind, Sem.run_pure, Result.andThen_ok, h]
theorem run_loadRow (ty : TypeId) (n k : Nat) (v : Value) (w w' : World) (h : (loadVar ty ⟨n, k, none⟩).run P w = .ok v w') : (loadRow ty (.pointer (some ⟨n, k, none⟩))).run P w = .ok (.value v) w' := by
  simp only [loadRow, Instr.loadAt, Instr.sureAddr, Sem.run_bind, Sem.run_pure, Result.andThen_ok, h]
/-- Two results that lie in memory. -/
theorem results_rows2 {fn : Func} {p q : Tmp} {ty ty2 : TypeId} (h : fn.results = #[.cell p ty, .cell q ty2]) (tmps : Array Value) (w : World) (a b : Addr) (v1 v2 : Value)
    (hp : tmps.getD p undef = .pointer (some a)) (hq : tmps.getD q undef = .pointer (some b)) (h1 : (loadVar ty a).run P w = .ok v1 w) (h2 : (loadVar ty2 b).run P w = .ok v2 w) : (results fn tmps).run P w = .ok (.tuple #[v1, v2]) w := by
  simp only [results, h]
  simp only [Array.getD_eq_getD_getElem?] at hp hq
  simp [hp, hq, asAddr, h1, h2]
end
end Go.Cd
/- Blocks of memory: what a cell holds, worlds that are alike but for one block. -/
namespace Go.Proofs.Ytpooghnemlnopaa
open Go Go.RowKit Go.MapKept Go.Cd

theorem cell_of_heap {w : World} {b i : Nat} {c : Array Value} {t : TypeId} {v : Value} (h : w.heap[b]? = some (.cells c t)) (hc : c[i]? = some v) : w.cell? ⟨b, i, none⟩ = some v := by
  simp [World.cell?, h, hc]
theorem frozen_of_heap {w : World} {b i : Nat} {c : Array Value} {t : TypeId} (h : w.heap[b]? = some (.cells c t)) : w.frozen? ⟨b, i, none⟩ = false := by
  simp [World.frozen?, h]
/-- A world that is another but for one block's cells. -/
structure Only (r : Nat) (w w' : World) : Prop where
  size : w'.heap.size = w.heap.size
  os : w'.os = w.os
  tape : w'.tape = w.tape
  output : w'.output = w.output
  block : ∀ k, k ≠ r → w'.heap[k]? = w.heap[k]?
theorem addr_ne (b : Nat) {i j : Nat} (h : i ≠ j) : (⟨b, i, none⟩ : Addr) ≠ ⟨b, j, none⟩ := fun q => h (by injection q)
theorem only_setCell (w : World) (b o : Nat) (v : Value) : Only b w (w.setCell ⟨b, o, none⟩ v) :=
  ⟨by simp, rfl, rfl, rfl, fun k hk => Below.heap_setCell _ _ _ _ hk⟩
theorem only_putObj (w : World) (b : Nat) (o : Obj) : Only b w (w.putObj b o) :=
  ⟨by simp, rfl, rfl, rfl, fun k hk => World.putObj_heap_other hk⟩
theorem Only.cell {r : Nat} {w w' : World} (h : Only r w w') {b o : Nat} (hb : b ≠ r) : w'.cell? ⟨b, o, none⟩ = w.cell? ⟨b, o, none⟩ := by
  simp only [World.cell?, h.block b hb]
theorem Only.frozen {r : Nat} {w w' : World} (h : Only r w w') {b o : Nat} (hb : b ≠ r) : w'.frozen? ⟨b, o, none⟩ = w.frozen? ⟨b, o, none⟩ := by
  simp only [World.frozen?, h.block b hb]
theorem new_only {r : Nat} {a b c : World} (h : New a b) (k : Only r b c) (hr : a.heap.size ≤ r) : New a c :=
  ⟨k.os.trans h.os, k.tape.trans h.tape, k.output.trans h.output, by rw [k.size]; exact h.size, fun x hx => (k.block x (by omega)).trans (h.block x hx)⟩
theorem lt_of_heap {w : World} {k : Nat} {c : Obj} (h : w.heap[k]? = some c) : k < w.heap.size := by
  rcases Nat.lt_or_ge k w.heap.size with h' | h'
  · exact h'
  · rw [Array.getElem?_eq_none h'] at h; cases h
theorem heap_keep {w : World} {o : Obj} {k : Nat} {c : Obj} (h : w.heap[k]? = some c) : (w.alloc o).heap[k]? = some c := by
  rw [(MapKept.heap_alloc w o).2 k (lt_of_heap h)]; exact h
theorem own_of_heap {w w' : World} {base : Nat} {e : TypeId} {size : Nat} {v : Value} {n : Nat} {xs : List Value} (h : w.ownsRow base e size v n xs) (hh : ∀ g, v.ownBlock = some g → w'.heap[g]? = w.heap[g]?) : w'.ownsRow base e size v n xs := by
  obtain ⟨h1, h2⟩ := h
  refine ⟨h1, ?_⟩
  rcases h2 with h2 | ⟨g, cap, cur, hv, hb, hg, r⟩
  · exact .inl h2
  · refine .inr ⟨g, cap, cur, hv, hb, ?_, r⟩
    rw [hh g (by rw [hv]; rfl)]; exact hg
theorem own_lt {w : World} {base : Nat} {e : TypeId} {size : Nat} {v : Value} {n : Nat} {xs : List Value} (h : w.ownsRow base e size v n xs) {g : Nat} (hg : v.ownBlock = some g) : g < w.heap.size := (h.lt g hg).2
theorem own_new {w w' : World} {base : Nat} {e : TypeId} {size : Nat} {v : Value} {n : Nat} {xs : List Value} (h : w.ownsRow base e size v n xs) (hn : New w w') : w'.ownsRow base e size v n xs :=
  own_of_heap h fun g hg => hn.block g (own_lt h hg)
theorem grow_new {w wr w' : World} {e : TypeId} {size : Nat} {v : Value} {n : Nat} {xs : List Value} (hN : New w wr) (h : wr.ownsRow w.heap.size e size v n xs) (hg : wr.grownBy w' v.ownBlock) : New w w' :=
  ⟨hg.os.trans hN.os, hg.tape.trans hN.tape, hg.output.trans hN.output, Nat.le_trans hN.size hg.size, fun k hk => (hg.block k (Nat.lt_of_lt_of_le hk hN.size) (fun q => by have := (h.lt k q.symm).1; omega)).trans (hN.block k hk)⟩
end Go.Proofs.Ytpooghnemlnopaa
/- Whole values, and parts of them, stored into a block that is known; single cells likewise. -/
namespace Go.Proofs.Ytpooghnemlnopaa
open Go Go.RowKit Go.Cd

theorem setCell_at {w : World} {b o : Nat} {c : Array Value} {t : TypeId} (h : w.heap[b]? = some (.cells c t)) (v : Value) : (w.setCell ⟨b, o, none⟩ v).heap[b]? = some (.cells (c.setIfInBounds o v) t) := by
  have hlt := lt_of_heap h
  have h' : w.heap[b] = .cells c t := by simpa [Array.getElem?_eq_getElem hlt] using h
  show (w.heap.modify b _)[b]? = _
  rw [Array.getElem?_eq_getElem (by simpa using hlt), Array.getElem_modify_self, h']
  rfl
theorem only_trans {b : Nat} {u v w : World} (h : Only b u v) (k : Only b v w) : Only b u w :=
  ⟨k.size.trans h.size, k.os.trans h.os, k.tape.trans h.tape, k.output.trans h.output, fun x hx => (k.block x hx).trans (h.block x hx)⟩
theorem only_refl (b : Nat) (w : World) : Only b w w := ⟨rfl, rfl, rfl, rfl, fun _ _ => rfl⟩
theorem setCells_at {b : Nat} {t : TypeId} : ∀ (vs : List Value) (o : Nat) (w : World) (c : Array Value), w.heap[b]? = some (.cells c t) → (w.setCells b o vs).heap[b]? = some (.cells (spl c o vs) t)
  | [], _, _, _, h => h
  | v :: r, o, w, c, h => by
    rw [World.setCells, spl]
    exact setCells_at r (o + 1) _ _ (setCell_at h v)
theorem only_setCells (b : Nat) : ∀ (vs : List Value) (o : Nat) (w : World), Only b w (w.setCells b o vs)
  | [], _, w => only_refl b w
  | v :: r, o, w => by
    rw [World.setCells]
    exact only_trans (only_setCell w b o v) (only_setCells b r (o + 1) _)
theorem there_at {w : World} {b o n : Nat} {c : Array Value} {t : TypeId} (h : w.heap[b]? = some (.cells c t)) (hn : o + n ≤ c.size) : w.there b o n := fun j hj => by
  refine ⟨?_, frozen_of_heap h⟩
  simp only [World.cell?, h]
  simp
  omega
section
variable {P : Program}
/-- A whole value into a part of a block. -/
theorem store_mid (ty : TypeId) (b o : Nat) (c cs : Array Value) (t : TypeId) (w : World) (hb : w.heap[b]? = some (.cells c t)) (hc : o + cs.size ≤ c.size) (hi : (P.info? ty).map (·.size) = some cs.size) (h1 : cs.all (·.oneCell') = true) :
    ∃ w', (storeRow ty (.pointer (some ⟨b, o, none⟩)) (.agg cs)).run P w = .ok .skip w' ∧ w'.heap[b]? = some (.cells (spl c o cs.toList) t) ∧ Only b w w' := by
  refine ⟨w.setCells b o cs.toList, run_storeRow _ _ _ _ _ _ (run_storeVar_mid w b o ty cs (there_at hb hc) hi h1), setCells_at _ _ _ _ hb, only_setCells _ _ _ _⟩
/-- .. into a whole block. -/
theorem store_all (ty : TypeId) (b : Nat) (c cs : Array Value) (t : TypeId) (w : World) (hb : w.heap[b]? = some (.cells c t)) (hc : c.size = cs.size) (hi : (P.info? ty).map (·.size) = some cs.size) (h1 : cs.all (·.oneCell') = true) :
    ∃ w', (storeRow ty (.pointer (some ⟨b, 0, none⟩)) (.agg cs)).run P w = .ok .skip w' ∧ w'.heap[b]? = some (.cells cs t) ∧ Only b w w' := by
  obtain ⟨w', h2, h3, h4⟩ := store_mid ty b 0 c cs t w hb (by omega) hi h1
  rw [spl_full _ _ (by simpa using hc)] at h3
  exact ⟨w', h2, h3, h4⟩
/-- A part of a block is loaded. -/
theorem load_mid (ty : TypeId) (b o : Nat) (c cs : Array Value) (t : TypeId) (d : TypeDesc) (w : World) (hb : w.heap[b]? = some (.cells c t)) (hcs : c.extract o (o + cs.size) = cs) (hu : P.underlying ty = some d) (hd : d.isRow = true) (hi : (P.info? ty).map (·.size) = some cs.size) :
    (loadRow ty (.pointer (some ⟨b, o, none⟩))).run P w = .ok (.value (.agg cs)) w := by
  have h := run_loadVar_mid (P := P) w b o ty cs.toList d (by
    have := World.rangeAt_of_block hb o cs.size
    rw [hcs] at this
    exact this) hu hd (by simpa using hi)
  exact run_loadRow _ _ _ _ _ _ (by simpa using h)
theorem load_all (ty : TypeId) (b : Nat) (cs : Array Value) (t : TypeId) (d : TypeDesc) (w : World) (hb : w.heap[b]? = some (.cells cs t)) (hu : P.underlying ty = some d) (hd : d.isRow = true) (hi : (P.info? ty).map (·.size) = some cs.size) :
    (loadRow ty (.pointer (some ⟨b, 0, none⟩))).run P w = .ok (.value (.agg cs)) w := run_loadRow _ _ _ _ _ _ (load_row ty b cs t d w hb hu hd hi)
/-- A result that lies in memory. -/
theorem results_row1 {fn : Func} {p : Tmp} {ty : TypeId} (h : fn.results = #[.cell p ty]) (tmps : Array Value) (w : World) (a : Addr) (v1 : Value)
    (hp : tmps.getD p undef = .pointer (some a)) (h1 : (loadVar ty a).run P w = .ok v1 w) : (results fn tmps).run P w = .ok v1 w := by
  simp only [results, h]
  simp only [Array.getD_eq_getD_getElem?] at hp
  simp [hp, asAddr, h1]
theorem results_cell_slot {fn : Func} {p q : Tmp} {ty : TypeId} (h : fn.results = #[.cell p ty, .tmp q]) (tmps : Array Value) (w : World) (a : Addr) (v : Value)
    (hp : tmps.getD p undef = .pointer (some a)) (h1 : (loadVar ty a).run P w = .ok v w) : (results fn tmps).run P w = .ok (.tuple #[v, tmps.getD q undef]) w := by
  simp only [results, h]
  simp only [Array.getD_eq_getD_getElem?] at hp ⊢
  simp [hp, asAddr, h1]
theorem results_cell_slot2 {fn : Func} {p q r : Tmp} {ty : TypeId} (h : fn.results = #[.cell p ty, .tmp q, .tmp r]) (tmps : Array Value) (w : World) (a : Addr) (v : Value)
    (hp : tmps.getD p undef = .pointer (some a)) (h1 : (loadVar ty a).run P w = .ok v w) : (results fn tmps).run P w = .ok (.tuple #[v, tmps.getD q undef, tmps.getD r undef]) w := by
  simp only [results, h]
  simp only [Array.getD_eq_getD_getElem?] at hp ⊢
  simp [hp, asAddr, h1]
end
end Go.Proofs.Ytpooghnemlnopaa
/- The symbolic heap, and what it stands for. -/
namespace Go.Sx
set_option linter.unusedSimpArgs false
set_option linter.unusedVariables false
open Go Go.RowKit

inductive SDef where
  | call (f : FuncId) (captured args : List SV)
  | collected (h : Nat)
structure SLoop where
  state : LoopState
  pending : Option Code
  fn : FuncId
  tmps : List SV
  params : List Tmp
  assign : Code
  body : Code
  defers : Nat
/-- A part of memory of which is known what it stands for. -/
structure Abs where
  P : Nat → (Nat → Prop) → World → Prop
  stable : ∀ b F w w', (∀ x, F x → w'.heap[x]? = w.heap[x]?) → P b F w → P b F w'
  lt : ∀ b F w, P b F w → ∀ x, F x → x < w.heap.size
inductive SObj where
  | cells (l : List SV) (T : TypeId)
  | row (l : List SV) (cap esz : Nat) (T : TypeId)
  | smap (es : List (SV × SV × Nat)) (clock : Nat)
  | siter (s : ByteArray) (pos : Nat)
  | loop (l : SLoop)
  | defs (ds : Option (List SDef))
  | abs (A : Abs)

def SDef.Den [Val] (ρ : Env) : SDef → Deferred → Prop
  | .call f xs ys, d => ∃ c a, SV.DenL ρ xs c ∧ SV.DenL ρ ys a ∧ d = { target := .fn (.func f) c.toArray, args := a.toArray }
  | .collected h, d => ∃ b, ρ h = some b ∧ d = { target := .collected b, args := #[] }
def DenDs [Val] (ρ : Env) : List SDef → List Deferred → Prop
  | [], ds => ds = []
  | s :: l, ds => ∃ d ds', ds = d :: ds' ∧ s.Den ρ d ∧ DenDs ρ l ds'
def DenEs [Val] (ρ : Env) : List (SV × SV × Nat) → List MapEntry → Prop
  | [], es => es = []
  | (k, v, n) :: l, es => ∃ x y es', es = { key := x, val := y, born := n } :: es' ∧ k.Den ρ x ∧ v.Den ρ y ∧ DenEs ρ l es'
theorem SDef.Den.mono [Val] {ρ ρ' : Env} (h : ρ.le ρ') : ∀ {s : SDef} {d : Deferred}, s.Den ρ d → s.Den ρ' d
  | .call _ _ _, _, ⟨c, a, e1, e2, e3⟩ => ⟨c, a, e1.mono h, e2.mono h, e3⟩
  | .collected _, _, ⟨b, e1, e2⟩ => ⟨b, h _ _ e1, e2⟩
theorem DenDs.mono [Val] {ρ ρ' : Env} (h : ρ.le ρ') : ∀ {l : List SDef} {ds : List Deferred}, DenDs ρ l ds → DenDs ρ' l ds
  | [], _, e => e
  | _ :: _, _, ⟨d, ds', e1, e2, e3⟩ => ⟨d, ds', e1, e2.mono h, DenDs.mono h e3⟩
theorem DenEs.mono [Val] {ρ ρ' : Env} (h : ρ.le ρ') : ∀ {l : List (SV × SV × Nat)} {es : List MapEntry}, DenEs ρ l es → DenEs ρ' l es
  | [], _, e => e
  | (_, _, _) :: _, _, ⟨x, y, es', e1, e2, e3, e4⟩ => ⟨x, y, es', e1, e2.mono h, e3.mono h, DenEs.mono h e4⟩
structure SLoop.Den [Val] (ρ : Env) (l : SLoop) (L : Loop) : Prop where
  state : L.state = l.state
  pending : L.pending = l.pending
  fn : L.fn = l.fn
  tmps : SV.DenL ρ l.tmps L.tmps.toList
  params : L.params.toList = l.params
  assign : L.assign = l.assign
  body : L.body = l.body
  defers : ρ l.defers = some L.defers
theorem SLoop.Den.mono [Val] {ρ ρ' : Env} (h : ρ.le ρ') {l : SLoop} {L : Loop} (d : l.Den ρ L) : l.Den ρ' L :=
  ⟨d.state, d.pending, d.fn, d.tmps.mono h, d.params, d.assign, d.body, h _ _ d.defers⟩
def ObjDen [Val] (ρ : Env) : SObj → Obj → Prop
  | .cells l T, o => ∃ vs, SV.DenL ρ l vs ∧ o = .cells vs.toArray T
  | .row l cap esz T, o => ∃ vs ex κ, SV.DenL ρ l vs ∧ ρ cap = some κ ∧ vs.length + ex.length = κ * esz ∧ o = .cells (vs ++ ex).toArray T
  | .smap es clock, o => ∃ xs, DenEs ρ es xs ∧ o = .map xs.toArray clock
  | .siter s pos, o => o = .stringIter s pos
  | .loop l, o => ∃ L, l.Den ρ L ∧ o = .loop L
  | .defs none, o => o = .deferred none
  | .defs (some ds), o => ∃ xs, DenDs ρ ds xs ∧ o = .deferred (some xs)
  | .abs _, _ => False
theorem ObjDen.mono [Val] {ρ ρ' : Env} (h : ρ.le ρ') : ∀ {s : SObj} {o : Obj}, ObjDen ρ s o → ObjDen ρ' s o
  | .cells _ _, _, ⟨vs, e1, e2⟩ => ⟨vs, e1.mono h, e2⟩
  | .row _ _ _ _, _, ⟨vs, ex, κ, e1, e2, e3, e4⟩ => ⟨vs, ex, κ, e1.mono h, h _ _ e2, e3, e4⟩
  | .smap _ _, _, ⟨xs, e1, e2⟩ => ⟨xs, e1.mono h, e2⟩
  | .siter _ _, _, e => e
  | .loop _, _, ⟨L, e1, e2⟩ => ⟨L, e1.mono h, e2⟩
  | .defs none, _, e => e
  | .defs (some _), _, ⟨xs, e1, e2⟩ => ⟨xs, e1.mono h, e2⟩
  | .abs _, _, e => e
/-- What an object, its block at b and its footprint at F, says of a world. -/
def OD [Val] (ρ : Env) (o : SObj) (b : Nat) (F : Nat → Prop) (w : World) : Prop :=
  match o with
  | .abs A => A.P b F w
  | o => (∀ x, F x ↔ x = b) ∧ ∃ obj, w.heap[b]? = some obj ∧ ObjDen ρ o obj
def SObj.isAbs : SObj → Bool
  | .abs _ => true
  | _ => false
theorem OD.block [Val] {ρ : Env} {o : SObj} {b : Nat} {F : Nat → Prop} {w : World} (ho : o.isAbs = false) (h : OD ρ o b F w) : (∀ x, F x ↔ x = b) ∧ ∃ obj, w.heap[b]? = some obj ∧ ObjDen ρ o obj := by
  cases o <;> first
    | exact h
    | cases ho
theorem OD.mk [Val] {ρ : Env} {o : SObj} {b : Nat} {F : Nat → Prop} {w : World} (ho : o.isAbs = false) (h : (∀ x, F x ↔ x = b) ∧ ∃ obj, w.heap[b]? = some obj ∧ ObjDen ρ o obj) : OD ρ o b F w := by
  cases o <;> first
    | exact h
    | cases ho
theorem OD.keep [Val] {ρ ρ' : Env} (hρ : ρ.le ρ') {o : SObj} {b : Nat} {F : Nat → Prop} {w w' : World} (hw : ∀ x, F x → w'.heap[x]? = w.heap[x]?) (h : OD ρ o b F w) : OD ρ' o b F w' := by
  cases ho : o.isAbs with
  | true =>
    cases o <;> first
      | exact Abs.stable _ _ _ _ _ hw h
      | cases ho
  | false =>
    obtain ⟨h1, obj, h2, h3⟩ := h.block ho
    exact OD.mk ho ⟨h1, obj, (hw b ((h1 b).2 rfl)).trans h2, h3.mono hρ⟩
theorem OD.lt [Val] {ρ : Env} {o : SObj} {b : Nat} {F : Nat → Prop} {w : World} (h : OD ρ o b F w) {x : Nat} (hx : F x) : x < w.heap.size := by
  cases ho : o.isAbs with
  | true =>
    cases o <;> first
      | exact Abs.lt _ _ _ _ h x hx
      | cases ho
  | false =>
    obtain ⟨h1, obj, h2, h3⟩ := h.block ho
    rw [(h1 x).1 hx]
    exact Go.Proofs.Ytpooghnemlnopaa.lt_of_heap h2

abbrev Look := Nat → Option SObj
/-- What a symbolic heap says of a world; X: blocks of the caller's that may be written; w0: the world when the run began. -/
structure DenHφ [Val] (φ : Nat → Nat → Prop) (ρ : Env) (X : Nat → Prop) (w0 : World) (look : Look) (fresh : Nat → Prop) (w : World) : Prop where
  obj : ∀ h o, look h = some o → ∃ b, ρ h = some b ∧ OD ρ o b (φ h) w
  apart : ∀ h h' o o' x, look h = some o → look h' = some o' → φ h x → φ h' x → h = h'
  own : ∀ h o x, look h = some o → φ h x → w0.heap.size ≤ x ∨ X x
  new : ∀ h, fresh h → ρ h = none
  frame : ∀ x, x < w0.heap.size → ¬ X x → w.heap[x]? = w0.heap[x]?
  size : w0.heap.size ≤ w.heap.size
  os : w.os = w0.os
  tape : w.tape = w0.tape
  output : w.output = w0.output
def DenH [Val] (ρ : Env) (X : Nat → Prop) (w0 : World) (look : Look) (fresh : Nat → Prop) (w : World) : Prop := ∃ φ, DenHφ φ ρ X w0 look fresh w

section
variable {φ : Nat → Nat → Prop} {ρ : Env} {X : Nat → Prop} {w0 w : World} {look : Look} {fresh : Nat → Prop}
theorem DenHφ.at [Val] (d : DenHφ φ ρ X w0 look fresh w) {h : Nat} {o : SObj} (hl : look h = some o) (ho : o.isAbs = false) : ∃ b obj, ρ h = some b ∧ w.heap[b]? = some obj ∧ ObjDen ρ o obj ∧ (∀ x, φ h x ↔ x = b) := by
  obtain ⟨b, h1, h2⟩ := d.obj h o hl
  obtain ⟨h3, obj, h4, h5⟩ := h2.block ho
  exact ⟨b, obj, h1, h4, h5, h3⟩
theorem DenH.at [Val] (d : DenH ρ X w0 look fresh w) {h : Nat} {o : SObj} (hl : look h = some o) (ho : o.isAbs = false) : ∃ b obj, ρ h = some b ∧ w.heap[b]? = some obj ∧ ObjDen ρ o obj := by
  obtain ⟨φ, d⟩ := d
  obtain ⟨b, obj, h1, h2, h3, _⟩ := d.at hl ho
  exact ⟨b, obj, h1, h2, h3⟩
theorem DenH.newName [Val] (d : DenH ρ X w0 look fresh w) {h : Nat} (hf : fresh h) : ρ h = none := by
  obtain ⟨φ, d⟩ := d
  exact d.new h hf
theorem DenH.fresh_look [Val] (d : DenH ρ X w0 look fresh w) {h : Nat} (hf : fresh h) : look h = none := by
  cases hl : look h with
  | none => rfl
  | some o =>
    obtain ⟨φ, d⟩ := d
    obtain ⟨b, h1, _⟩ := d.obj h o hl
    rw [d.new h hf] at h1; cases h1
/-- Less is known. -/
theorem DenH.drop [Val] (d : DenH ρ X w0 look fresh w) {look' : Look} (h : ∀ j o, look' j = some o → look j = some o) : DenH ρ X w0 look' fresh w := by
  obtain ⟨φ, d⟩ := d
  exact ⟨φ, fun j o e => d.obj j o (h j o e), fun j j' o o' x e e' => d.apart j j' o o' x (h j o e) (h j' o' e'), fun j o x e => d.own j o x (h j o e), d.new, d.frame, d.size, d.os, d.tape, d.output⟩
theorem DenH.fresh_mono [Val] (d : DenH ρ X w0 look fresh w) {fresh' : Nat → Prop} (h : ∀ j, fresh' j → fresh j) : DenH ρ X w0 look fresh' w := by
  obtain ⟨φ, d⟩ := d
  exact ⟨φ, d.obj, d.apart, d.own, fun j hj => d.new j (h j hj), d.frame, d.size, d.os, d.tape, d.output⟩
theorem DenH.congr [Val] (d : DenH ρ X w0 look fresh w) {look' : Look} (h : ∀ j, look' j = look j) : DenH ρ X w0 look' fresh w := d.drop fun j o e => by rw [← h j]; exact e
/-- More names are known. -/
theorem DenH.env [Val] (d : DenH ρ X w0 look fresh w) {ρ' : Env} (hle : ρ.le ρ') {fresh' : Nat → Prop} (hf : ∀ j, fresh' j → ρ' j = none) : DenH ρ' X w0 look fresh' w := by
  obtain ⟨φ, d⟩ := d
  refine ⟨φ, fun j o e => ?_, d.apart, d.own, hf, d.frame, d.size, d.os, d.tape, d.output⟩
  obtain ⟨b, h1, h2⟩ := d.obj j o e
  exact ⟨b, hle _ _ h1, h2.keep hle fun _ _ => rfl⟩
/-- A draw. -/
theorem DenH.drawn [Val] (d : DenH ρ X w0 look fresh w) (n : Nat) : DenH ρ X w0 look fresh { w with drawn := n } := by
  obtain ⟨φ, d⟩ := d
  refine ⟨φ, fun j o e => ?_, d.apart, d.own, d.new, d.frame, d.size, d.os, d.tape, d.output⟩
  obtain ⟨b, h1, h2⟩ := d.obj j o e
  exact ⟨b, h1, OD.keep (w := w) (Env.le_refl _) (fun _ _ => rfl) h2⟩
/-- One object turns into another one, perhaps under another name (in the same block). -/
theorem DenH.turn [Val] (d : DenH ρ X w0 look fresh w) {h : Nat} {o : SObj} (hl : look h = some o) (ho : o.isAbs = false) {b : Nat} (hb : ρ h = some b)
    {h2 : Nat} {o' : SObj} (ho' : o'.isAbs = false) {ρ' : Env} (hle : ρ.le ρ') (hb2 : ρ' h2 = some b) (hh2 : h2 = h ∨ look h2 = none) {w' : World} {obj' : Obj} (hw : w'.heap[b]? = some obj') (hwo : ∀ x, x ≠ b → w'.heap[x]? = w.heap[x]?)
    (hs : w'.heap.size = w.heap.size) (hos : w'.os = w.os) (ht : w'.tape = w.tape) (hout : w'.output = w.output) (hden : ObjDen ρ' o' obj')
    {look' : Look} (hlook : ∀ j, look' j = if j = h2 then some o' else if j = h then none else look j) {fresh' : Nat → Prop} (hf : ∀ j, fresh' j → ρ' j = none) : DenH ρ' X w0 look' fresh' w' := by
  obtain ⟨φ, d⟩ := d
  obtain ⟨b', obj, e1, e2, e3, e4⟩ := d.at hl ho
  obtain rfl : b' = b := by rw [hb] at e1; injection e1 with e1; exact e1.symm
  have hφ : ∀ j x, (if j = h2 then φ h x else φ j x) → ∀ o, look' j = some o → ∃ j' o', (look j' = some o') ∧ φ j' x ∧ (j = h2 ∧ j' = h ∨ j ≠ h2 ∧ j' = j ∧ j ≠ h ∧ o' = o) := by
    intro j x hx o hj
    rw [hlook] at hj
    by_cases hj2 : j = h2
    · rw [if_pos hj2] at hx
      exact ⟨h, _, hl, hx, .inl ⟨hj2, rfl⟩⟩
    · rw [if_neg hj2] at hx hj
      by_cases hjh : j = h
      · rw [if_pos hjh] at hj; cases hj
      · rw [if_neg hjh] at hj
        exact ⟨j, o, hj, hx, .inr ⟨hj2, rfl, hjh, rfl⟩⟩
  refine ⟨fun j x => if j = h2 then φ h x else φ j x, ?_, ?_, ?_, hf, ?_, by rw [hs]; exact d.size, by rw [hos]; exact d.os, by rw [ht]; exact d.tape, by rw [hout]; exact d.output⟩
  · intro j o1 hj
    rw [hlook] at hj
    by_cases hj2 : j = h2
    · rw [if_pos hj2] at hj
      injection hj with hj; subst hj
      subst hj2
      refine ⟨b', hb2, OD.mk ho' ⟨fun x => ?_, obj', hw, hden⟩⟩
      simpa using e4 x
    · rw [if_neg hj2] at hj
      by_cases hjh : j = h
      · rw [if_pos hjh] at hj; cases hj
      · rw [if_neg hjh] at hj
        obtain ⟨c, f1, f2⟩ := d.obj j o1 hj
        refine ⟨c, hle _ _ f1, OD.keep hle (w := w) ?_ (by simpa [hj2] using f2)⟩
        intro x hx
        simp only [hj2, if_false] at hx
        refine hwo x fun e => ?_
        exact hjh (d.apart j h o1 o x hj hl hx ((e4 x).2 e))
  · intro j j' o1 o2 x hj hj' hx hx'
    obtain ⟨k, p, k1, k2, k3⟩ := hφ j x hx o1 hj
    obtain ⟨k', p', k1', k2', k3'⟩ := hφ j' x hx' o2 hj'
    have := d.apart k k' p p' x k1 k1' k2 k2'
    rcases k3 with ⟨a1, a2⟩ | ⟨a1, a2, a3, a4⟩ <;> rcases k3' with ⟨c1, c2⟩ | ⟨c1, c2, c3, c4⟩
    · rw [a1, c1]
    · exact absurd (this.symm.trans a2) (by rw [c2]; exact c3)
    · exact absurd (this.trans c2) (by rw [a2]; exact a3)
    · rw [← a2, ← c2]; exact this
  · intro j o1 x hj hx
    obtain ⟨k, p, k1, k2, _⟩ := hφ j x hx o1 hj
    exact d.own k p x k1 k2
  · intro x hx hX
    by_cases hxb : x = b'
    · subst hxb
      rcases d.own h o x hl ((e4 x).2 rfl) with h1 | h1
      · omega
      · exact absurd h1 hX
    · rw [hwo x hxb]; exact d.frame x hx hX
/-- One object changes. -/
theorem DenH.put [Val] (d : DenH ρ X w0 look fresh w) {h : Nat} {o : SObj} (hl : look h = some o) (ho : o.isAbs = false) {b : Nat} (hb : ρ h = some b)
    {o' : SObj} (ho' : o'.isAbs = false) {w' : World} {obj' : Obj} (hw : w'.heap[b]? = some obj') (hwo : Go.Proofs.Ytpooghnemlnopaa.Only b w w') (hden : ObjDen ρ o' obj')
    {look' : Look} (hlook : ∀ j, look' j = if j = h then some o' else look j) : DenH ρ X w0 look' fresh w' := by
  refine d.turn hl ho hb ho' (Env.le_refl _) hb (.inl rfl) hw hwo.block hwo.size hwo.os hwo.tape hwo.output hden (fun j => ?_) (fun j hj => d.newName hj)
  rw [hlook]
  by_cases e : j = h <;> simp [e]
/-- A new object. -/
theorem DenH.alloc [Val] (d : DenH ρ X w0 look fresh w) {h : Nat} {o : SObj} (ho : o.isAbs = false) {obj : Obj} {ρ' : Env} (hle : ρ.le ρ') (hh : fresh h) (hb : ρ' h = some w.heap.size) (hden : ObjDen ρ' o obj)
    {look' : Look} (hlook : ∀ j, look' j = if j = h then some o else look j) {fresh' : Nat → Prop} (hf : ∀ j, fresh' j → ρ' j = none) : DenH ρ' X w0 look' fresh' (w.alloc obj) := by
  have hl := d.fresh_look hh
  obtain ⟨φ, d⟩ := d
  have hold : ∀ x, x < w.heap.size → (w.alloc obj).heap[x]? = w.heap[x]? := fun x hx => Below.heap_alloc w obj x hx
  refine ⟨fun j x => if j = h then x = w.heap.size else φ j x, ?_, ?_, ?_, hf, ?_, by have := d.size; simp; omega, d.os, d.tape, d.output⟩
  · intro j o1 hj
    rw [hlook] at hj
    by_cases e : j = h
    · rw [if_pos e] at hj
      injection hj with hj; subst hj; subst e
      exact ⟨_, hb, OD.mk ho ⟨fun x => by simp, obj, World.alloc_heap_new w obj, hden⟩⟩
    · rw [if_neg e] at hj
      obtain ⟨c, f1, f2⟩ := d.obj j o1 hj
      refine ⟨c, hle _ _ f1, OD.keep hle (w := w) ?_ (by simpa [e] using f2)⟩
      intro x hx
      simp only [e, if_false] at hx
      exact hold x (f2.lt hx)
  · intro j j' o1 o2 x hj hj' hx hx'
    rw [hlook] at hj hj'
    by_cases e : j = h <;> by_cases e' : j' = h
    · rw [e, e']
    · rw [if_pos e] at hx; rw [if_neg e'] at hx' hj'
      obtain ⟨c, f1, f2⟩ := d.obj j' o2 hj'
      have := f2.lt hx'; omega
    · rw [if_neg e] at hx hj; rw [if_pos e'] at hx'
      obtain ⟨c, f1, f2⟩ := d.obj j o1 hj
      have := f2.lt hx; omega
    · rw [if_neg e] at hx hj; rw [if_neg e'] at hx' hj'
      exact d.apart j j' o1 o2 x hj hj' hx hx'
  · intro j o1 x hj hx
    rw [hlook] at hj
    by_cases e : j = h
    · rw [if_pos e] at hx; subst hx; exact .inl d.size
    · rw [if_neg e] at hx hj; exact d.own j o1 x hj hx
  · intro x hx hX
    rw [hold x (by have := d.size; omega)]; exact d.frame x hx hX
/-- A new block of which nothing is known. -/
theorem DenH.junk [Val] (d : DenH ρ X w0 look fresh w) {w' : World} (hn : Go.Cd.New w w') : DenH ρ X w0 look fresh w' := by
  obtain ⟨φ, d⟩ := d
  refine ⟨φ, fun j o e => ?_, d.apart, d.own, d.new, fun x hx hX => (hn.block x (by have := d.size; omega)).trans (d.frame x hx hX), Nat.le_trans d.size hn.size, hn.os.trans d.os, hn.tape.trans d.tape, hn.output.trans d.output⟩
  obtain ⟨b, h1, h2⟩ := d.obj j o e
  exact ⟨b, h1, h2.keep (Env.le_refl _) fun x hx => hn.block x (h2.lt hx)⟩
/-- The beginning of a run. -/
theorem DenH.start [Val] (w : World) (X : Nat → Prop) : DenH (fun _ => none) X w (fun _ => none) (fun _ => True) w :=
  ⟨fun _ _ => False, ⟨fun _ _ e => (by cases e), fun _ _ _ _ _ e => (by cases e), fun _ _ _ e => (by cases e), fun _ _ => rfl, fun _ _ _ => rfl, Nat.le_refl _, rfl, rfl, rfl⟩⟩
end

/-! The heap as a list. -/
abbrev Ents := List (Nat × SObj)
def find : Ents → Nat → Option SObj
  | [], _ => none
  | (k, o) :: r, h => match Nat.beq k h with
    | true => some o
    | false => find r h
def upd : Ents → Nat → SObj → Ents
  | [], h, o => [(h, o)]
  | (k, x) :: r, h, o => match Nat.beq k h with
    | true => (k, o) :: r
    | false => (k, x) :: upd r h o
def del : Ents → Nat → Ents
  | [], _ => []
  | (k, x) :: r, h => match Nat.beq k h with
    | true => del r h
    | false => (k, x) :: del r h
theorem beq_iff [Val] {a b : Nat} : Nat.beq a b = true ↔ a = b := ⟨Nat.eq_of_beq_eq_true, fun h => by subst h; exact Nat.beq_refl a⟩
theorem beq_false [Val] {a b : Nat} (h : Nat.beq a b = false) : a ≠ b := Nat.ne_of_beq_eq_false h
theorem find_cons [Val] (k : Nat) (o : SObj) (r : Ents) (h : Nat) : find ((k, o) :: r) h = if h = k then some o else find r h := by
  show (match Nat.beq k h with | true => some o | false => find r h) = _
  split
  · rename_i e; rw [beq_iff] at e; rw [if_pos e.symm]
  · rename_i e; rw [if_neg (Ne.symm (beq_false e))]
theorem find_upd [Val] : ∀ (r : Ents) (h : Nat) (o : SObj) (j : Nat), find (upd r h o) j = if j = h then some o else find r j
  | [], h, o, j => by rw [upd, find_cons]
  | (k, x) :: r, h, o, j => by
    unfold upd
    split
    · rename_i e; rw [beq_iff] at e; subst e
      rw [find_cons, find_cons]
      split <;> rfl
    · rename_i e
      have e' := beq_false e
      rw [find_cons, find_cons, find_upd r h o j]
      by_cases a : j = k
      · subst a; simp [e']
      · simp [a]
theorem find_del [Val] : ∀ (r : Ents) (h j : Nat), find (del r h) j = if j = h then none else find r j
  | [], h, j => by simp [del, find]
  | (k, x) :: r, h, j => by
    unfold del
    split
    · rename_i e; rw [beq_iff] at e; subst e
      rw [find_cons, find_del r k j]
      split <;> rfl
    · rename_i e
      have e' := beq_false e
      rw [find_cons, find_cons, find_del r h j]
      by_cases a : j = k
      · subst a; simp [e']
      · simp [a]
end Go.Sx
/- The operations on symbolic values: memory, structs, arrays. -/
namespace Go.Sx
set_option linter.unusedSimpArgs false
set_option linter.unusedVariables false
open Go Go.RowKit Go.Cd Go.Proofs.Ytpooghnemlnopaa

structure TyI where
  desc : TypeDesc
  size : Nat
  bytes : Nat
  zero : Option SV
def tyOf (P : Program) (t : TypeId) : Option TyI :=
  match P.info? t with
  | none => none
  | some i => match P.underlying t with
    | none => none
    | some d => some ⟨d, i.size, i.bytes, match i.zero with | some z => ofVal z | none => none⟩
theorem tyOf_spec [Val] {P : Program} {t : TypeId} {ti : TyI} (h : tyOf P t = some ti) : ∃ i, P.info? t = some i ∧ P.underlying t = some ti.desc ∧ i.size = ti.size ∧ i.bytes = ti.bytes ∧ ∀ s, ti.zero = some s → ∃ z, i.zero = some z ∧ ofVal z = some s := by
  unfold tyOf at h
  split at h
  · cases h
  · rename_i i hi
    split at h
    · cases h
    · rename_i d hd
      injection h with h; subst h
      refine ⟨i, hi, hd, rfl, rfl, fun s hs => ?_⟩
      dsimp only at hs
      split at hs
      · rename_i z hz; exact ⟨z, hz, hs⟩
      · cases hs

inductive Upd where
  | ins (h : Nat) (o : SObj)
  | set (h : Nat) (o : SObj)
  | del (h : Nat)
def Upd.look : Upd → Look → Look
  | .ins h o, l => fun j => if j = h then some o else l j
  | .set h o, l => fun j => if j = h then some o else l j
  | .del h, l => fun j => if j = h then none else l j
def looks : List Upd → Look → Look
  | [], l => l
  | u :: us, l => looks us (u.look l)
abbrev R := Option (SV × List Upd × List Nat)

/-- What an operation's outcome means. -/
def Good [Val] (P : Program) (ρ : Env) (X : Nat → Prop) (w0 : World) (look : Look) (fresh : Nat → Prop) (id : Nat) (r : SV × List Upd × List Nat) (sem : Sem Next) (w : World) : Prop :=
  ∃ nx val ρ' w', sem.run P w = .ok nx w' ∧ (nx = .value val ∨ nx = .skip ∧ val = undef) ∧ ρ.le ρ' ∧ r.1.Den ρ' val ∧ DenH ρ' X w0 (looks r.2.1 look) (fun j => fresh j ∧ j ≠ id ∧ j ≠ id + 1) w'
section
variable {P : Program} {ρ : Env} {X : Nat → Prop} {w0 w : World} {look : Look} {fresh : Nat → Prop} {id : Nat}
theorem Good.same [Val] {s : SV} {us : List Nat} {sem : Sem Next} {val : Value} (d : DenH ρ X w0 look fresh w) (hr : sem.run P w = .ok (.value val) w) (hv : s.Den ρ val) : Good P ρ X w0 look fresh id (s, [], us) sem w :=
  ⟨_, val, ρ, w, hr, .inl rfl, Env.le_refl _, hv, d.fresh_mono fun _ h => h.1⟩
theorem Good.value [Val] {s : SV} {us : List Nat} {sem : Sem Value} {val : Value} (d : DenH ρ X w0 look fresh w) (hr : sem.run P w = .ok val w) (hv : s.Den ρ val) : Good P ρ X w0 look fresh id (s, [], us) (do pure (.value (← sem))) w :=
  Good.same d (by simp only [Sem.run_bind, hr, Result.andThen_ok, Sem.run_pure]) hv
/-- A new block. -/
theorem Good.new [Val] {o : SObj} {obj : Obj} {s : SV} {us : List Nat} {sem : Sem Value} {val : Value} (d : DenH ρ X w0 look fresh w) (hid : fresh id) (ho : o.isAbs = false) (hr : sem.run P w = .ok val (w.alloc obj)) (hden : ObjDen ρ o obj)
    (hv : s.Den (ρ.put id w.heap.size) val) : Good P ρ X w0 look fresh id (s, [.ins id o], us) (do pure (.value (← sem))) w := by
  have hle : ρ.le (ρ.put id w.heap.size) := Env.le_put _ (d.newName hid)
  refine ⟨_, val, ρ.put id w.heap.size, w.alloc obj, by simp only [Sem.run_bind, hr, Result.andThen_ok, Sem.run_pure], .inl rfl, hle, hv, ?_⟩
  refine d.alloc ho hle hid (Env.put_same _ _ _) (hden.mono hle) (fun j => rfl) fun j hj => ?_
  rw [Env.put_other _ _ hj.2.1]; exact d.newName hj.1
/-- A change of one object. -/
theorem Good.put [Val] {h : Nat} {o o' : SObj} {us : List Nat} {sem : Sem Unit} {b : Nat} {obj' : Obj} {w' : World} (d : DenH ρ X w0 look fresh w) (hl : look h = some o) (ho : o.isAbs = false) (hb : ρ h = some b) (ho' : o'.isAbs = false)
    (hr : sem.run P w = .ok () w') (hw : w'.heap[b]? = some obj') (hwo : Only b w w') (hden : ObjDen ρ o' obj') : Good P ρ X w0 look fresh id (.tup [], [.set h o'], us) (do sem; pure .skip) w := by
  refine ⟨_, undef, ρ, w', by simp only [Sem.run_bind, hr, Result.andThen_ok, Sem.run_pure], .inr ⟨rfl, rfl⟩, Env.le_refl _, ?_, ?_⟩
  · simp only [SV.Den]; exact ⟨[], by simp, rfl⟩
  · exact (d.put hl ho hb ho' hw hwo hden (fun j => rfl)).fresh_mono fun _ h => h.1
end

/-! Lists. -/
def nth : List SV → Nat → Option SV
  | [], _ => none
  | x :: _, 0 => some x
  | _ :: l, n + 1 => nth l n
theorem nth_eq [Val] : ∀ (l : List SV) (i : Nat), nth l i = l[i]?
  | [], _ => by simp [nth]
  | _ :: _, 0 => by simp [nth]
  | _ :: l, i + 1 => by simp [nth, nth_eq l i]
def setN : List SV → Nat → SV → List SV
  | [], _, _ => []
  | _ :: l, 0, v => v :: l
  | x :: l, n + 1, v => x :: setN l n v
theorem setN_eq [Val] : ∀ (l : List SV) (i : Nat) (v : SV), setN l i v = l.set i v
  | [], _, _ => by simp [setN]
  | _ :: _, 0, _ => by simp [setN]
  | _ :: l, i + 1, v => by simp [setN, setN_eq l i v]
def dropN : Nat → List SV → List SV
  | 0, l => l
  | _ + 1, [] => []
  | n + 1, _ :: l => dropN n l
theorem dropN_eq [Val] : ∀ (n : Nat) (l : List SV), dropN n l = l.drop n
  | 0, _ => by simp [dropN]
  | _ + 1, [] => by simp [dropN]
  | n + 1, _ :: l => by simp [dropN, dropN_eq n l]
def takeN : Nat → List SV → Option (List SV)
  | 0, _ => some []
  | _ + 1, [] => none
  | n + 1, x :: l => match takeN n l with
    | some r => some (x :: r)
    | none => none
theorem takeN_eq [Val] : ∀ {n : Nat} {l r : List SV}, takeN n l = some r → r = l.take n ∧ n ≤ l.length
  | 0, _, _, h => by simp [takeN] at h; subst h; simp
  | _ + 1, [], _, h => by simp [takeN] at h
  | n + 1, x :: l, r, h => by
    unfold takeN at h
    split at h
    · rename_i r' hr
      injection h with h; subst h
      obtain ⟨e1, e2⟩ := takeN_eq hr
      subst e1
      exact ⟨by simp, by simpa using e2⟩
    · cases h
/-- vs laid over l from o on. -/
def over : List SV → Nat → List SV → List SV
  | [], _, _ => []
  | l, _, [] => l
  | _ :: l, 0, v :: vs => v :: over l 0 vs
  | x :: l, n + 1, vs => x :: over l n vs
theorem over_get [Val] : ∀ (l : List SV) (o : Nat) (vs : List SV) (i : Nat), o + vs.length ≤ l.length → (over l o vs)[i]? = if o ≤ i ∧ i < o + vs.length then vs[i - o]? else l[i]?
  | [], o, vs, i, h => by
    have : vs = [] := by cases vs with
      | nil => rfl
      | cons _ _ => simp at h
    subst this
    simp [over]
  | x :: l, o, [], i, h => by
    have e : over (x :: l) o [] = x :: l := by cases o <;> rfl
    rw [e, if_neg (by simp)]
  | x :: l, 0, v :: vs, i, h => by
    have e : over (x :: l) 0 (v :: vs) = v :: over l 0 vs := rfl
    rw [e]
    cases i with
    | zero => simp
    | succ i =>
      rw [List.getElem?_cons_succ, over_get l 0 vs i (by simp at h ⊢; omega)]
      by_cases hc : i < vs.length
      · rw [if_pos (by omega), if_pos (by simp; omega)]; simp
      · rw [if_neg (by omega), if_neg (by simp; omega)]; simp
  | x :: l, n + 1, v :: vs, i, h => by
    have e : over (x :: l) (n + 1) (v :: vs) = x :: over l n (v :: vs) := rfl
    rw [e]
    cases i with
    | zero => simp
    | succ i =>
      rw [List.getElem?_cons_succ, over_get l n (v :: vs) i (by simp at h ⊢; omega)]
      by_cases hc : n ≤ i ∧ i < n + (v :: vs).length
      · rw [if_pos hc, if_pos (by omega)]; congr 1; omega
      · rw [if_neg hc, if_neg (by omega)]; simp
theorem over_length [Val] : ∀ (l : List SV) (o : Nat) (vs : List SV), (over l o vs).length = l.length
  | [], _, _ => by simp [over]
  | _ :: _, o, [] => by cases o <;> simp [over]
  | _ :: l, 0, _ :: vs => by simp [over, over_length l 0 vs]
  | _ :: l, n + 1, v :: vs => by simp [over, over_length l n (v :: vs)]
theorem denL_over [Val] {ρ : Env} {l vs : List SV} {xs ys : List Value} (h : SV.DenL ρ l xs) (h' : SV.DenL ρ vs ys) {o : Nat} (hl : o + vs.length ≤ l.length) : SV.DenL ρ (over l o vs) (spl xs.toArray o ys).toList := by
  have e1 := denL_length h
  have e2 := denL_length h'
  refine denL_of_get (by simp [spl_size, over_length, e1]) fun i s e => ?_
  rw [over_get l o vs i hl] at e
  have hs := spl_get ys xs.toArray o i (by simp; omega)
  rw [← Array.getElem?_toList] at hs
  rw [hs, e2]
  by_cases hc : o ≤ i ∧ i < o + vs.length
  · rw [if_pos hc] at e ⊢
    exact denL_get h' e
  · rw [if_neg hc] at e ⊢
    simpa using denL_get h e
def allScalar : List SV → Bool
  | [] => true
  | x :: l => match x.scalar with
    | true => allScalar l
    | false => false
theorem allScalar_iff [Val] : ∀ {l : List SV}, allScalar l = true → ∀ x ∈ l, x.scalar = true
  | [], _, x, hx => by simp at hx
  | y :: l, h, x, hx => by
    unfold allScalar at h
    split at h
    · rename_i e
      rcases List.mem_cons.1 hx with rfl | hx
      · exact e
      · exact allScalar_iff h x hx
    · cases h
theorem allScalar_den [Val] {ρ : Env} : ∀ {l : List SV} {vs : List Value}, allScalar l = true → SV.DenL ρ l vs → ∀ v ∈ vs, v.oneCell' = true
  | [], _, _, h, v, hv => by rw [denL_nil] at h; subst h; simp at hv
  | x :: l, _, ha, h, v, hv => by
    obtain ⟨y, ys, rfl, h1, h2⟩ := denL_cons.1 h
    unfold allScalar at ha
    split at ha
    · rename_i e
      rcases List.mem_cons.1 hv with rfl | hv
      · exact (scalar_oneCell e h1).1
      · exact allScalar_den ha h2 v hv
    · cases ha
/-- The cells of a value that is known enough. -/
def cellsOf : SV → Option (List SV)
  | .agg l => match allScalar l with
    | true => some l
    | false => none
  | .any => none
  | .tup _ => none
  | v => some [v]
theorem cellsOf_den [Val] {ρ : Env} {s : SV} {v : Value} {l : List SV} (h : cellsOf s = some l) (hv : s.Den ρ v) : ∃ vs, SV.DenL ρ l vs ∧ v.cells = vs.toArray ∧ ∀ x ∈ vs, x.oneCell' = true := by
  have key : s.scalar = true → l = [s] → ∃ vs, SV.DenL ρ l vs ∧ v.cells = vs.toArray ∧ ∀ x ∈ vs, x.oneCell' = true := fun hs e => by
    subst e
    obtain ⟨e1, e2⟩ := scalar_oneCell hs hv
    exact ⟨[v], denL_cons'.2 ⟨hv, by simp⟩, by rw [e2], fun x hx => by simp at hx; subst hx; exact e1⟩
  cases s with
  | agg m =>
    simp only [cellsOf] at h
    split at h
    · rename_i e
      injection h with h; subst h
      simp only [SV.Den] at hv
      obtain ⟨vs, h1, rfl⟩ := hv
      exact ⟨vs, h1, rfl, allScalar_den e h1⟩
    · cases h
  | any => simp [cellsOf] at h
  | tup _ => simp [cellsOf] at h
  | _ => exact key rfl (by simpa [cellsOf] using h.symm)
def objCells : SObj → Option (List SV)
  | .cells l _ => some l
  | .row l _ _ _ => some l
  | _ => none
theorem objCells_den [Val] {ρ : Env} {o : SObj} {obj : Obj} {l : List SV} (h : objCells o = some l) (hd : ObjDen ρ o obj) : o.isAbs = false ∧ ∃ vs ex T, SV.DenL ρ l vs ∧ obj = .cells (vs ++ ex).toArray T := by
  cases o with
  | cells m T =>
    simp only [objCells, Option.some.injEq] at h; subst h
    obtain ⟨vs, h1, rfl⟩ := hd
    exact ⟨rfl, vs, [], T, h1, by simp⟩
  | row m c e T =>
    simp only [objCells, Option.some.injEq] at h; subst h
    obtain ⟨vs, ex, κ, h1, _, _, rfl⟩ := hd
    exact ⟨rfl, vs, ex, T, h1, rfl⟩
  | _ => cases h
theorem objCells_abs [Val] {o : SObj} {l : List SV} (h : objCells o = some l) : o.isAbs = false := by
  cases o <;> first | rfl | cases h
/-- The object with cells laid over. -/
def objOver : SObj → Nat → List SV → Option SObj
  | .cells l T, o, vs => match Nat.ble (o + vs.length) l.length with
    | true => some (.cells (over l o vs) T)
    | false => none
  | .row l c e T, o, vs => match Nat.ble (o + vs.length) l.length with
    | true => some (.row (over l o vs) c e T)
    | false => none
  | _, _, _ => none
theorem spl_append [Val] (xs ex ys : List Value) (o : Nat) (h : o + ys.length ≤ xs.length) : spl (xs ++ ex).toArray o ys = ((spl xs.toArray o ys).toList ++ ex).toArray := by
  apply Array.ext_getElem?
  intro i
  rw [spl_get _ _ _ _ (by simp; omega)]
  have hs := spl_get ys xs.toArray o i (by simpa using h)
  rw [← Array.getElem?_toList] at hs
  have hz : (spl xs.toArray o ys).toList.length = xs.length := by simp [spl_size]
  rw [List.getElem?_toArray, List.getElem?_toArray, List.getElem?_append, List.getElem?_append, hz]
  rw [List.getElem?_toArray] at hs
  by_cases hc : o ≤ i ∧ i < o + ys.length
  · rw [if_pos hc, if_pos (by omega), hs, if_pos hc]
  · rw [if_neg hc]
    by_cases hi : i < xs.length
    · rw [if_pos hi, if_pos hi, hs, if_neg hc]
    · rw [if_neg hi, if_neg hi]
theorem objOver_den [Val] {ρ : Env} {o o' : SObj} {obj : Obj} {i : Nat} {l : List SV} {ys : List Value} (h : objOver o i l = some o') (hd : ObjDen ρ o obj) (hl : SV.DenL ρ l ys) :
    o.isAbs = false ∧ o'.isAbs = false ∧ ∃ c T, obj = .cells c T ∧ i + ys.length ≤ c.size ∧ ObjDen ρ o' (.cells (spl c i ys) T) := by
  have e2 := denL_length hl
  cases o with
  | cells m T =>
    simp only [objOver] at h
    split at h
    · rename_i hb
      injection h with h; subst h
      have hb := Nat.le_of_ble_eq_true hb
      obtain ⟨vs, h1, rfl⟩ := hd
      have e1 := denL_length h1
      exact ⟨rfl, rfl, vs.toArray, T, rfl, by simp; omega, (spl vs.toArray i ys).toList, denL_over h1 hl hb, by simp⟩
    · cases h
  | row m c e T =>
    simp only [objOver] at h
    split at h
    · rename_i hb
      injection h with h; subst h
      have hb := Nat.le_of_ble_eq_true hb
      obtain ⟨vs, ex, κ, h1, h2, h3, rfl⟩ := hd
      have e1 := denL_length h1
      refine ⟨rfl, rfl, (vs ++ ex).toArray, T, rfl, by simp; omega, (spl vs.toArray i ys).toList, ex, κ, denL_over h1 hl hb, h2, by simpa [spl_size] using h3, ?_⟩
      rw [spl_append _ _ _ _ (by omega)]
    · cases h
  | _ => cases h
theorem rangeAt_of_cells [Val] {w : World} {b o : Nat} {c : Array Value} {T : TypeId} {cs : List Value} (hw : w.heap[b]? = some (.cells c T)) (h : ∀ j v, cs[j]? = some v → c[o + j]? = some v) : w.rangeAt b o cs := fun j v e => cell_of_heap hw (h j v e)

/-! Memory. -/
/-- The whole numbers that lie at o, o + s, ..: n of them. -/
def gather (k : IntKind) (l : List SV) (o s : Nat) : Nat → Option Tms
  | 0 => some .nil
  | n + 1 => match nth l o with
    | some (.int k' x) => match decide (k' = k) with
      | true => match gather k l (o + s) s n with
        | some r => some (.cons x.tm r)
        | none => none
      | false => none
    | _ => none
theorem gather_spec [Val] {k : IntKind} {l : List SV} : ∀ {n o s : Nat} {r : Tms}, gather k l o s n = some r → r.v.length = n ∧ ∀ j, j < n → ∃ x : SI, l[o + s * j]? = some (.int k x) ∧ r.v[j]? = some x.v
  | 0, _, _, _, h => by simp [gather] at h; subst h; simp [Tms.v]
  | n + 1, o, s, r, h => by
    unfold gather at h
    split at h
    · rename_i k' x hx
      split at h
      · rename_i hk
        have hk := of_decide_eq_true hk; subst hk
        split at h
        · rename_i r' hr
          injection h with h; subst h
          obtain ⟨h1, h2⟩ := gather_spec hr
          refine ⟨by simp [Tms.v, h1], fun j hj => ?_⟩
          cases j with
          | zero => exact ⟨x, by rw [nth_eq] at hx; simpa using hx, by simp [Tms.v]⟩
          | succ j =>
            obtain ⟨y, e1, e2⟩ := h2 j (by omega)
            exact ⟨y, by rw [← e1]; congr 1; rw [Nat.mul_succ]; omega, by simpa [Tms.v] using e2⟩
        · cases h
      · cases h
    · cases h
def sLoad (P : Program) (look : Look) (t : TypeId) (p : SV) : R :=
  match p with
  | .ptr h off => match tyOf P t with
    | none => none
    | some ti => match look h with
      | none => none
      | some o => match objCells o with
        | none => none
        | some l => match off with
          | .lit m => match ti.desc.isRow with
            | true => match takeN ti.size (dropN m l) with
              | some xs => some (.agg xs, [], [h])
              | none => none
            | false => match nth l m with
              | some x => some (x, [], [h])
              | none => none
          | .idx b s n i => match ti.desc.isRow with
            | true => none
            | false => match nth l b with
              | some (.int k _) => match gather k l b s n with
                | some r => some (.int k (.sym (.sel r i)), [], [h])
                | none => none
              | _ => none
          | .any => none
  | _ => none
section
variable {P : Program} {ρ : Env} {X : Nat → Prop} {w0 w : World} {look : Look} {fresh : Nat → Prop} {id : Nat} {r : SV × List Upd × List Nat}
theorem run_loadAt_cell [Val] {t : TypeId} {ti : TypeDesc} {b m : Nat} {v : Value} (hu : P.underlying t = some ti) (hd : ti.isRow = false) (hc : w.cell? ⟨b, m, none⟩ = some v) : (Instr.loadAt t (.pointer (some ⟨b, m, none⟩))).run P w = .ok v w := by
  have hagg : (isAgg t).run P w = .ok false w := by
    unfold isAgg
    rw [Sem.run_bind, run_underlying hu w]
    cases ti <;> simp_all [TypeDesc.isRow]
  simp [Instr.loadAt, Instr.sureAddr, loadVar, hagg, run_load, hc]
theorem sLoad_den [Val] {t : TypeId} {p : SV} {pv : Value} {s : SV} {us : List Upd} {ts : List Nat} (d : DenH ρ X w0 look fresh w) (hp : p.Den ρ pv) (h : sLoad P look t p = some (s, us, ts)) : ∃ v, (Instr.loadAt t pv).run P w = .ok v w ∧ s.Den ρ v ∧ us = [] := by
  unfold sLoad at h
  split at h <;> try cases h
  rename_i hh off
  split at h <;> try cases h
  rename_i ti hti
  obtain ⟨i, hi, hu, hsz, _, _⟩ := tyOf_spec hti
  split at h <;> try cases h
  rename_i o ho
  split at h <;> try cases h
  rename_i l hl
  simp only [SV.Den] at hp
  obtain ⟨b, m, hb, hm, rfl⟩ := hp
  obtain ⟨b', obj, hb', hobj, hden⟩ := d.at ho (objCells_abs hl)
  obtain rfl : b' = b := by rw [hb] at hb'; injection hb' with e; exact e.symm
  obtain ⟨_, vs, ex, T, hvs, rfl⟩ := objCells_den hl hden
  split at h
  · rename_i m'
    simp only [SOff.Den] at hm; subst hm
    split at h
    · rename_i hrow
      split at h <;> try (cases h; done)
      rename_i xs hxs
      obtain ⟨e1, e2⟩ := takeN_eq hxs
      rw [dropN_eq] at e1 e2
      have hlen := denL_length hvs
      have hys := denL_take ti.size (denL_drop m hvs)
      rw [← e1] at hys
      cases h
      refine ⟨.agg ((vs.drop m).take ti.size).toArray, run_loadAt_mid w b' m t _ ti.desc (rangeAt_of_cells hobj fun j v hj => ?_) hu hrow ?_, ?_, rfl⟩
      · rw [List.getElem?_take] at hj
        split at hj
        · rw [List.getElem?_drop] at hj
          simp only [List.getElem?_toArray, List.getElem?_append]
          have := (List.getElem?_eq_some_iff.1 hj).1
          rw [if_pos this]; exact hj
        · cases hj
      · rw [hi]
        simp at e2
        simp [hsz]; omega
      · simp only [SV.Den]; exact ⟨_, hys, rfl⟩
    · rename_i hrow
      split at h <;> try (cases h; done)
      rename_i x hx
      rw [nth_eq] at hx
      obtain ⟨v, hv, hxv⟩ := denL_get hvs hx
      cases h
      refine ⟨v, run_loadAt_cell hu hrow (cell_of_heap hobj (v := v) ?_), hxv, rfl⟩
      have := (List.getElem?_eq_some_iff.1 hv).1
      simp only [List.getElem?_toArray, List.getElem?_append, if_pos this]; exact hv
  · rename_i bb s n ii
    obtain ⟨rfl, h0i, hlt⟩ := hm
    split at h <;> try cases h
    rename_i hrow
    split at h <;> try cases h
    rename_i k x0 hx0
    split at h <;> try (cases h; done)
    rename_i g hg
    obtain ⟨h1, h2⟩ := gather_spec hg
    obtain ⟨y, e1, e2⟩ := h2 ii.v.toNat hlt
    obtain ⟨v, hv, hyv⟩ := denL_get hvs e1
    simp only [SV.Den] at hyv; subst hyv
    cases h
    refine ⟨.int k y.v, run_loadAt_cell hu hrow (cell_of_heap hobj (v := .int k y.v) ?_), ?_, rfl⟩
    · have := (List.getElem?_eq_some_iff.1 hv).1
      simp only [List.getElem?_toArray, List.getElem?_append, if_pos this]; exact hv
    · simp only [SV.Den, SI.v, Tm.v]
      rw [List.getD_eq_getElem?_getD, e2]; rfl
  · cases h
theorem sLoad_ok [Val] {t : TypeId} {p : SV} {pv : Value} (d : DenH ρ X w0 look fresh w) (hp : p.Den ρ pv) (h : sLoad P look t p = some r) : Good P ρ X w0 look fresh id r (do pure (.value (← Instr.loadAt t pv))) w := by
  obtain ⟨s, us, ts⟩ := r
  obtain ⟨v, h1, h2, rfl⟩ := sLoad_den d hp h
  exact Good.value d h1 h2
end
end Go.Sx
