/- Whole values, and parts of them, stored into a block that is known; single cells likewise. -/
import Derived.Test.YtpooghnemlnopaaKitRow
import Derived.Test.YtpooghnemlnopaaKitHeap
namespace Go.Proofs.Ytpooghnemlnopaa
open Go Go.RowKit Go.Cd

theorem setCell_at {w : World} {b o : Nat} {c : Array Value} {t : TypeId} (h : w.heap[b]? = some (.cells c t)) (v : Value) : (w.setCell ⟨b, o, none⟩ v).heap[b]? = some (.cells (c.setIfInBounds o v) t) := by
  have hlt := lt_of_heap h
  have h' : w.heap[b] = .cells c t := by simpa [Array.getElem?_eq_getElem hlt] using h
  show (w.heap.modify b _)[b]? = _
  rw [Array.getElem?_eq_getElem (by simpa using hlt), Array.getElem_modify_self, h']
  rfl
theorem only_trans {b : Nat} {u v w : World} (h : Only b u v) (k : Only b v w) : Only b u w :=
  ⟨k.size.trans h.size, k.os.trans h.os, k.tape.trans h.tape, k.output.trans h.output, fun x hx => (k.block x hx).trans (h.block x hx)⟩
theorem only_refl (b : Nat) (w : World) : Only b w w := ⟨rfl, rfl, rfl, rfl, fun _ _ => rfl⟩
theorem setCells_at {b : Nat} {t : TypeId} : ∀ (vs : List Value) (o : Nat) (w : World) (c : Array Value), w.heap[b]? = some (.cells c t) → (w.setCells b o vs).heap[b]? = some (.cells (spl c o vs) t)
  | [], _, _, _, h => h
  | v :: r, o, w, c, h => by
    rw [World.setCells, spl]
    exact setCells_at r (o + 1) _ _ (setCell_at h v)
theorem only_setCells (b : Nat) : ∀ (vs : List Value) (o : Nat) (w : World), Only b w (w.setCells b o vs)
  | [], _, w => only_refl b w
  | v :: r, o, w => by
    rw [World.setCells]
    exact only_trans (only_setCell w b o v) (only_setCells b r (o + 1) _)
theorem there_at {w : World} {b o n : Nat} {c : Array Value} {t : TypeId} (h : w.heap[b]? = some (.cells c t)) (hn : o + n ≤ c.size) : w.there b o n := fun j hj => by
  refine ⟨?_, frozen_of_heap h⟩
  simp only [World.cell?, h]
  simp
  omega
section
variable {P : Program}
/-- A whole value into a part of a block. -/
theorem store_mid (ty : TypeId) (b o : Nat) (c cs : Array Value) (t : TypeId) (w : World) (hb : w.heap[b]? = some (.cells c t)) (hc : o + cs.size ≤ c.size) (hi : (P.info? ty).map (·.size) = some cs.size) (h1 : cs.all (·.oneCell') = true) :
    ∃ w', (storeRow ty (.pointer (some ⟨b, o, none⟩)) (.agg cs)).run P w = .ok .skip w' ∧ w'.heap[b]? = some (.cells (spl c o cs.toList) t) ∧ Only b w w' := by
  refine ⟨w.setCells b o cs.toList, run_storeRow _ _ _ _ _ _ (run_storeVar_mid w b o ty cs (there_at hb hc) hi h1), setCells_at _ _ _ _ hb, only_setCells _ _ _ _⟩
/-- .. into a whole block. -/
theorem store_all (ty : TypeId) (b : Nat) (c cs : Array Value) (t : TypeId) (w : World) (hb : w.heap[b]? = some (.cells c t)) (hc : c.size = cs.size) (hi : (P.info? ty).map (·.size) = some cs.size) (h1 : cs.all (·.oneCell') = true) :
    ∃ w', (storeRow ty (.pointer (some ⟨b, 0, none⟩)) (.agg cs)).run P w = .ok .skip w' ∧ w'.heap[b]? = some (.cells cs t) ∧ Only b w w' := by
  obtain ⟨w', h2, h3, h4⟩ := store_mid ty b 0 c cs t w hb (by omega) hi h1
  rw [spl_full _ _ (by simpa using hc)] at h3
  exact ⟨w', h2, h3, h4⟩
/-- A part of a block is loaded. -/
theorem load_mid (ty : TypeId) (b o : Nat) (c cs : Array Value) (t : TypeId) (d : TypeDesc) (w : World) (hb : w.heap[b]? = some (.cells c t)) (hcs : c.extract o (o + cs.size) = cs) (hu : P.underlying ty = some d) (hd : d.isRow = true) (hi : (P.info? ty).map (·.size) = some cs.size) :
    (loadRow ty (.pointer (some ⟨b, o, none⟩))).run P w = .ok (.value (.agg cs)) w := by
  have h := run_loadVar_mid (P := P) w b o ty cs.toList d (by
    have := World.rangeAt_of_block hb o cs.size
    rw [hcs] at this
    exact this) hu hd (by simpa using hi)
  exact run_loadRow _ _ _ _ _ _ (by simpa using h)
theorem load_all (ty : TypeId) (b : Nat) (cs : Array Value) (t : TypeId) (d : TypeDesc) (w : World) (hb : w.heap[b]? = some (.cells cs t)) (hu : P.underlying ty = some d) (hd : d.isRow = true) (hi : (P.info? ty).map (·.size) = some cs.size) :
    (loadRow ty (.pointer (some ⟨b, 0, none⟩))).run P w = .ok (.value (.agg cs)) w := run_loadRow _ _ _ _ _ _ (load_row ty b cs t d w hb hu hd hi)
/-- A result that lies in memory. -/
theorem results_row1 {fn : Func} {p : Tmp} {ty : TypeId} (h : fn.results = #[.cell p ty]) (tmps : Array Value) (w : World) (a : Addr) (v1 : Value)
    (hp : tmps.getD p undef = .pointer (some a)) (h1 : (loadVar ty a).run P w = .ok v1 w) : (results fn tmps).run P w = .ok v1 w := by
  simp only [results, h]
  simp only [Array.getD_eq_getD_getElem?] at hp
  simp [hp, asAddr, h1]
theorem results_cell_slot {fn : Func} {p q : Tmp} {ty : TypeId} (h : fn.results = #[.cell p ty, .tmp q]) (tmps : Array Value) (w : World) (a : Addr) (v : Value)
    (hp : tmps.getD p undef = .pointer (some a)) (h1 : (loadVar ty a).run P w = .ok v w) : (results fn tmps).run P w = .ok (.tuple #[v, tmps.getD q undef]) w := by
  simp only [results, h]
  simp only [Array.getD_eq_getD_getElem?] at hp ⊢
  simp [hp, asAddr, h1]
theorem results_cell_slot2 {fn : Func} {p q r : Tmp} {ty : TypeId} (h : fn.results = #[.cell p ty, .tmp q, .tmp r]) (tmps : Array Value) (w : World) (a : Addr) (v : Value)
    (hp : tmps.getD p undef = .pointer (some a)) (h1 : (loadVar ty a).run P w = .ok v w) : (results fn tmps).run P w = .ok (.tuple #[v, tmps.getD q undef, tmps.getD r undef]) w := by
  simp only [results, h]
  simp only [Array.getD_eq_getD_getElem?] at hp ⊢
  simp [hp, asAddr, h1]
end
end Go.Proofs.Ytpooghnemlnopaa
