/- Contracts of the simplifier's bin, is, fixed. -/
import Derived.Test.YtmkjgkldbonpnaaWAdd
import Derived.Test.YtmkjgkldbonpnaaWAtom
namespace Go.Proofs.Ytmkjgkldbonpnaa
open Go Go.RowKit Go.Cd
set_option linter.unusedVariables false

/-- The cells of an expression. -/
def exprC (k ty op off : Int) (lv : Value) : List Value := [.int .i64 k, .int .i64 ty, .int .i64 op, .int .i64 off, lv]
/-- The simplifier's memory: a struct in block bs, its list a row of its own. -/
structure Sim (w : World) (base bs n : Nat) (v : Value) (xs : List Value) (tmp : Int) : Prop where
  heap : w.heap[bs]? = some (.cells #[v, .int .i64 tmp] 76)
  own : w.ownsRow base 64 5 v n xs
  base_le : base ≤ w.heap.size
  apart : v.ownBlock ≠ some bs
/-- What adding an expression with new elements leaves. -/
def BinPost (base bs n : Nat) (v : Value) (xs : List Value) (tmp k ty op : Int) (m : Nat) (cells : Array Value) (r : Value) (w : World) (e : Ending) (w' : World) : Prop :=
  ∃ g cap bl, e = .returned r ∧ Sim w' base bs (n + 1) (.slice (some ⟨g, 0, none⟩) (n + 1) cap) (xs ++ exprC k ty op 0 (.slice (some ⟨bl, 0, none⟩) m m)) tmp ∧
    (v.ownBlock = some g ∨ w.heap.size ≤ g) ∧ Kp bs v.ownBlock w w' ∧ w'.heap[bl]? = some (.cells cells 59) ∧ w.heap.size ≤ bl ∧ bl ≠ g
/-- The type that a binary operation has. -/
def binTy (op : Int) : Int := if 14 ≤ op ∧ op ≤ 19 then 1 else 32

theorem lt_of_heap {w : World} {k : Nat} {c : Obj} (h : w.heap[k]? = some c) : k < w.heap.size := by
  rcases Nat.lt_or_ge k w.heap.size with h' | h'
  · exact h'
  · rw [Array.getElem?_eq_none h'] at h; cases h
theorem heap_keep {w : World} {o : Obj} {k : Nat} {c : Obj} (h : w.heap[k]? = some c) : (w.alloc o).heap[k]? = some c := by
  rw [(MapKept.heap_alloc w o).2 k (lt_of_heap h)]; exact h
theorem Kp.refl (bs : Nat) (row : Option Nat) (w : World) : Kp bs row w w := ⟨rfl, rfl, rfl, Nat.le_refl _, fun _ _ _ _ => rfl⟩
theorem Kp.alloc {bs : Nat} {row : Option Nat} {a b : World} (h : Kp bs row a b) (o : Obj) : Kp bs row a (b.alloc o) :=
  ⟨h.os, h.tape, h.output, by have := h.size; simp; omega, fun k hk h1 h2 => ((MapKept.heap_alloc b o).2 k (Nat.lt_of_lt_of_le hk h.size)).trans (h.block k hk h1 h2)⟩
theorem Kp.trans {bs : Nat} {row : Option Nat} {a b c : World} (h : Kp bs row a b) (k : Kp bs row b c) : Kp bs row a c :=
  ⟨k.os.trans h.os, k.tape.trans h.tape, k.output.trans h.output, Nat.le_trans h.size k.size, fun x hx h1 h2 => (k.block x (Nat.lt_of_lt_of_le hx h.size) h1 h2).trans (h.block x hx h1 h2)⟩
/-- The next row is the old one, or new. -/
theorem Kp.trans2 {bs g : Nat} {row : Option Nat} {a b c : World} (h : Kp bs row a b) (hg : row = some g ∨ a.heap.size ≤ g) (k : Kp bs (some g) b c) : Kp bs row a c :=
  ⟨k.os.trans h.os, k.tape.trans h.tape, k.output.trans h.output, Nat.le_trans h.size k.size, fun x hx h1 h2 => (k.block x (Nat.lt_of_lt_of_le hx h.size) h1 (fun q => by
    injection q with q
    rcases hg with h | h
    · exact h2 (by rw [h, q])
    · omega)).trans (h.block x hx h1 h2)⟩
theorem own_of_heap {w w' : World} {base : Nat} {e : TypeId} {size : Nat} {v : Value} {n : Nat} {xs : List Value} (h : w.ownsRow base e size v n xs) (hh : ∀ g, v.ownBlock = some g → w'.heap[g]? = w.heap[g]?) : w'.ownsRow base e size v n xs := by
  obtain ⟨h1, h2⟩ := h
  refine ⟨h1, ?_⟩
  rcases h2 with h2 | ⟨g, cap, cur, hv, hb, hg, r⟩
  · exact .inl h2
  · refine .inr ⟨g, cap, cur, hv, hb, ?_, r⟩
    rw [hh g (by rw [hv]; rfl)]; exact hg
theorem own_lt {w : World} {base : Nat} {e : TypeId} {size : Nat} {v : Value} {n : Nat} {xs : List Value} (h : w.ownsRow base e size v n xs) {g : Nat} (hg : v.ownBlock = some g) : g < w.heap.size := (h.lt g hg).2
theorem Sim.only {w w' : World} {base bs n r : Nat} {v : Value} {xs : List Value} {tmp : Int} (h : Sim w base bs n v xs tmp) (ho : Only r w w') (hb : bs ≠ r) (hr : v.ownBlock ≠ some r) : Sim w' base bs n v xs tmp :=
  ⟨(ho.block bs hb).trans h.heap, own_of_heap h.own (fun g hg => ho.block g (fun q => hr (by rw [hg, q]))), by rw [ho.size]; exact h.base_le, h.apart⟩
theorem Sim.alloc {w : World} {base bs n : Nat} {v : Value} {xs : List Value} {tmp : Int} (h : Sim w base bs n v xs tmp) (o : Obj) : Sim (w.alloc o) base bs n v xs tmp :=
  ⟨heap_keep h.heap, own_of_heap h.own (fun g hg => (MapKept.heap_alloc w o).2 g (own_lt h.own hg)), by have := h.base_le; simp; omega, h.apart⟩
theorem Sim.lt {w : World} {base bs n : Nat} {v : Value} {xs : List Value} {tmp : Int} (h : Sim w base bs n v xs tmp) : bs < w.heap.size := lt_of_heap h.heap
theorem Only.drew {r : Nat} {w w' : World} (h : Only r w w') : Only r w w'.drew := ⟨h.size, h.os, h.tape, h.output, h.block⟩
/-- Six cells of one block are set. -/
theorem set6 (w : World) (r : Nat) (x0 x1 x2 x3 x4 x5 c0 c1 c2 c3 c4 c5 : Value) (t : TypeId) (h : w.heap[r]? = some (.cells #[c0, c1, c2, c3, c4, c5] t)) :
    Only r w ((((((w.setCell ⟨r, 0, none⟩ x0).setCell ⟨r, 1, none⟩ x1).setCell ⟨r, 2, none⟩ x2).setCell ⟨r, 3, none⟩ x3).setCell ⟨r, 4, none⟩ x4).setCell ⟨r, 5, none⟩ x5) ∧
    ((((((w.setCell ⟨r, 0, none⟩ x0).setCell ⟨r, 1, none⟩ x1).setCell ⟨r, 2, none⟩ x2).setCell ⟨r, 3, none⟩ x3).setCell ⟨r, 4, none⟩ x4).setCell ⟨r, 5, none⟩ x5).heap[r]? = some (.cells #[x0, x1, x2, x3, x4, x5] t) := by
  refine ⟨⟨by simp, ?_, ?_, ?_, fun k hk => ?_⟩, heap_set_at (heap_set_at (heap_set_at (heap_set_at (heap_set_at (heap_set_at h 0 _) 1 _) 2 _) 3 _) 4 _) 5 _⟩
  · simp only [os_setCell]
  · simp only [tape_setCell]
  · simp only [output_setCell]
  · rw [heap_setCell_ne _ _ _ _ hk, heap_setCell_ne _ _ _ _ hk, heap_setCell_ne _ _ _ _ hk, heap_setCell_ne _ _ _ _ hk, heap_setCell_ne _ _ _ _ hk, heap_setCell_ne _ _ _ _ hk]
/-- add, in these words. -/
theorem add_s (base bs n : Nat) (v : Value) (xs : List Value) (tmp k ty op off : Int) (bl m : Nat) (w : World) (hs : Sim w base bs n v xs tmp) (hn : n ≤ 1000) (ht0 : 0 ≤ tmp) (ht1 : tmp ≤ 10000) :
    Calls Try.prog 69 #[.pointer (some ⟨bs, 0, none⟩), .agg #[.int .i64 k, .int .i64 ty, .int .i64 op, .int .i64 off, .slice (some ⟨bl, 0, none⟩) m m]] w fun e w' =>
      ∃ g cap, e = .returned (.agg #[.int .i64 (tmp + n), .int .i64 0, .int .u32 0, .int .u32 0, .int .u32 0, .int .u32 0]) ∧ Sim w' base bs (n + 1) (.slice (some ⟨g, 0, none⟩) (n + 1) cap) (xs ++ exprC k ty op off (.slice (some ⟨bl, 0, none⟩) m m)) tmp ∧
        (v.ownBlock = some g ∨ w.heap.size ≤ g) ∧ Kp bs v.ownBlock w w' := by
  refine (add_c base bs n v (.slice (some ⟨bl, 0, none⟩) m m) xs tmp k ty op off w hs.heap hs.own hs.base_le hs.apart hn ht0 ht1 ⟨_, _, _, rfl⟩).mono ?_
  rintro e w' ⟨g, cap, he, h1, h2, h3, h4⟩
  refine ⟨g, cap, he, ⟨h1, h2, Nat.le_trans hs.base_le h4.size, ?_⟩, h3, h4⟩
  intro q
  have q : g = bs := by simpa [Value.ownBlock] using q
  rcases h3 with h | h
  · exact hs.apart (by rw [h, q])
  · have := hs.lt; omega

set_option maxRecDepth 100000 in
set_option maxHeartbeats 2000000 in
theorem bin_cmp (base bs n : Nat) (v : Value) (xs : List Value) (tmp op x0 x1 x2 x3 x4 x5 y0 y1 y2 y3 y4 y5 : Int) (w : World) (hs : Sim w base bs n v xs tmp) (hn : n ≤ 1000) (ht0 : 0 ≤ tmp) (ht1 : tmp ≤ 10000) (ho : 14 ≤ op) (ho' : op ≤ 19) :
    Calls Try.prog 74 #[.pointer (some ⟨bs, 0, none⟩), .int .i64 op, .agg #[.int .i64 x0, .int .i64 x1, .int .u32 x2, .int .u32 x3, .int .u32 x4, .int .u32 x5], .agg #[.int .i64 y0, .int .i64 y1, .int .u32 y2, .int .u32 y3, .int .u32 y4, .int .u32 y5]] w
      (BinPost base bs n v xs tmp 4 1 op 2 #[.int .i64 x0, .int .i64 x1, .int .u32 x2, .int .u32 x3, .int .u32 x4, .int .u32 x5, .int .i64 y0, .int .i64 y1, .int .u32 y2, .int .u32 y3, .int .u32 y4, .int .u32 y5] (.agg #[.int .i64 (tmp + n), .int .i64 0, .int .u32 0, .int .u32 0, .int .u32 0, .int .u32 0]) w) := by
  have HS := Lib.hid hs
  have hbs := hs.lt
  have hrow : ∀ g, v.ownBlock = some g → g < w.heap.size := fun g hg => own_lt hs.own hg
  have HROW := Lib.hid hrow
  clear hs hrow
  go_enter Try.func74, Try.ntmps74
  go_wp2_with fail
  refine (add_s base bs n v xs tmp 4 1 op 0 (w.heap.size + 1 + 1 + 1) 2 _ (((((HS.out.alloc _).alloc _).alloc _).alloc _).alloc _) hn ht0 ht1).mono ?_
  rintro e w1 ⟨g, cap, rfl, hs1, hg1, hk1⟩
  have hK : Kp bs v.ownBlock w w1 := Kp.trans (((((Kp.refl _ _ w).alloc _).alloc _).alloc _).alloc _ |>.alloc _) hk1
  have hR : w1.heap[w.heap.size + 1 + 1]? = some (.cells #[.int .i64 0, .int .i64 0, .int .u32 0, .int .u32 0, .int .u32 0, .int .u32 0] 59) :=
    (hk1.block _ (by simp) (by omega) (fun q => by have := HROW.out _ q.symm; omega)).trans (heap_keep (heap_keep (heap_alloc_at _ _ _ (by simp))))
  have hL : w1.heap[w.heap.size + 1 + 1 + 1]? = some (.cells #[.int .i64 x0, .int .i64 x1, .int .u32 x2, .int .u32 x3, .int .u32 x4, .int .u32 x5, .int .i64 y0, .int .i64 y1, .int .u32 y2, .int .u32 y3, .int .u32 y4, .int .u32 y5] 59) :=
    (hk1.block _ (by simp) (by omega) (fun q => by have := HROW.out _ q.symm; omega)).trans (heap_keep (heap_alloc_at _ _ _ (by simp)))
  have hgr : v.ownBlock = some g ∨ w.heap.size + 1 + 1 + 1 + 1 + 1 ≤ g := by simpa using hg1
  have hgne : g ≠ w.heap.size + 1 + 1 ∧ g ≠ w.heap.size + 1 + 1 + 1 := by
    rcases hgr with h | h
    · have := HROW.out _ h; omega
    · omega
  have hgr' : v.ownBlock = some g ∨ w.heap.size ≤ g := hgr.imp id (by omega)
  have hbr : bs ≠ w.heap.size + 1 + 1 := by omega
  have d0 : w1.cell? ⟨w.heap.size + 1 + 1, 0, none⟩ = some (.int .i64 0) := cell_of_heap hR rfl
  have d1 : w1.cell? ⟨w.heap.size + 1 + 1, 1, none⟩ = some (.int .i64 0) := cell_of_heap hR rfl
  have d2 : w1.cell? ⟨w.heap.size + 1 + 1, 2, none⟩ = some (.int .u32 0) := cell_of_heap hR rfl
  have d3 : w1.cell? ⟨w.heap.size + 1 + 1, 3, none⟩ = some (.int .u32 0) := cell_of_heap hR rfl
  have d4 : w1.cell? ⟨w.heap.size + 1 + 1, 4, none⟩ = some (.int .u32 0) := cell_of_heap hR rfl
  have d5 : w1.cell? ⟨w.heap.size + 1 + 1, 5, none⟩ = some (.int .u32 0) := cell_of_heap hR rfl
  have df : ∀ i, w1.frozen? ⟨w.heap.size + 1 + 1, i, none⟩ = false := fun i => frozen_of_heap hR
  have S6 := Lib.hid (set6 w1 (w.heap.size + 1 + 1) (.int .i64 (tmp + n)) (.int .i64 0) (.int .u32 0) (.int .u32 0) (.int .u32 0) (.int .u32 0) _ _ _ _ _ _ _ hR)
  have HL := Lib.hid hL
  have H1 := Lib.hid hs1
  have HK := Lib.hid hK
  clear hR hL hs1 hk1 hK hg1
  go_wp2
  obtain ⟨HO, HR⟩ := S6.out
  generalize ((((((w1.setCell ⟨w.heap.size + 1 + 1, 0, none⟩ (.int .i64 (tmp + n))).setCell ⟨w.heap.size + 1 + 1, 1, none⟩ (.int .i64 0)).setCell ⟨w.heap.size + 1 + 1, 2, none⟩ (.int .u32 0)).setCell ⟨w.heap.size + 1 + 1, 3, none⟩ (.int .u32 0)).setCell ⟨w.heap.size + 1 + 1, 4, none⟩ (.int .u32 0)).setCell ⟨w.heap.size + 1 + 1, 5, none⟩ (.int .u32 0)) = w3 at *
  refine bodyPost_ret (v := .agg #[.int .i64 (tmp + n), .int .i64 0, .int .u32 0, .int .u32 0, .int .u32 0, .int .u32 0]) ?_ rfl ?_
  · exact results_cell_row Try.results74 _ _ (w.heap.size + 1 + 1) 59 _ (0, 0) _ rfl HR Try.underlying59 rfl (by kernel_rfl)
  · exact ⟨g, cap, w.heap.size + 1 + 1 + 1, rfl, H1.out.only HO hbr (by simpa [Value.ownBlock] using hgne.1), hgr', HK.out.sets HO (by omega), (HO.block _ (by omega)).trans HL.out, by omega, fun q => hgne.2 q.symm⟩
set_option maxRecDepth 100000 in
set_option maxHeartbeats 2000000 in
theorem bin_lo (base bs n : Nat) (v : Value) (xs : List Value) (tmp op x0 x1 x2 x3 x4 x5 y0 y1 y2 y3 y4 y5 : Int) (w : World) (hs : Sim w base bs n v xs tmp) (hn : n ≤ 1000) (ht0 : 0 ≤ tmp) (ht1 : tmp ≤ 10000) (ho : op < 14) :
    Calls Try.prog 74 #[.pointer (some ⟨bs, 0, none⟩), .int .i64 op, .agg #[.int .i64 x0, .int .i64 x1, .int .u32 x2, .int .u32 x3, .int .u32 x4, .int .u32 x5], .agg #[.int .i64 y0, .int .i64 y1, .int .u32 y2, .int .u32 y3, .int .u32 y4, .int .u32 y5]] w
      (BinPost base bs n v xs tmp 4 32 op 2 #[.int .i64 x0, .int .i64 x1, .int .u32 x2, .int .u32 x3, .int .u32 x4, .int .u32 x5, .int .i64 y0, .int .i64 y1, .int .u32 y2, .int .u32 y3, .int .u32 y4, .int .u32 y5] (.agg #[.int .i64 (tmp + n), .int .i64 0, .int .u32 0, .int .u32 0, .int .u32 0, .int .u32 0]) w) := by
  have HS := Lib.hid hs
  have hbs := hs.lt
  have hrow : ∀ g, v.ownBlock = some g → g < w.heap.size := fun g hg => own_lt hs.own hg
  have HROW := Lib.hid hrow
  clear hs hrow
  go_enter Try.func74, Try.ntmps74
  go_wp2_with fail
  refine (add_s base bs n v xs tmp 4 32 op 0 (w.heap.size + 1 + 1 + 1) 2 _ (((((HS.out.alloc _).alloc _).alloc _).alloc _).alloc _) hn ht0 ht1).mono ?_
  rintro e w1 ⟨g, cap, rfl, hs1, hg1, hk1⟩
  have hK : Kp bs v.ownBlock w w1 := Kp.trans (((((Kp.refl _ _ w).alloc _).alloc _).alloc _).alloc _ |>.alloc _) hk1
  have hR : w1.heap[w.heap.size + 1 + 1]? = some (.cells #[.int .i64 0, .int .i64 0, .int .u32 0, .int .u32 0, .int .u32 0, .int .u32 0] 59) :=
    (hk1.block _ (by simp) (by omega) (fun q => by have := HROW.out _ q.symm; omega)).trans (heap_keep (heap_keep (heap_alloc_at _ _ _ (by simp))))
  have hL : w1.heap[w.heap.size + 1 + 1 + 1]? = some (.cells #[.int .i64 x0, .int .i64 x1, .int .u32 x2, .int .u32 x3, .int .u32 x4, .int .u32 x5, .int .i64 y0, .int .i64 y1, .int .u32 y2, .int .u32 y3, .int .u32 y4, .int .u32 y5] 59) :=
    (hk1.block _ (by simp) (by omega) (fun q => by have := HROW.out _ q.symm; omega)).trans (heap_keep (heap_alloc_at _ _ _ (by simp)))
  have hgr : v.ownBlock = some g ∨ w.heap.size + 1 + 1 + 1 + 1 + 1 ≤ g := by simpa using hg1
  have hgne : g ≠ w.heap.size + 1 + 1 ∧ g ≠ w.heap.size + 1 + 1 + 1 := by
    rcases hgr with h | h
    · have := HROW.out _ h; omega
    · omega
  have hgr' : v.ownBlock = some g ∨ w.heap.size ≤ g := hgr.imp id (by omega)
  have hbr : bs ≠ w.heap.size + 1 + 1 := by omega
  have d0 : w1.cell? ⟨w.heap.size + 1 + 1, 0, none⟩ = some (.int .i64 0) := cell_of_heap hR rfl
  have d1 : w1.cell? ⟨w.heap.size + 1 + 1, 1, none⟩ = some (.int .i64 0) := cell_of_heap hR rfl
  have d2 : w1.cell? ⟨w.heap.size + 1 + 1, 2, none⟩ = some (.int .u32 0) := cell_of_heap hR rfl
  have d3 : w1.cell? ⟨w.heap.size + 1 + 1, 3, none⟩ = some (.int .u32 0) := cell_of_heap hR rfl
  have d4 : w1.cell? ⟨w.heap.size + 1 + 1, 4, none⟩ = some (.int .u32 0) := cell_of_heap hR rfl
  have d5 : w1.cell? ⟨w.heap.size + 1 + 1, 5, none⟩ = some (.int .u32 0) := cell_of_heap hR rfl
  have df : ∀ i, w1.frozen? ⟨w.heap.size + 1 + 1, i, none⟩ = false := fun i => frozen_of_heap hR
  have S6 := Lib.hid (set6 w1 (w.heap.size + 1 + 1) (.int .i64 (tmp + n)) (.int .i64 0) (.int .u32 0) (.int .u32 0) (.int .u32 0) (.int .u32 0) _ _ _ _ _ _ _ hR)
  have HL := Lib.hid hL
  have H1 := Lib.hid hs1
  have HK := Lib.hid hK
  clear hR hL hs1 hk1 hK hg1
  go_wp2
  obtain ⟨HO, HR⟩ := S6.out
  generalize ((((((w1.setCell ⟨w.heap.size + 1 + 1, 0, none⟩ (.int .i64 (tmp + n))).setCell ⟨w.heap.size + 1 + 1, 1, none⟩ (.int .i64 0)).setCell ⟨w.heap.size + 1 + 1, 2, none⟩ (.int .u32 0)).setCell ⟨w.heap.size + 1 + 1, 3, none⟩ (.int .u32 0)).setCell ⟨w.heap.size + 1 + 1, 4, none⟩ (.int .u32 0)).setCell ⟨w.heap.size + 1 + 1, 5, none⟩ (.int .u32 0)) = w3 at *
  refine bodyPost_ret (v := .agg #[.int .i64 (tmp + n), .int .i64 0, .int .u32 0, .int .u32 0, .int .u32 0, .int .u32 0]) ?_ rfl ?_
  · exact results_cell_row Try.results74 _ _ (w.heap.size + 1 + 1) 59 _ (0, 0) _ rfl HR Try.underlying59 rfl (by kernel_rfl)
  · exact ⟨g, cap, w.heap.size + 1 + 1 + 1, rfl, H1.out.only HO hbr (by simpa [Value.ownBlock] using hgne.1), hgr', HK.out.sets HO (by omega), (HO.block _ (by omega)).trans HL.out, by omega, fun q => hgne.2 q.symm⟩
set_option maxRecDepth 100000 in
set_option maxHeartbeats 2000000 in
theorem bin_hi (base bs n : Nat) (v : Value) (xs : List Value) (tmp op x0 x1 x2 x3 x4 x5 y0 y1 y2 y3 y4 y5 : Int) (w : World) (hs : Sim w base bs n v xs tmp) (hn : n ≤ 1000) (ht0 : 0 ≤ tmp) (ht1 : tmp ≤ 10000) (ho : 19 < op) :
    Calls Try.prog 74 #[.pointer (some ⟨bs, 0, none⟩), .int .i64 op, .agg #[.int .i64 x0, .int .i64 x1, .int .u32 x2, .int .u32 x3, .int .u32 x4, .int .u32 x5], .agg #[.int .i64 y0, .int .i64 y1, .int .u32 y2, .int .u32 y3, .int .u32 y4, .int .u32 y5]] w
      (BinPost base bs n v xs tmp 4 32 op 2 #[.int .i64 x0, .int .i64 x1, .int .u32 x2, .int .u32 x3, .int .u32 x4, .int .u32 x5, .int .i64 y0, .int .i64 y1, .int .u32 y2, .int .u32 y3, .int .u32 y4, .int .u32 y5] (.agg #[.int .i64 (tmp + n), .int .i64 0, .int .u32 0, .int .u32 0, .int .u32 0, .int .u32 0]) w) := by
  have HS := Lib.hid hs
  have hbs := hs.lt
  have hrow : ∀ g, v.ownBlock = some g → g < w.heap.size := fun g hg => own_lt hs.own hg
  have HROW := Lib.hid hrow
  clear hs hrow
  go_enter Try.func74, Try.ntmps74
  go_wp2_with fail
  refine (add_s base bs n v xs tmp 4 32 op 0 (w.heap.size + 1 + 1 + 1) 2 _ (((((HS.out.alloc _).alloc _).alloc _).alloc _).alloc _) hn ht0 ht1).mono ?_
  rintro e w1 ⟨g, cap, rfl, hs1, hg1, hk1⟩
  have hK : Kp bs v.ownBlock w w1 := Kp.trans (((((Kp.refl _ _ w).alloc _).alloc _).alloc _).alloc _ |>.alloc _) hk1
  have hR : w1.heap[w.heap.size + 1 + 1]? = some (.cells #[.int .i64 0, .int .i64 0, .int .u32 0, .int .u32 0, .int .u32 0, .int .u32 0] 59) :=
    (hk1.block _ (by simp) (by omega) (fun q => by have := HROW.out _ q.symm; omega)).trans (heap_keep (heap_keep (heap_alloc_at _ _ _ (by simp))))
  have hL : w1.heap[w.heap.size + 1 + 1 + 1]? = some (.cells #[.int .i64 x0, .int .i64 x1, .int .u32 x2, .int .u32 x3, .int .u32 x4, .int .u32 x5, .int .i64 y0, .int .i64 y1, .int .u32 y2, .int .u32 y3, .int .u32 y4, .int .u32 y5] 59) :=
    (hk1.block _ (by simp) (by omega) (fun q => by have := HROW.out _ q.symm; omega)).trans (heap_keep (heap_alloc_at _ _ _ (by simp)))
  have hgr : v.ownBlock = some g ∨ w.heap.size + 1 + 1 + 1 + 1 + 1 ≤ g := by simpa using hg1
  have hgne : g ≠ w.heap.size + 1 + 1 ∧ g ≠ w.heap.size + 1 + 1 + 1 := by
    rcases hgr with h | h
    · have := HROW.out _ h; omega
    · omega
  have hgr' : v.ownBlock = some g ∨ w.heap.size ≤ g := hgr.imp id (by omega)
  have hbr : bs ≠ w.heap.size + 1 + 1 := by omega
  have d0 : w1.cell? ⟨w.heap.size + 1 + 1, 0, none⟩ = some (.int .i64 0) := cell_of_heap hR rfl
  have d1 : w1.cell? ⟨w.heap.size + 1 + 1, 1, none⟩ = some (.int .i64 0) := cell_of_heap hR rfl
  have d2 : w1.cell? ⟨w.heap.size + 1 + 1, 2, none⟩ = some (.int .u32 0) := cell_of_heap hR rfl
  have d3 : w1.cell? ⟨w.heap.size + 1 + 1, 3, none⟩ = some (.int .u32 0) := cell_of_heap hR rfl
  have d4 : w1.cell? ⟨w.heap.size + 1 + 1, 4, none⟩ = some (.int .u32 0) := cell_of_heap hR rfl
  have d5 : w1.cell? ⟨w.heap.size + 1 + 1, 5, none⟩ = some (.int .u32 0) := cell_of_heap hR rfl
  have df : ∀ i, w1.frozen? ⟨w.heap.size + 1 + 1, i, none⟩ = false := fun i => frozen_of_heap hR
  have S6 := Lib.hid (set6 w1 (w.heap.size + 1 + 1) (.int .i64 (tmp + n)) (.int .i64 0) (.int .u32 0) (.int .u32 0) (.int .u32 0) (.int .u32 0) _ _ _ _ _ _ _ hR)
  have HL := Lib.hid hL
  have H1 := Lib.hid hs1
  have HK := Lib.hid hK
  clear hR hL hs1 hk1 hK hg1
  go_wp2
  obtain ⟨HO, HR⟩ := S6.out
  generalize ((((((w1.setCell ⟨w.heap.size + 1 + 1, 0, none⟩ (.int .i64 (tmp + n))).setCell ⟨w.heap.size + 1 + 1, 1, none⟩ (.int .i64 0)).setCell ⟨w.heap.size + 1 + 1, 2, none⟩ (.int .u32 0)).setCell ⟨w.heap.size + 1 + 1, 3, none⟩ (.int .u32 0)).setCell ⟨w.heap.size + 1 + 1, 4, none⟩ (.int .u32 0)).setCell ⟨w.heap.size + 1 + 1, 5, none⟩ (.int .u32 0)) = w3 at *
  refine bodyPost_ret (v := .agg #[.int .i64 (tmp + n), .int .i64 0, .int .u32 0, .int .u32 0, .int .u32 0, .int .u32 0]) ?_ rfl ?_
  · exact results_cell_row Try.results74 _ _ (w.heap.size + 1 + 1) 59 _ (0, 0) _ rfl HR Try.underlying59 rfl (by kernel_rfl)
  · exact ⟨g, cap, w.heap.size + 1 + 1 + 1, rfl, H1.out.only HO hbr (by simpa [Value.ownBlock] using hgne.1), hgr', HK.out.sets HO (by omega), (HO.block _ (by omega)).trans HL.out, by omega, fun q => hgne.2 q.symm⟩
end Go.Proofs.Ytmkjgkldbonpnaa
