/- Parts of the proof: WSim2. -/
import Derived.Test.YtmkjgkldbonpnaaZ1
import Derived.Laws.ResultCell
/- The simplifier beside a block that is written meanwhile; its operation. -/
namespace Go.Proofs.Ytmkjgkldbonpnaa
open Go Go.RowKit Go.Cd
set_option linter.unusedVariables false

/-- The blocks that cells point into. -/
def blks (xs : List Value) : List Nat := xs.filterMap Value.ownBlock
theorem blks_append (xs ys : List Value) : blks (xs ++ ys) = blks xs ++ blks ys := List.filterMap_append
theorem blks_expr (k ty op off : Int) (bl m : Nat) : blks (exprC k ty op off (.slice (some ⟨bl, 0, none⟩) m m)) = [bl] := rfl
theorem Elems.lt {w : World} {lo bs : Nat} {row : Option Nat} {es : List IExpr} {xs : List Value} (h : Elems w lo bs row es xs) : ∀ b ∈ blks xs, b < w.heap.size := by
  induction h with
  | nil => intro b hb; simp [blks] at hb
  | snoc _ hb h1 h2 h3 ih =>
    intro b hm
    rw [blks_append, blks_expr, List.mem_append, List.mem_singleton] at hm
    rcases hm with hm | rfl
    · exact ih b hm
    · exact lt_of_heap hb
theorem Elems.keepR {w w' : World} {lo bs : Nat} {row row' : Option Nat} {es : List IExpr} {xs : List Value} {r : Nat} (h : Elems w lo bs row es xs) (hr : r ∉ blks xs)
    (hk : ∀ k, k < w.heap.size → k ≠ r → k ≠ bs → some k ≠ row → w'.heap[k]? = w.heap[k]? ∧ some k ≠ row') : Elems w' lo bs row' es xs := by
  induction h with
  | nil => exact .nil
  | @snoc es xs e bl _ hb h1 h2 h3 ih =>
    rw [blks_append, blks_expr, List.mem_append, List.mem_singleton, not_or] at hr
    obtain ⟨ha, hc⟩ := hk _ (lt_of_heap hb) (Ne.symm hr.2) h2 h3
    exact .snoc (ih hr.1) (ha.trans hb) h1 h2 hc
/-- The simplifier's memory, and a block r that is none of it. -/
structure SimR (w : World) (lo bs : Nat) (v : Value) (tmp : Int) (es : List IExpr) (r : Nat) : Prop where
  ex : ∃ xs, Sim w lo bs es.length v xs tmp ∧ Elems w lo bs v.ownBlock es xs ∧ r ∉ blks xs
  lo_le : lo ≤ bs
  ne : r ≠ bs
  row : v.ownBlock ≠ some r
  lt : r < w.heap.size
theorem SimE.lt {w : World} {lo bs : Nat} {v : Value} {tmp : Int} {es : List IExpr} (h : SimE w lo bs v tmp es) : bs < w.heap.size ∧ ∀ g, v.ownBlock = some g → g < w.heap.size := by
  obtain ⟨⟨_, h, _⟩, _⟩ := h
  exact ⟨h.lt, fun g hg => own_lt h.own hg⟩
theorem SimR.of {w : World} {lo bs : Nat} {v : Value} {tmp : Int} {es : List IExpr} (h : SimE w lo bs v tmp es) (o : Obj) (r : Nat) (hr : r = w.heap.size) : SimR (w.alloc o) lo bs v tmp es r := by
  subst hr
  have h1 := h.lt
  have h2 := h.alloc o
  obtain ⟨⟨xs, hs, he⟩, hl⟩ := h
  refine ⟨⟨xs, hs.alloc o, he.keep fun k hk h1 h2 => ⟨(MapKept.heap_alloc w o).2 k hk, h2⟩, fun q => ?_⟩, hl, by omega, fun q => ?_, by simp⟩
  · have := he.lt _ q; omega
  · have := h1.2 _ q; omega
theorem SimR.toE {w : World} {lo bs : Nat} {v : Value} {tmp : Int} {es : List IExpr} {r : Nat} (h : SimR w lo bs v tmp es r) : SimE w lo bs v tmp es := by
  obtain ⟨⟨xs, h1, h2, _⟩, h3, _⟩ := h
  exact ⟨⟨xs, h1, h2⟩, h3⟩
theorem SimR.new {w w' : World} {lo bs : Nat} {v : Value} {tmp : Int} {es : List IExpr} {r : Nat} (h : SimR w lo bs v tmp es r) (hb : New w w') : SimR w' lo bs v tmp es r := by
  obtain ⟨⟨xs, hs, he, hn⟩, hl, h1, h2, h3⟩ := h
  exact ⟨⟨xs, ⟨(hb.block _ hs.lt).trans hs.heap, own_of_heap hs.own (fun g hg => hb.block g (own_lt hs.own hg)), Nat.le_trans hs.base_le hb.size, hs.apart⟩, he.keep fun k hk h1 h2 => ⟨hb.block k hk, h2⟩, hn⟩, hl, h1, h2, Nat.lt_of_lt_of_le h3 hb.size⟩
theorem SimR.alloc {w : World} {lo bs : Nat} {v : Value} {tmp : Int} {es : List IExpr} {r : Nat} (h : SimR w lo bs v tmp es r) (o : Obj) : SimR (w.alloc o) lo bs v tmp es r := h.new ((New.refl w).alloc (Nat.le_refl _) o)
theorem SimR.only {w w' : World} {lo bs : Nat} {v : Value} {tmp : Int} {es : List IExpr} {r : Nat} (h : SimR w lo bs v tmp es r) (ho : Only r w w') : SimR w' lo bs v tmp es r := by
  obtain ⟨⟨xs, hs, he, hn⟩, hl, h1, h2, h3⟩ := h
  exact ⟨⟨xs, hs.only ho h1.symm h2, he.keepR hn fun k hk h1 h2 h3 => ⟨ho.block k h1, h3⟩, hn⟩, hl, h1, h2, by rw [ho.size]; exact h3⟩
/-- bin, beside such a block. -/
def BinR (lo bs : Nat) (v : Value) (tmp : Int) (es : List IExpr) (r : Nat) (ret : Value) (w : World) (e : Ending) (w' : World) : Prop :=
  ∃ v', e = .returned ret ∧ SimR w' lo bs v' tmp es r ∧ Kp bs v.ownBlock w w' ∧ ∀ g, v'.ownBlock = some g → v.ownBlock = some g ∨ w.heap.size ≤ g
theorem bin_b (lo bs n : Nat) (v : Value) (xs : List Value) (tmp op : Int) (x y : Atom) (w : World) (hs : Sim w lo bs n v xs tmp) (hn : n ≤ 1000) (ht0 : 0 ≤ tmp) (ht1 : tmp ≤ 10000) :
    Calls Try.prog 74 #[.pointer (some ⟨bs, 0, none⟩), .int .i64 op, x.val, y.val] w (BinPost lo bs n v xs tmp 4 (binTy op) op 2 (atomsC [x, y]) (tmpA (tmp + n)).val w) := by
  obtain ⟨x0, x1, x2, x3, x4, x5⟩ := x
  obtain ⟨y0, y1, y2, y3, y4, y5⟩ := y
  by_cases h1 : op < 14
  · have e : binTy op = 32 := by unfold binTy; rw [if_neg (by omega)]
    rw [e]; exact bin_lo lo bs n v xs tmp op x0 x1 x2 x3 x4 x5 y0 y1 y2 y3 y4 y5 w hs hn ht0 ht1 h1
  · by_cases h2 : 19 < op
    · have e : binTy op = 32 := by unfold binTy; rw [if_neg (by omega)]
      rw [e]; exact bin_hi lo bs n v xs tmp op x0 x1 x2 x3 x4 x5 y0 y1 y2 y3 y4 y5 w hs hn ht0 ht1 h2
    · have e : binTy op = 1 := by unfold binTy; rw [if_pos (by omega)]
      rw [e]; exact bin_cmp lo bs n v xs tmp op x0 x1 x2 x3 x4 x5 y0 y1 y2 y3 y4 y5 w hs hn ht0 ht1 (by omega) (by omega)
theorem bin_r (lo bs : Nat) (v : Value) (tmp : Int) (es : List IExpr) (r : Nat) (op : Int) (x y : Atom) (w : World) (hs : SimR w lo bs v tmp es r) (hn : es.length ≤ 1000) (ht0 : 0 ≤ tmp) (ht1 : tmp ≤ 10000) :
    Calls Try.prog 74 #[.pointer (some ⟨bs, 0, none⟩), .int .i64 op, x.val, y.val] w (BinR lo bs v tmp (es ++ [⟨4, binTy op, op, 0, [x, y]⟩]) r (tmpA (tmp + es.length)).val w) := by
  obtain ⟨⟨xs, hs, he, hm⟩, hl, hne, hrow, hlr⟩ := hs
  refine (bin_b lo bs es.length v xs tmp op x y w hs hn ht0 ht1).mono ?_
  rintro e1 w1 ⟨g, cap, bl, rfl, hs1, hg, hk, hb, hbl, hbg⟩
  have hown : ∀ x, (Value.slice (some ⟨g, 0, none⟩) (es.length + 1) cap).ownBlock = some x → v.ownBlock = some x ∨ w.heap.size ≤ x := fun x hx => by
    have : g = x := by simpa [Value.ownBlock] using hx
    rwa [this] at hg
  have hlo := hs.base_le
  have hlt := hs.lt
  refine ⟨_, rfl, ⟨⟨_, by simpa using hs1, Elems.snoc (e := ⟨4, binTy op, op, 0, [x, y]⟩) (he.keep fun k h1 h2 h3 => ⟨hk.block k h1 h2 h3, row_ne hown k h1 h3⟩) hb (by omega) (by omega) (by simpa [Value.ownBlock] using hbg), ?_⟩, hl, hne, fun q => ?_, Nat.lt_of_lt_of_le hlr hk.size⟩, hk, hown⟩
  · show r ∉ blks (xs ++ exprC 4 (binTy op) op 0 (.slice (some ⟨bl, 0, none⟩) 2 2))
    rw [blks_append, blks_expr, List.mem_append, List.mem_singleton, not_or]
    exact ⟨hm, by omega⟩
  · rcases hown _ q with h | h
    · exact hrow h
    · omega
theorem results_cell_slot {P : Program} {fn : Func} {p q : Tmp} {ty : TypeId} (h : fn.results = #[.cell p ty, .tmp q]) (tmps : Array Value) (w : World) (a : Addr) (v : Value)
    (hp : tmps.getD p undef = .pointer (some a)) (h1 : (loadVar ty a).run P w = .ok v w) : (results fn tmps).run P w = .ok (.tuple #[v, tmps.getD q undef]) w := by
  simp only [results, h]
  simp only [Array.getD_eq_getD_getElem?] at hp ⊢
  simp [hp, asAddr, h1]
/-- The operation of which conditions of the result are simplified. -/
def opB (op : Int) : Int := if op = 1 then 1 else if op = 4 then 11 else if op = 5 then 12 else if op = 6 then 13 else if op = 2 then 2 else 0
def opMap : Array MapEntry := #[{ key := .int .u32 1, val := .int .i64 1, born := 0 }, { key := .int .u32 4, val := .int .i64 11, born := 1 }, { key := .int .u32 5, val := .int .i64 12, born := 2 }, { key := .int .u32 6, val := .int .i64 13, born := 3 }, { key := .int .u32 2, val := .int .i64 2, born := 4 }]
theorem atom_size : (Try.prog.info? 59).map (·.size) = some 6 := by kernel_rfl
attribute [local go_sem ↓] Go.wp_at_zero Go.wp_at_succ
set_option maxRecDepth 100000 in
set_option maxHeartbeats 1000000 in
theorem operation_some (lo bs : Nat) (v : Value) (tmp : Int) (es : List IExpr) (op bi : Int) (i : Nat) (x y : Atom) (w : World) (hs : SimE w lo bs v tmp es) (hn : es.length ≤ 900) (ht0 : 0 ≤ tmp) (ht1 : tmp ≤ 10000)
    (hf : Instr.findNow (.int .u32) (.int .u32 op) opMap.toList 0 = some (some (i, .int .i64 bi))) :
    Calls Try.prog 75 #[.pointer (some ⟨bs, 0, none⟩), .int .u32 op, x.val, y.val] w (SimPost lo bs v tmp (es ++ [⟨4, binTy bi, bi, 0, [x, y]⟩]) (.tuple #[(tmpA (tmp + es.length)).val, .bool true]) w) := by
  have HS := Lib.hid hs
  clear hs
  have hmm := @run_makeMap Try.prog
  have m0 := fun (w : World) r hr => run_mapInsert (P := Try.prog) (T := 133) Try.underlying133 Try.underlying29 #[] 0 1 (.int .i64 1) w r hr rfl
  have m1 := fun (w : World) r hr => run_mapInsert (P := Try.prog) (T := 133) Try.underlying133 Try.underlying29 #[{ key := .int .u32 1, val := .int .i64 1, born := 0 }] 1 4 (.int .i64 11) w r hr rfl
  have m2 := fun (w : World) r hr => run_mapInsert (P := Try.prog) (T := 133) Try.underlying133 Try.underlying29 #[{ key := .int .u32 1, val := .int .i64 1, born := 0 }, { key := .int .u32 4, val := .int .i64 11, born := 1 }] 2 5 (.int .i64 12) w r hr rfl
  have m3 := fun (w : World) r hr => run_mapInsert (P := Try.prog) (T := 133) Try.underlying133 Try.underlying29 #[{ key := .int .u32 1, val := .int .i64 1, born := 0 }, { key := .int .u32 4, val := .int .i64 11, born := 1 }, { key := .int .u32 5, val := .int .i64 12, born := 2 }] 3 6 (.int .i64 13) w r hr rfl
  have m4 := fun (w : World) r hr => run_mapInsert (P := Try.prog) (T := 133) Try.underlying133 Try.underlying29 #[{ key := .int .u32 1, val := .int .i64 1, born := 0 }, { key := .int .u32 4, val := .int .i64 11, born := 1 }, { key := .int .u32 5, val := .int .i64 12, born := 2 }, { key := .int .u32 6, val := .int .i64 13, born := 3 }] 4 2 (.int .i64 2) w r hr rfl
  have m5 := fun (w : World) r hr => run_mapGet_at (P := Try.prog) (T := 133) Try.underlying133 Try.underlying29 opMap 5 op i (.int .i64 bi) w r hr hf true
  unfold opMap at m5
  clear hf
  obtain ⟨x0, x1, x2, x3, x4, x5⟩ := x
  obtain ⟨y0, y1, y2, y3, y4, y5⟩ := y
  unfold Atom.val
  dsimp only
  go_enter Try.func75, Try.ntmps75
  go_wp2_with fail
  clear hmm m0 m1 m2 m3 m4 m5
  have HR0 := Lib.hid ((SimR.of ((HS.out.alloc (.cells #[.int .i64 x0, .int .i64 x1, .int .u32 x2, .int .u32 x3, .int .u32 x4, .int .u32 x5] 59)).alloc (.cells #[.int .i64 y0, .int .i64 y1, .int .u32 y2, .int .u32 y3, .int .u32 y4, .int .u32 y5] 59)) (.cells #[.int .i64 0, .int .i64 0, .int .u32 0, .int .u32 0, .int .u32 0, .int .u32 0] 59) (w.heap.size + 1 + 1) (by simp)).alloc (.map #[{ key := .int .u32 1, val := .int .i64 1, born := 0 }, { key := .int .u32 4, val := .int .i64 11, born := 1 }, { key := .int .u32 5, val := .int .i64 12, born := 2 }, { key := .int .u32 6, val := .int .i64 13, born := 3 }, { key := .int .u32 2, val := .int .i64 2, born := 4 }] 5))
  have hsl := HS.out.lt
  have HL := Lib.hid hsl
  clear hsl
  refine (bin_r lo bs v tmp es (w.heap.size + 1 + 1) bi ⟨x0, x1, x2, x3, x4, x5⟩ ⟨y0, y1, y2, y3, y4, y5⟩ _ HR0.out (by omega) ht0 ht1).mono ?_
  rintro e w1 ⟨v1, rfl, hs1, hk1, hg1⟩
  have hR : w1.heap[w.heap.size + 1 + 1]? = some (.cells #[.int .i64 0, .int .i64 0, .int .u32 0, .int .u32 0, .int .u32 0, .int .u32 0] 59) :=
    (hk1.block _ (by simp) (by have := HL.out.1; omega) (fun q => by have := HL.out.2 _ q.symm; omega)).trans (heap_keep (heap_alloc_at _ _ _ (by simp)))
  have hz1 : w.heap.size + 1 + 1 < w1.heap.size := lt_of_heap hR
  have d0 : w1.cell? ⟨w.heap.size + 1 + 1, 0, none⟩ = some (.int .i64 0) := cell_of_heap hR rfl
  have d1 : w1.cell? ⟨w.heap.size + 1 + 1, 1, none⟩ = some (.int .i64 0) := cell_of_heap hR rfl
  have d2 : w1.cell? ⟨w.heap.size + 1 + 1, 2, none⟩ = some (.int .u32 0) := cell_of_heap hR rfl
  have d3 : w1.cell? ⟨w.heap.size + 1 + 1, 3, none⟩ = some (.int .u32 0) := cell_of_heap hR rfl
  have d4 : w1.cell? ⟨w.heap.size + 1 + 1, 4, none⟩ = some (.int .u32 0) := cell_of_heap hR rfl
  have d5 : w1.cell? ⟨w.heap.size + 1 + 1, 5, none⟩ = some (.int .u32 0) := cell_of_heap hR rfl
  have df : ∀ i, w1.frozen? ⟨w.heap.size + 1 + 1, i, none⟩ = false := fun i => frozen_of_heap hR
  obtain ⟨t, ht⟩ : ∃ t : Int, tmp + (es.length : Int) = t := ⟨_, rfl⟩
  have HT := Lib.hid ht
  clear ht
  have hk : Kp bs v.ownBlock w w1 := Kp.trans ((((Kp.refl _ _ w).alloc _).alloc _).alloc _ |>.alloc _) hk1
  have hg : ∀ g, v1.ownBlock = some g → v.ownBlock = some g ∨ w.heap.size ≤ g := fun g h => (hg1 g h).imp id (fun h => by simp at h; omega)
  have HK := Lib.hid hk
  have HG := Lib.hid hg
  have HR := Lib.hid hs1
  have S6 := Lib.hid (set6 w1 (w.heap.size + 1 + 1) (.int .i64 t) (.int .i64 0) (.int .u32 0) (.int .u32 0) (.int .u32 0) (.int .u32 0) _ _ _ _ _ _ _ hR)
  clear hR hk hg hs1 hk1 hg1
  unfold tmpA Atom.val
  dsimp only
  rw [HT.out]
  go_wp2
  obtain ⟨HO, HRR⟩ := S6.out
  generalize ((((((w1.setCell ⟨w.heap.size + 1 + 1, 0, none⟩ (.int .i64 t)).setCell ⟨w.heap.size + 1 + 1, 1, none⟩ (.int .i64 0)).setCell ⟨w.heap.size + 1 + 1, 2, none⟩ (.int .u32 0)).setCell ⟨w.heap.size + 1 + 1, 3, none⟩ (.int .u32 0)).setCell ⟨w.heap.size + 1 + 1, 4, none⟩ (.int .u32 0)).setCell ⟨w.heap.size + 1 + 1, 5, none⟩ (.int .u32 0)) = w3 at *
  refine bodyPost_ret (v := .tuple #[.agg #[.int .i64 t, .int .i64 0, .int .u32 0, .int .u32 0, .int .u32 0, .int .u32 0], .bool true]) ?_ rfl ?_
  · exact results_cell_slot Try.results75 _ _ ⟨w.heap.size + 1 + 1, 0, none⟩ _ rfl (load_row 59 _ _ _ _ _ HRR Try.underlying59 rfl (atom_size.trans rfl))
  · exact ⟨v1, by rw [← HT.out]; rfl, (HR.out.only HO).toE, ⟨HO.os.trans HK.out.os, HO.tape.trans HK.out.tape, HO.output.trans HK.out.output, by rw [HO.size]; exact HK.out.size, fun k h1 h2 h3 => (HO.block k (by omega)).trans (HK.out.block k h1 h2 h3)⟩, HG.out⟩
set_option maxRecDepth 100000 in
set_option maxHeartbeats 1000000 in
theorem operation_none (lo bs : Nat) (v : Value) (tmp : Int) (es : List IExpr) (op : Int) (x y : Atom) (w : World) (hs : SimE w lo bs v tmp es) (hf : Instr.findNow (.int .u32) (.int .u32 op) opMap.toList 0 = some none) :
    Calls Try.prog 75 #[.pointer (some ⟨bs, 0, none⟩), .int .u32 op, x.val, y.val] w (SimPost lo bs v tmp es (.tuple #[(tmpA 0).val, .bool false]) w) := by
  have HS := Lib.hid hs
  clear hs
  have hmm := @run_makeMap Try.prog
  have m0 := fun (w : World) r hr => run_mapInsert (P := Try.prog) (T := 133) Try.underlying133 Try.underlying29 #[] 0 1 (.int .i64 1) w r hr rfl
  have m1 := fun (w : World) r hr => run_mapInsert (P := Try.prog) (T := 133) Try.underlying133 Try.underlying29 #[{ key := .int .u32 1, val := .int .i64 1, born := 0 }] 1 4 (.int .i64 11) w r hr rfl
  have m2 := fun (w : World) r hr => run_mapInsert (P := Try.prog) (T := 133) Try.underlying133 Try.underlying29 #[{ key := .int .u32 1, val := .int .i64 1, born := 0 }, { key := .int .u32 4, val := .int .i64 11, born := 1 }] 2 5 (.int .i64 12) w r hr rfl
  have m3 := fun (w : World) r hr => run_mapInsert (P := Try.prog) (T := 133) Try.underlying133 Try.underlying29 #[{ key := .int .u32 1, val := .int .i64 1, born := 0 }, { key := .int .u32 4, val := .int .i64 11, born := 1 }, { key := .int .u32 5, val := .int .i64 12, born := 2 }] 3 6 (.int .i64 13) w r hr rfl
  have m4 := fun (w : World) r hr => run_mapInsert (P := Try.prog) (T := 133) Try.underlying133 Try.underlying29 #[{ key := .int .u32 1, val := .int .i64 1, born := 0 }, { key := .int .u32 4, val := .int .i64 11, born := 1 }, { key := .int .u32 5, val := .int .i64 12, born := 2 }, { key := .int .u32 6, val := .int .i64 13, born := 3 }] 4 2 (.int .i64 2) w r hr rfl
  have hz : ∀ w, (zeroValue 3).run Try.prog w = .ok (.int .i64 0) w := fun w => by kernel_rfl
  have m5 := fun (w : World) r (hr : r = w.heap.size) => run_mapMiss (P := Try.prog) (T := 133) Try.underlying133 Try.underlying29 opMap 5 op (.int .i64 0) (w.alloc (.map opMap 5)) r (heap_alloc_at _ _ _ hr) (hz _) hf true
  unfold opMap at m5
  clear hf hz
  obtain ⟨x0, x1, x2, x3, x4, x5⟩ := x
  obtain ⟨y0, y1, y2, y3, y4, y5⟩ := y
  unfold Atom.val
  dsimp only
  go_enter Try.func75, Try.ntmps75
  go_wp2
  clear hmm m0 m1 m2 m3 m4 m5
  refine bodyPost_ret (v := .tuple #[.agg #[.int .i64 0, .int .i64 0, .int .u32 0, .int .u32 0, .int .u32 0, .int .u32 0], .bool false]) ?_ rfl (SimPost.refl HS.out (by go_grown) _)
  exact results_cell_slot Try.results75 _ _ ⟨w.heap.size + 1 + 1, 0, none⟩ _ rfl (load_row 59 _ _ _ _ _ (heap_keep (heap_alloc_at _ _ _ (by simp))) Try.underlying59 rfl (atom_size.trans rfl))
theorem same_int (k : IntKind) (a b : Int) : Instr.sameNow (.int k) (.int k a) (.int k b) = some (a == b) := by simp [Instr.sameNow]
theorem opB_of (op : Int) : (∃ i bi, Instr.findNow (.int .u32) (.int .u32 op) opMap.toList 0 = some (some (i, .int .i64 bi)) ∧ opB op = bi ∧ bi ≠ 0) ∨ (Instr.findNow (.int .u32) (.int .u32 op) opMap.toList 0 = some none ∧ opB op = 0) := by
  by_cases h1 : op = 1
  · subst h1; exact .inl ⟨0, 1, rfl, rfl, by decide⟩
  by_cases h4 : op = 4
  · subst h4; exact .inl ⟨1, 11, rfl, rfl, by decide⟩
  by_cases h5 : op = 5
  · subst h5; exact .inl ⟨2, 12, rfl, rfl, by decide⟩
  by_cases h6 : op = 6
  · subst h6; exact .inl ⟨3, 13, rfl, rfl, by decide⟩
  by_cases h2 : op = 2
  · subst h2; exact .inl ⟨4, 2, rfl, rfl, by decide⟩
  · right
    refine ⟨?_, by unfold opB; rw [if_neg h1, if_neg h4, if_neg h5, if_neg h6, if_neg h2]⟩
    have e1 : (op == 1) = false := beq_eq_false_iff_ne.2 h1
    have e4 : (op == 4) = false := beq_eq_false_iff_ne.2 h4
    have e5 : (op == 5) = false := beq_eq_false_iff_ne.2 h5
    have e6 : (op == 6) = false := beq_eq_false_iff_ne.2 h6
    have e2 : (op == 2) = false := beq_eq_false_iff_ne.2 h2
    simp only [Instr.findNow, opMap, same_int, e1, e4, e5, e6, e2]
end Go.Proofs.Ytmkjgkldbonpnaa
