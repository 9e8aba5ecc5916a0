/- The simplifier's methods, in the words of its list of expressions. -/
import Derived.Test.YtmkjgkldbonpnaaWBin
namespace Go.Proofs.Ytmkjgkldbonpnaa
open Go Go.RowKit Go.Cd
set_option linter.unusedVariables false

structure IExpr where
  kind : Int
  ty : Int
  op : Int
  off : Int
  l : List Atom
  deriving DecidableEq
def atomsC (l : List Atom) : Array Value := (l.flatMap Atom.cells).toArray
/-- The expressions that cells are, each with its elements in a block of its own. -/
inductive Elems (w : World) (lo bs : Nat) (row : Option Nat) : List IExpr → List Value → Prop
  | nil : Elems w lo bs row [] []
  | snoc {es : List IExpr} {xs : List Value} {e : IExpr} {bl : Nat} : Elems w lo bs row es xs → w.heap[bl]? = some (.cells (atomsC e.l) 59) → lo ≤ bl → bl ≠ bs → some bl ≠ row →
      Elems w lo bs row (es ++ [e]) (xs ++ exprC e.kind e.ty e.op e.off (.slice (some ⟨bl, 0, none⟩) e.l.length e.l.length))
structure SimE (w : World) (lo bs : Nat) (v : Value) (tmp : Int) (es : List IExpr) : Prop where
  ex : ∃ xs, Sim w lo bs es.length v xs tmp ∧ Elems w lo bs v.ownBlock es xs
  lo_le : lo ≤ bs
theorem Elems.keep {w w' : World} {lo bs : Nat} {row row' : Option Nat} {es : List IExpr} {xs : List Value} (h : Elems w lo bs row es xs) (hk : ∀ k, k < w.heap.size → k ≠ bs → some k ≠ row → w'.heap[k]? = w.heap[k]? ∧ some k ≠ row') : Elems w' lo bs row' es xs := by
  induction h with
  | nil => exact .nil
  | snoc _ hb h1 h2 h3 ih =>
    obtain ⟨ha, hc⟩ := hk _ (lt_of_heap hb) h2 h3
    exact .snoc ih (ha.trans hb) h1 h2 hc
/-- What a method that adds expressions leaves. -/
def SimPost (lo bs : Nat) (v : Value) (tmp : Int) (es : List IExpr) (r : Value) (w : World) (e : Ending) (w' : World) : Prop :=
  ∃ v', e = .returned r ∧ SimE w' lo bs v' tmp es ∧ Kp bs v.ownBlock w w' ∧ ∀ g, v'.ownBlock = some g → v.ownBlock = some g ∨ w.heap.size ≤ g
theorem row_ne {own own' : Option Nat} {n : Nat} (h : ∀ g, own' = some g → own = some g ∨ n ≤ g) (k : Nat) (hk : k < n) (hne : some k ≠ own) : some k ≠ own' := fun q => by
  rcases h k q.symm with h | h
  · exact hne h.symm
  · omega
theorem SimE.alloc {w : World} {lo bs : Nat} {v : Value} {tmp : Int} {es : List IExpr} (h : SimE w lo bs v tmp es) (o : Obj) : SimE (w.alloc o) lo bs v tmp es := by
  obtain ⟨⟨xs, hs, he⟩, hl⟩ := h
  exact ⟨⟨xs, hs.alloc o, he.keep fun k hk h1 h2 => ⟨(MapKept.heap_alloc w o).2 k hk, h2⟩⟩, hl⟩
theorem SimE.new {w w' : World} {lo bs : Nat} {v : Value} {tmp : Int} {es : List IExpr} (h : SimE w lo bs v tmp es) (hb : New w w') : SimE w' lo bs v tmp es := by
  obtain ⟨⟨xs, hs, he⟩, hl⟩ := h
  exact ⟨⟨xs, ⟨(hb.block _ hs.lt).trans hs.heap, own_of_heap hs.own (fun g hg => hb.block g (own_lt hs.own hg)), Nat.le_trans hs.base_le hb.size, hs.apart⟩, he.keep fun k hk h1 h2 => ⟨hb.block k hk, h2⟩⟩, hl⟩
theorem Kp.new {bs : Nat} {row : Option Nat} {a b c : World} (h : Kp bs row a b) (k : New b c) : Kp bs row a c :=
  ⟨k.os.trans h.os, k.tape.trans h.tape, k.output.trans h.output, Nat.le_trans h.size k.size, fun x hx h1 h2 => (k.block x (Nat.lt_of_lt_of_le hx h.size)).trans (h.block x hx h1 h2)⟩
/-- add. -/
theorem add_e (lo bs : Nat) (v : Value) (tmp : Int) (es : List IExpr) (e : IExpr) (bl : Nat) (w : World) (hs : SimE w lo bs v tmp es) (hn : es.length ≤ 1000) (ht0 : 0 ≤ tmp) (ht1 : tmp ≤ 10000)
    (hb : w.heap[bl]? = some (.cells (atomsC e.l) 59)) (h1 : lo ≤ bl) (h2 : bl ≠ bs) (h3 : some bl ≠ v.ownBlock) :
    Calls Try.prog 69 #[.pointer (some ⟨bs, 0, none⟩), .agg #[.int .i64 e.kind, .int .i64 e.ty, .int .i64 e.op, .int .i64 e.off, .slice (some ⟨bl, 0, none⟩) e.l.length e.l.length]] w
      (SimPost lo bs v tmp (es ++ [e]) (tmpA (tmp + es.length)).val w) := by
  obtain ⟨⟨xs, hs, he⟩, hl⟩ := hs
  refine (add_s lo bs es.length v xs tmp _ _ _ _ bl _ w hs hn ht0 ht1).mono ?_
  rintro e1 w1 ⟨g, cap, rfl, hs1, hg, hk⟩
  have hown : ∀ x, (Value.slice (some ⟨g, 0, none⟩) (es.length + 1) cap).ownBlock = some x → v.ownBlock = some x ∨ w.heap.size ≤ x := fun x hx => by
    have : g = x := by simpa [Value.ownBlock] using hx
    rwa [this] at hg
  refine ⟨_, rfl, ⟨⟨_, by simpa using hs1, Elems.snoc (he.keep fun k h1 h2 h3 => ⟨hk.block k h1 h2 h3, row_ne hown k h1 h3⟩) ((hk.block bl (lt_of_heap hb) h2 h3).trans hb) h1 h2 (row_ne hown bl (lt_of_heap hb) h3)⟩, hl⟩, hk, hown⟩
/-- bin. -/
theorem bin_e (lo bs : Nat) (v : Value) (tmp : Int) (es : List IExpr) (op : Int) (x y : Atom) (w : World) (hs : SimE w lo bs v tmp es) (hn : es.length ≤ 1000) (ht0 : 0 ≤ tmp) (ht1 : tmp ≤ 10000) :
    Calls Try.prog 74 #[.pointer (some ⟨bs, 0, none⟩), .int .i64 op, x.val, y.val] w (SimPost lo bs v tmp (es ++ [⟨4, binTy op, op, 0, [x, y]⟩]) (tmpA (tmp + es.length)).val w) := by
  obtain ⟨⟨xs, hs, he⟩, hl⟩ := hs
  obtain ⟨x0, x1, x2, x3, x4, x5⟩ := x
  obtain ⟨y0, y1, y2, y3, y4, y5⟩ := y
  have hc : Calls Try.prog 74 #[.pointer (some ⟨bs, 0, none⟩), .int .i64 op, Atom.val ⟨x0, x1, x2, x3, x4, x5⟩, Atom.val ⟨y0, y1, y2, y3, y4, y5⟩] w
      (BinPost lo bs es.length v xs tmp 4 (binTy op) op 2 (atomsC [⟨x0, x1, x2, x3, x4, x5⟩, ⟨y0, y1, y2, y3, y4, y5⟩]) (tmpA (tmp + es.length)).val w) := by
    by_cases h1 : op < 14
    · have e : binTy op = 32 := by unfold binTy; rw [if_neg (by omega)]
      rw [e]; exact bin_lo lo bs es.length v xs tmp op x0 x1 x2 x3 x4 x5 y0 y1 y2 y3 y4 y5 w hs hn ht0 ht1 h1
    · by_cases h2 : 19 < op
      · have e : binTy op = 32 := by unfold binTy; rw [if_neg (by omega)]
        rw [e]; exact bin_hi lo bs es.length v xs tmp op x0 x1 x2 x3 x4 x5 y0 y1 y2 y3 y4 y5 w hs hn ht0 ht1 h2
      · have e : binTy op = 1 := by unfold binTy; rw [if_pos (by omega)]
        rw [e]; exact bin_cmp lo bs es.length v xs tmp op x0 x1 x2 x3 x4 x5 y0 y1 y2 y3 y4 y5 w hs hn ht0 ht1 (by omega) (by omega)
  refine hc.mono ?_
  rintro e1 w1 ⟨g, cap, bl, rfl, hs1, hg, hk, hb, hbl, hbg⟩
  have hown : ∀ x, (Value.slice (some ⟨g, 0, none⟩) (es.length + 1) cap).ownBlock = some x → v.ownBlock = some x ∨ w.heap.size ≤ x := fun x hx => by
    have : g = x := by simpa [Value.ownBlock] using hx
    rwa [this] at hg
  have hlo := hs.base_le
  have hlt := hs.lt
  refine ⟨_, rfl, ⟨⟨_, by simpa using hs1, Elems.snoc (e := ⟨4, binTy op, op, 0, [⟨x0, x1, x2, x3, x4, x5⟩, ⟨y0, y1, y2, y3, y4, y5⟩]⟩) (he.keep fun k h1 h2 h3 => ⟨hk.block k h1 h2 h3, row_ne hown k h1 h3⟩) hb (by omega) (by omega) (by simpa [Value.ownBlock] using hbg)⟩, hl⟩, hk, hown⟩
end Go.Proofs.Ytmkjgkldbonpnaa
