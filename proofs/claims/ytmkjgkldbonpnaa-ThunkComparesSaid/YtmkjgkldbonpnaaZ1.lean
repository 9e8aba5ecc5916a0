/- Parts of the proof: WSim, WIs, KitRow, WComp, WSimp, WSane1. -/
import Derived.Test.YtmkjgkldbonpnaaZ0
import Derived.Deep.MidRow
import Derived.Test.YtmkjgkldbonpnaaRows
/- The simplifier's methods, in the words of its list of expressions. -/
namespace Go.Proofs.Ytmkjgkldbonpnaa
open Go Go.RowKit Go.Cd
set_option linter.unusedVariables false

structure IExpr where
  kind : Int
  ty : Int
  op : Int
  off : Int
  l : List Atom
  deriving DecidableEq
def atomsC (l : List Atom) : Array Value := (l.flatMap Atom.cells).toArray
/-- The expressions that cells are, each with its elements in a block of its own. -/
inductive Elems (w : World) (lo bs : Nat) (row : Option Nat) : List IExpr → List Value → Prop
  | nil : Elems w lo bs row [] []
  | snoc {es : List IExpr} {xs : List Value} {e : IExpr} {bl : Nat} : Elems w lo bs row es xs → w.heap[bl]? = some (.cells (atomsC e.l) 59) → lo ≤ bl → bl ≠ bs → some bl ≠ row →
      Elems w lo bs row (es ++ [e]) (xs ++ exprC e.kind e.ty e.op e.off (.slice (some ⟨bl, 0, none⟩) e.l.length e.l.length))
structure SimE (w : World) (lo bs : Nat) (v : Value) (tmp : Int) (es : List IExpr) : Prop where
  ex : ∃ xs, Sim w lo bs es.length v xs tmp ∧ Elems w lo bs v.ownBlock es xs
  lo_le : lo ≤ bs
theorem Elems.keep {w w' : World} {lo bs : Nat} {row row' : Option Nat} {es : List IExpr} {xs : List Value} (h : Elems w lo bs row es xs) (hk : ∀ k, k < w.heap.size → k ≠ bs → some k ≠ row → w'.heap[k]? = w.heap[k]? ∧ some k ≠ row') : Elems w' lo bs row' es xs := by
  induction h with
  | nil => exact .nil
  | snoc _ hb h1 h2 h3 ih =>
    obtain ⟨ha, hc⟩ := hk _ (lt_of_heap hb) h2 h3
    exact .snoc ih (ha.trans hb) h1 h2 hc
/-- What a method that adds expressions leaves. -/
def SimPost (lo bs : Nat) (v : Value) (tmp : Int) (es : List IExpr) (r : Value) (w : World) (e : Ending) (w' : World) : Prop :=
  ∃ v', e = .returned r ∧ SimE w' lo bs v' tmp es ∧ Kp bs v.ownBlock w w' ∧ ∀ g, v'.ownBlock = some g → v.ownBlock = some g ∨ w.heap.size ≤ g
theorem row_ne {own own' : Option Nat} {n : Nat} (h : ∀ g, own' = some g → own = some g ∨ n ≤ g) (k : Nat) (hk : k < n) (hne : some k ≠ own) : some k ≠ own' := fun q => by
  rcases h k q.symm with h | h
  · exact hne h.symm
  · omega
theorem SimE.alloc {w : World} {lo bs : Nat} {v : Value} {tmp : Int} {es : List IExpr} (h : SimE w lo bs v tmp es) (o : Obj) : SimE (w.alloc o) lo bs v tmp es := by
  obtain ⟨⟨xs, hs, he⟩, hl⟩ := h
  exact ⟨⟨xs, hs.alloc o, he.keep fun k hk h1 h2 => ⟨(MapKept.heap_alloc w o).2 k hk, h2⟩⟩, hl⟩
theorem SimE.new {w w' : World} {lo bs : Nat} {v : Value} {tmp : Int} {es : List IExpr} (h : SimE w lo bs v tmp es) (hb : New w w') : SimE w' lo bs v tmp es := by
  obtain ⟨⟨xs, hs, he⟩, hl⟩ := h
  exact ⟨⟨xs, ⟨(hb.block _ hs.lt).trans hs.heap, own_of_heap hs.own (fun g hg => hb.block g (own_lt hs.own hg)), Nat.le_trans hs.base_le hb.size, hs.apart⟩, he.keep fun k hk h1 h2 => ⟨hb.block k hk, h2⟩⟩, hl⟩
theorem Kp.new {bs : Nat} {row : Option Nat} {a b c : World} (h : Kp bs row a b) (k : New b c) : Kp bs row a c :=
  ⟨k.os.trans h.os, k.tape.trans h.tape, k.output.trans h.output, Nat.le_trans h.size k.size, fun x hx h1 h2 => (k.block x (Nat.lt_of_lt_of_le hx h.size)).trans (h.block x hx h1 h2)⟩
/-- add. -/
theorem add_e (lo bs : Nat) (v : Value) (tmp : Int) (es : List IExpr) (e : IExpr) (bl : Nat) (w : World) (hs : SimE w lo bs v tmp es) (hn : es.length ≤ 1000) (ht0 : 0 ≤ tmp) (ht1 : tmp ≤ 10000)
    (hb : w.heap[bl]? = some (.cells (atomsC e.l) 59)) (h1 : lo ≤ bl) (h2 : bl ≠ bs) (h3 : some bl ≠ v.ownBlock) :
    Calls Try.prog 69 #[.pointer (some ⟨bs, 0, none⟩), .agg #[.int .i64 e.kind, .int .i64 e.ty, .int .i64 e.op, .int .i64 e.off, .slice (some ⟨bl, 0, none⟩) e.l.length e.l.length]] w
      (SimPost lo bs v tmp (es ++ [e]) (tmpA (tmp + es.length)).val w) := by
  obtain ⟨⟨xs, hs, he⟩, hl⟩ := hs
  refine (add_s lo bs es.length v xs tmp _ _ _ _ bl _ w hs hn ht0 ht1).mono ?_
  rintro e1 w1 ⟨g, cap, rfl, hs1, hg, hk⟩
  have hown : ∀ x, (Value.slice (some ⟨g, 0, none⟩) (es.length + 1) cap).ownBlock = some x → v.ownBlock = some x ∨ w.heap.size ≤ x := fun x hx => by
    have : g = x := by simpa [Value.ownBlock] using hx
    rwa [this] at hg
  refine ⟨_, rfl, ⟨⟨_, by simpa using hs1, Elems.snoc (he.keep fun k h1 h2 h3 => ⟨hk.block k h1 h2 h3, row_ne hown k h1 h3⟩) ((hk.block bl (lt_of_heap hb) h2 h3).trans hb) h1 h2 (row_ne hown bl (lt_of_heap hb) h3)⟩, hl⟩, hk, hown⟩
/-- bin. -/
theorem bin_e (lo bs : Nat) (v : Value) (tmp : Int) (es : List IExpr) (op : Int) (x y : Atom) (w : World) (hs : SimE w lo bs v tmp es) (hn : es.length ≤ 1000) (ht0 : 0 ≤ tmp) (ht1 : tmp ≤ 10000) :
    Calls Try.prog 74 #[.pointer (some ⟨bs, 0, none⟩), .int .i64 op, x.val, y.val] w (SimPost lo bs v tmp (es ++ [⟨4, binTy op, op, 0, [x, y]⟩]) (tmpA (tmp + es.length)).val w) := by
  obtain ⟨⟨xs, hs, he⟩, hl⟩ := hs
  obtain ⟨x0, x1, x2, x3, x4, x5⟩ := x
  obtain ⟨y0, y1, y2, y3, y4, y5⟩ := y
  have hc : Calls Try.prog 74 #[.pointer (some ⟨bs, 0, none⟩), .int .i64 op, Atom.val ⟨x0, x1, x2, x3, x4, x5⟩, Atom.val ⟨y0, y1, y2, y3, y4, y5⟩] w
      (BinPost lo bs es.length v xs tmp 4 (binTy op) op 2 (atomsC [⟨x0, x1, x2, x3, x4, x5⟩, ⟨y0, y1, y2, y3, y4, y5⟩]) (tmpA (tmp + es.length)).val w) := by
    by_cases h1 : op < 14
    · have e : binTy op = 32 := by unfold binTy; rw [if_neg (by omega)]
      rw [e]; exact bin_lo lo bs es.length v xs tmp op x0 x1 x2 x3 x4 x5 y0 y1 y2 y3 y4 y5 w hs hn ht0 ht1 h1
    · by_cases h2 : 19 < op
      · have e : binTy op = 32 := by unfold binTy; rw [if_neg (by omega)]
        rw [e]; exact bin_hi lo bs es.length v xs tmp op x0 x1 x2 x3 x4 x5 y0 y1 y2 y3 y4 y5 w hs hn ht0 ht1 h2
      · have e : binTy op = 1 := by unfold binTy; rw [if_pos (by omega)]
        rw [e]; exact bin_cmp lo bs es.length v xs tmp op x0 x1 x2 x3 x4 x5 y0 y1 y2 y3 y4 y5 w hs hn ht0 ht1 (by omega) (by omega)
  refine hc.mono ?_
  rintro e1 w1 ⟨g, cap, bl, rfl, hs1, hg, hk, hb, hbl, hbg⟩
  have hown : ∀ x, (Value.slice (some ⟨g, 0, none⟩) (es.length + 1) cap).ownBlock = some x → v.ownBlock = some x ∨ w.heap.size ≤ x := fun x hx => by
    have : g = x := by simpa [Value.ownBlock] using hx
    rwa [this] at hg
  have hlo := hs.base_le
  have hlt := hs.lt
  refine ⟨_, rfl, ⟨⟨_, by simpa using hs1, Elems.snoc (e := ⟨4, binTy op, op, 0, [⟨x0, x1, x2, x3, x4, x5⟩, ⟨y0, y1, y2, y3, y4, y5⟩]⟩) (he.keep fun k h1 h2 h3 => ⟨hk.block k h1 h2 h3, row_ne hown k h1 h3⟩) hb (by omega) (by omega) (by simpa [Value.ownBlock] using hbg)⟩, hl⟩, hk, hown⟩
end Go.Proofs.Ytmkjgkldbonpnaa
/- The simplifier's is, fixed, compared. -/
namespace Go.Proofs.Ytmkjgkldbonpnaa
open Go Go.RowKit Go.Cd
set_option linter.unusedVariables false

theorem SimPost.trans {lo bs : Nat} {v v1 : Value} {tmp : Int} {es : List IExpr} {r : Value} {w w1 : World} {e : Ending} {w' : World} (hk : Kp bs v.ownBlock w w1) (hg : ∀ g, v1.ownBlock = some g → v.ownBlock = some g ∨ w.heap.size ≤ g)
    (h : SimPost lo bs v1 tmp es r w1 e w') : SimPost lo bs v tmp es r w e w' := by
  obtain ⟨v', he, hs, hk', hg'⟩ := h
  refine ⟨v', he, hs, ?_, ?_⟩
  · refine ⟨hk'.os.trans hk.os, hk'.tape.trans hk.tape, hk'.output.trans hk.output, Nat.le_trans hk.size hk'.size, fun k h1 h2 h3 => (hk'.block k (Nat.lt_of_lt_of_le h1 hk.size) h2 (row_ne hg k h1 h3)).trans (hk.block k h1 h2 h3)⟩
  · intro g h
    rcases hg' g h with h | h
    · exact hg g h
    · exact .inr (Nat.le_trans hk.size h)
set_option maxHeartbeats 1000000 in
theorem is_e (lo bs : Nat) (v : Value) (tmp : Int) (es : List IExpr) (op : Int) (x y : Atom) (w : World) (hs : SimE w lo bs v tmp es) (hn : es.length ≤ 900) (ht0 : 0 ≤ tmp) (ht1 : tmp ≤ 10000) :
    Calls Try.prog 73 #[.pointer (some ⟨bs, 0, none⟩), .int .i64 op, x.val, y.val] w (SimPost lo bs v tmp ((es ++ [⟨4, binTy op, op, 0, [x, y]⟩]) ++ [⟨3, 32, 2, 0, [tmpA (tmp + es.length)]⟩]) (.bool true) w) := by
  have HS := Lib.hid hs
  clear hs
  have hl := HS.out.lo_le
  have hlt : bs < w.heap.size := by obtain ⟨⟨_, h, _⟩, _⟩ := HS.out; exact h.lt
  obtain ⟨x0, x1, x2, x3, x4, x5⟩ := x
  obtain ⟨y0, y1, y2, y3, y4, y5⟩ := y
  unfold Atom.val
  dsimp only
  go_enter Try.func73, Try.ntmps73
  go_wp2_with fail
  refine (bin_e lo bs v tmp es op ⟨x0, x1, x2, x3, x4, x5⟩ ⟨y0, y1, y2, y3, y4, y5⟩ _ ((HS.out.alloc _).alloc _) (by omega) ht0 ht1).mono ?_
  rintro e w1 ⟨v1, rfl, hs1, hk1, hg1⟩
  have HS1 := Lib.hid hs1
  have HK1 := Lib.hid hk1
  have HG1 := Lib.hid hg1
  have hz1 := hk1.size
  simp only [World.size_alloc] at hz1
  have hv1 : ∀ g, v1.ownBlock = some g → g < w1.heap.size := fun g hg => by obtain ⟨⟨_, h, _⟩, _⟩ := hs1; exact own_lt h.own hg
  have HV1 := Lib.hid hv1
  clear hs1 hk1 hg1 hv1
  unfold tmpA Atom.val
  dsimp only
  go_wp2_with fail
  refine (add_e lo bs v1 tmp (es ++ [⟨4, binTy op, op, 0, [⟨x0, x1, x2, x3, x4, x5⟩, ⟨y0, y1, y2, y3, y4, y5⟩]⟩]) ⟨3, 32, 2, 0, [tmpA (tmp + es.length)]⟩ w1.heap.size _ (HS1.out.alloc _) (by simp; omega) ht0 ht1 (heap_alloc_at _ _ _ rfl) (by omega) (by omega) (fun q => by have := HV1.out _ q.symm; omega)).mono ?_
  rintro e w2 ⟨v2, rfl, hs2, hk2, hg2⟩
  have HP : SimPost lo bs v tmp ((es ++ [⟨4, binTy op, op, 0, [⟨x0, x1, x2, x3, x4, x5⟩, ⟨y0, y1, y2, y3, y4, y5⟩]⟩]) ++ [⟨3, 32, 2, 0, [tmpA (tmp + es.length)]⟩]) (.bool true) w (.returned (.bool true)) w2 := by
    refine SimPost.trans (w1 := w1.alloc _) ((Kp.trans (((Kp.refl _ _ w).alloc _).alloc _) HK1.out).alloc _) (fun g hg => ?_) ⟨v2, rfl, hs2, hk2, hg2⟩
    rcases HG1.out g hg with h | h
    · exact .inl h
    · exact .inr (by simp at h; omega)
  have HP := Lib.hid HP
  clear hs2 hk2 hg2
  go_wp2
  go_ret
  exact HP.out
set_option maxHeartbeats 1000000 in
theorem fixed_e (lo bs : Nat) (v : Value) (tmp : Int) (es : List IExpr) (n : Int) (w : World) (hs : SimE w lo bs v tmp es) (hn : es.length ≤ 900) (ht0 : 0 ≤ tmp) (ht1 : tmp ≤ 10000) :
    Calls Try.prog 39 #[.pointer (some ⟨bs, 0, none⟩), .int .u32 n] w (SimPost lo bs v tmp (es ++ [⟨1, 32, 0, 0, [wordA n]⟩]) (.bool true) w) := by
  have HS := Lib.hid hs
  clear hs
  have hl := HS.out.lo_le
  have hlt : bs < w.heap.size := by obtain ⟨⟨_, h, _⟩, _⟩ := HS.out; exact h.lt
  go_enter Try.func39, Try.ntmps39
  go_wp2_with fail
  refine (tword_c n _).mono ?_
  rintro e w1 ⟨rfl, hb1⟩
  have HB := Lib.hid hb1
  have hz1 := hb1.size
  have hv1 : ∀ g, v.ownBlock = some g → g < w.heap.size := fun g hg => by obtain ⟨⟨_, h, _⟩, _⟩ := HS.out; exact own_lt h.own hg
  have HV1 := Lib.hid hv1
  clear hb1 hv1
  unfold wordA Atom.val
  dsimp only
  go_wp2_with fail
  refine (add_e lo bs v tmp es ⟨1, 32, 0, 0, [wordA n]⟩ w1.heap.size _ ((HS.out.new HB.out).alloc _) (by omega) ht0 ht1 (heap_alloc_at _ _ _ rfl) (by omega) (by omega) (fun q => by have := HV1.out _ q.symm; omega)).mono ?_
  rintro e w2 ⟨v2, rfl, hs2, hk2, hg2⟩
  have HP : SimPost lo bs v tmp (es ++ [⟨1, 32, 0, 0, [wordA n]⟩]) (.bool true) w (.returned (.bool true)) w2 :=
    SimPost.trans (w1 := w1.alloc _) (((Kp.refl _ _ w).new HB.out).alloc _) (fun g hg => .inl hg) ⟨v2, rfl, hs2, hk2, hg2⟩
  have HP := Lib.hid HP
  clear hs2 hk2 hg2
  go_wp2
  go_ret
  exact HP.out
end Go.Proofs.Ytmkjgkldbonpnaa
/- Whole structs and arrays, stored into blocks of the call's own and loaded from them, with no unrolling. -/
namespace Go.Cd
open Go Go.RowKit

def spl (c : Array Value) : Nat → List Value → Array Value
  | _, [] => c
  | o, v :: r => spl (c.setIfInBounds o v) (o + 1) r
theorem spl_size : ∀ (vs : List Value) (c : Array Value) (o : Nat), (spl c o vs).size = c.size
  | [], _, _ => rfl
  | v :: r, c, o => by rw [spl, spl_size r, Array.size_setIfInBounds]
theorem spl_get : ∀ (vs : List Value) (c : Array Value) (o i : Nat), o + vs.length ≤ c.size → (spl c o vs)[i]? = if o ≤ i ∧ i < o + vs.length then vs[i - o]? else c[i]?
  | [], c, o, i, _ => by rw [if_neg (by simp only [List.length_nil]; omega)]; rfl
  | v :: r, c, o, i, h => by
    rw [spl, spl_get r _ _ _ (by simp at h ⊢; omega)]
    simp only [List.length_cons] at h ⊢
    by_cases h1 : o + 1 ≤ i ∧ i < o + 1 + r.length
    · rw [if_pos h1, if_pos (by omega), show i - o = (i - (o + 1)) + 1 by omega]; rfl
    · rw [if_neg h1]
      by_cases h2 : i = o
      · subst h2
        rw [if_pos (by omega), Nat.sub_self, Array.getElem?_setIfInBounds_self]
        simp; omega
      · rw [if_neg (by omega)]
        simp [Ne.symm h2]
theorem spl_full (vs : List Value) (c : Array Value) (h : c.size = vs.length) : spl c 0 vs = vs.toArray := by
  apply Array.ext_getElem?
  intro i
  rw [spl_get vs c 0 i (by omega)]
  by_cases hi : i < vs.length
  · rw [if_pos (by omega)]; simp
  · rw [if_neg (by omega), Array.getElem?_eq_none (by omega), Array.getElem?_eq_none (by simpa using Nat.le_of_not_lt hi)]
theorem setCell_new (w : World) (c : Array Value) (t : TypeId) (b o : Nat) (v : Value) (hb : b = w.heap.size) : (w.alloc (.cells c t)).setCell ⟨b, o, none⟩ v = w.alloc (.cells (c.setIfInBounds o v) t) := by
  subst hb
  exact World.setCell_alloc_at _ _ _ _ _ rfl
theorem setCells_new (w : World) (t : TypeId) (b : Nat) (hb : b = w.heap.size) : ∀ (vs : List Value) (c : Array Value) (o : Nat), (w.alloc (.cells c t)).setCells b o vs = w.alloc (.cells (spl c o vs) t)
  | [], _, _ => rfl
  | v :: r, c, o => by rw [World.setCells, setCell_new w c t b o v hb, setCells_new w t b hb r]; rfl
theorem setCells_past (b : Nat) (ob : Obj) : ∀ (vs : List Value) (o : Nat) (w : World), b < w.heap.size → (w.alloc ob).setCells b o vs = (w.setCells b o vs).alloc ob
  | [], _, _, _ => rfl
  | v :: r, o, w, h => by
    have e : (w.alloc ob).setCell ⟨b, o, none⟩ v = (w.setCell ⟨b, o, none⟩ v).alloc ob := World.setCell_alloc_past _ _ _ _ h
    rw [World.setCells, World.setCells, e, setCells_past b ob r (o + 1) _ (by simpa using h)]
theorem there_new (w : World) (c : Array Value) (t : TypeId) (b : Nat) (hb : b = w.heap.size) : (w.alloc (.cells c t)).there b 0 c.size := by
  subst hb
  intro j hj
  refine ⟨?_, ?_⟩
  · rw [Nat.zero_add, World.cell?_alloc_new]; simp [hj]
  · rw [frozen?_alloc_cells]
    simp [World.frozen?]
/-- All cells are single. -/
def Ones (l : List Value) : Prop := ∀ v ∈ l, v.oneCell' = true
theorem ones_nil : Ones [] = True := by simp [Ones]
theorem ones_int (k : IntKind) (n : Int) (l : List Value) : Ones (.int k n :: l) = Ones l := by simp [Ones, Value.oneCell']
theorem ones_bool (b : Bool) (l : List Value) : Ones (.bool b :: l) = Ones l := by simp [Ones, Value.oneCell']
theorem ones_slice (a : Option Addr) (n c : Nat) (l : List Value) : Ones (.slice a n c :: l) = Ones l := by simp [Ones, Value.oneCell']
theorem ones_pointer (a : Option Addr) (l : List Value) : Ones (.pointer a :: l) = Ones l := by simp [Ones, Value.oneCell']
theorem ones_all {l : List Value} (h : Ones l) : l.toArray.all (·.oneCell') = true := all_oneCell_toArray h
section
variable {P : Program}
/-- A whole value goes into the newest block. -/
theorem store_new (ty : TypeId) (n : Nat) (c cs : Array Value) (t : TypeId) (w : World) (hn : n = w.heap.size) (hc : c.size = cs.size) (hi : (P.info? ty).map (·.size) = some cs.size) (h1 : cs.all (·.oneCell') = true) :
    (storeVar ty ⟨n, 0, none⟩ (.agg cs)).run P (w.alloc (.cells c t)) = .ok () (w.alloc (.cells cs t)) := by
  rw [run_storeVar_mid _ n 0 ty cs (by rw [← hc]; exact there_new w c t n hn) hi h1, setCells_new w t n hn, spl_full _ _ (by simpa using hc)]
/-- .. or into the one ahead of it. -/
theorem store_new2 (ty : TypeId) (n : Nat) (c cs : Array Value) (t : TypeId) (ob : Obj) (w : World) (hn : n = w.heap.size) (hc : c.size = cs.size) (hi : (P.info? ty).map (·.size) = some cs.size) (h1 : cs.all (·.oneCell') = true) :
    (storeVar ty ⟨n, 0, none⟩ (.agg cs)).run P ((w.alloc (.cells c t)).alloc ob) = .ok () ((w.alloc (.cells cs t)).alloc ob) := by
  rw [run_storeVar_mid _ n 0 ty cs (World.there_alloc (by rw [← hc]; exact there_new w c t n hn) ob) hi h1, setCells_past _ _ _ _ _ (by simp; omega), setCells_new w t n hn, spl_full _ _ (by simpa using hc)]
/-- A whole value is loaded from a block that is known. -/
theorem load_row (ty : TypeId) (n : Nat) (cs : Array Value) (t : TypeId) (d : TypeDesc) (w : World) (hb : w.heap[n]? = some (.cells cs t)) (hu : P.underlying ty = some d) (hd : d.isRow = true) (hi : (P.info? ty).map (·.size) = some cs.size) :
    (loadVar ty ⟨n, 0, none⟩).run P w = .ok (.agg cs) w := by
  have h := run_loadVar_mid (P := P) w n 0 ty cs.toList d (by
    have := World.rangeAt_of_block hb 0 cs.size
    rwa [Nat.zero_add, Array.extract_size] at this) hu hd (by simpa using hi)
  simpa using h
theorem load_new (ty : TypeId) (n : Nat) (cs : Array Value) (t : TypeId) (d : TypeDesc) (w : World) (hn : n = w.heap.size) (hu : P.underlying ty = some d) (hd : d.isRow = true) (hi : (P.info? ty).map (·.size) = some cs.size) :
    (loadVar ty ⟨n, 0, none⟩).run P (w.alloc (.cells cs t)) = .ok (.agg cs) (w.alloc (.cells cs t)) := load_row ty n cs t d _ (heap_alloc_at _ _ _ hn) hu hd hi
theorem load_new2 (ty : TypeId) (n : Nat) (cs : Array Value) (t : TypeId) (ob : Obj) (d : TypeDesc) (w : World) (hn : n = w.heap.size) (hu : P.underlying ty = some d) (hd : d.isRow = true) (hi : (P.info? ty).map (·.size) = some cs.size) :
    (loadVar ty ⟨n, 0, none⟩).run P ((w.alloc (.cells cs t)).alloc ob) = .ok (.agg cs) ((w.alloc (.cells cs t)).alloc ob) :=
  load_row ty n cs t d _ (((MapKept.heap_alloc (w.alloc (.cells cs t)) ob).2 n (by simp; omega)).trans (heap_alloc_at _ _ _ hn)) hu hd hi
/-! The same at the operation: what is stored and loaded stays folded till its operands are known. -/
def storeRow (t : TypeId) (p v : Value) : Sem Next := do Instr.storeAt t p v; pure .skip
def loadRow (t : TypeId) (p : Value) : Sem Next := do pure (.value (← Instr.loadAt t p))
theorem execOp_storeRow (a : Act) (dst : Option Tmp) (t : TypeId) (x y : Operand) (ty : TypeId) (pos : String) (after : Array Edge) (guard : Option (Nat × Bool)) :
    execOp a.eval { dst, op := .store t x y, type := ty, pos, after, guard } = storeRow t (a.eval x) (a.eval y) := rfl
theorem execOp_loadRow (a : Act) (dst : Option Tmp) (t : TypeId) (x : Operand) (ty : TypeId) (pos : String) (after : Array Edge) (guard : Option (Nat × Bool)) :
    execOp a.eval { dst, op := .load t x, type := ty, pos, after, guard } = loadRow t (a.eval x) := rfl
theorem run_storeRow (ty : TypeId) (n k : Nat) (v : Value) (w w' : World) (h : (storeVar ty ⟨n, k, none⟩ v).run P w = .ok () w') : (storeRow ty (.pointer (some ⟨n, k, none⟩)) v).run P w = .ok .skip w' := by
  simp only [storeRow, Instr.storeAt, Instr.sureAddr, Sem.run_bind, Sem.run_pure, Result.andThen_ok, h]
theorem run_loadRow (ty : TypeId) (n k : Nat) (v : Value) (w w' : World) (h : (loadVar ty ⟨n, k, none⟩).run P w = .ok v w') : (loadRow ty (.pointer (some ⟨n, k, none⟩))).run P w = .ok (.value v) w' := by
  simp only [loadRow, Instr.loadAt, Instr.sureAddr, Sem.run_bind, Sem.run_pure, Result.andThen_ok, h]
/-- Two results that lie in memory. -/
theorem results_rows2 {fn : Func} {p q : Tmp} {ty ty2 : TypeId} (h : fn.results = #[.cell p ty, .cell q ty2]) (tmps : Array Value) (w : World) (a b : Addr) (v1 v2 : Value)
    (hp : tmps.getD p undef = .pointer (some a)) (hq : tmps.getD q undef = .pointer (some b)) (h1 : (loadVar ty a).run P w = .ok v1 w) (h2 : (loadVar ty2 b).run P w = .ok v2 w) : (results fn tmps).run P w = .ok (.tuple #[v1, v2]) w := by
  simp only [results, h]
  simp only [Array.getD_eq_getD_getElem?] at hp hq
  simp [hp, hq, asAddr, h1, h2]
end
end Go.Cd
/- thunk.comparisons. -/
namespace Go.Proofs.Ytmkjgkldbonpnaa
open Go Go.RowKit Go.Cd
set_option linter.unusedVariables false

/-- The two tables of comparisons: operation and exchange, for each condition. -/
def cmpS : Array Value := #[.int .i64 14, .bool false, .int .i64 15, .bool false, .int .i64 16, .bool false, .int .i64 18, .bool true, .int .i64 0, .bool false, .int .i64 0, .bool false, .int .i64 0, .bool false, .int .i64 0, .bool false,
  .int .i64 18, .bool false, .int .i64 16, .bool true, .int .i64 17, .bool false, .int .i64 19, .bool true, .int .i64 19, .bool false, .int .i64 17, .bool true]
def cmpR : Array Value := #[.int .i64 14, .bool false, .int .i64 15, .bool false, .int .i64 0, .bool false, .int .i64 0, .bool false, .int .i64 17, .bool false, .int .i64 19, .bool true, .int .i64 0, .bool false, .int .i64 0, .bool false,
  .int .i64 14, .bool false, .int .i64 15, .bool false, .int .i64 17, .bool false, .int .i64 19, .bool true, .int .i64 19, .bool false, .int .i64 17, .bool true]
theorem size108 : (Try.prog.info? 108).map (·.size) = some 28 := by kernel_rfl
theorem st1 (n : Nat) (c : Array Value) (cs : List Value) (t : TypeId) (w : World) (hn : n = w.heap.size) (hc : c.size = 28) (hs : cs.length = 28) (h1 : Ones cs) :
    (storeRow 108 (.pointer (some ⟨n, 0, none⟩)) (.agg cs.toArray)).run Try.prog (w.alloc (.cells c t)) = .ok .skip (w.alloc (.cells cs.toArray t)) :=
  run_storeRow _ _ _ _ _ _ (store_new _ n c cs.toArray t w hn (by simp [hc, hs]) (size108.trans (by simp [hs])) (ones_all h1))
theorem st2 (n : Nat) (c : Array Value) (cs : List Value) (t : TypeId) (ob : Obj) (w : World) (hn : n = w.heap.size) (hc : c.size = 28) (hs : cs.length = 28) (h1 : Ones cs) :
    (storeRow 108 (.pointer (some ⟨n, 0, none⟩)) (.agg cs.toArray)).run Try.prog ((w.alloc (.cells c t)).alloc ob) = .ok .skip ((w.alloc (.cells cs.toArray t)).alloc ob) :=
  run_storeRow _ _ _ _ _ _ (store_new2 _ n c cs.toArray t ob w hn (by simp [hc, hs]) (size108.trans (by simp [hs])) (ones_all h1))
theorem ld1 (n : Nat) (cs : List Value) (t : TypeId) (w : World) (hn : n = w.heap.size) (hs : cs.length = 28) :
    (loadRow 108 (.pointer (some ⟨n, 0, none⟩))).run Try.prog (w.alloc (.cells cs.toArray t)) = .ok (.value (.agg cs.toArray)) (w.alloc (.cells cs.toArray t)) :=
  run_loadRow _ _ _ _ _ _ (load_new _ n cs.toArray t _ w hn Try.underlying108 rfl (size108.trans (by simp [hs])))
theorem ld2 (n : Nat) (cs : List Value) (t : TypeId) (ob : Obj) (w : World) (hn : n = w.heap.size) (hs : cs.length = 28) :
    (loadRow 108 (.pointer (some ⟨n, 0, none⟩))).run Try.prog ((w.alloc (.cells cs.toArray t)).alloc ob) = .ok (.value (.agg cs.toArray)) ((w.alloc (.cells cs.toArray t)).alloc ob) :=
  run_loadRow _ _ _ _ _ _ (load_new2 _ n cs.toArray t ob _ w hn Try.underlying108 rfl (size108.trans (by simp [hs])))
theorem st1d (n : Nat) (c : Array Value) (cs : List Value) (t : TypeId) (w : World) (hn : n = w.heap.size) (hc : c.size = 28) (hs : cs.length = 28) (h1 : Ones cs) :
    (storeRow 108 (.pointer (some ⟨n, 0, none⟩)) (.agg cs.toArray)).run Try.prog ((w.alloc (.cells c t)).drew) = .ok .skip ((w.alloc (.cells cs.toArray t)).drew) := st1 n c cs t w.drew hn hc hs h1
theorem st2d (n : Nat) (c : Array Value) (cs : List Value) (t : TypeId) (ob : Obj) (w : World) (hn : n = w.heap.size) (hc : c.size = 28) (hs : cs.length = 28) (h1 : Ones cs) :
    (storeRow 108 (.pointer (some ⟨n, 0, none⟩)) (.agg cs.toArray)).run Try.prog (((w.alloc (.cells c t)).alloc ob).drew) = .ok .skip (((w.alloc (.cells cs.toArray t)).alloc ob).drew) := st2 n c cs t ob w.drew hn hc hs h1
theorem ld1d (n : Nat) (cs : List Value) (t : TypeId) (w : World) (hn : n = w.heap.size) (hs : cs.length = 28) :
    (loadRow 108 (.pointer (some ⟨n, 0, none⟩))).run Try.prog ((w.alloc (.cells cs.toArray t)).drew) = .ok (.value (.agg cs.toArray)) ((w.alloc (.cells cs.toArray t)).drew) := ld1 n cs t w.drew hn hs
theorem ld2d (n : Nat) (cs : List Value) (t : TypeId) (ob : Obj) (w : World) (hn : n = w.heap.size) (hs : cs.length = 28) :
    (loadRow 108 (.pointer (some ⟨n, 0, none⟩))).run Try.prog (((w.alloc (.cells cs.toArray t)).alloc ob).drew) = .ok (.value (.agg cs.toArray)) (((w.alloc (.cells cs.toArray t)).alloc ob).drew) := ld2 n cs t ob w.drew hn hs
theorem ex1 (a : Act) (dst : Option Tmp) (x y : Operand) (ty : TypeId) (pos : String) (after : Array Edge) (guard : Option (Nat × Bool)) :
    execOp a.eval { dst, op := .store 108 x y, type := ty, pos, after, guard } = storeRow 108 (a.eval x) (a.eval y) := rfl
theorem ex2 (a : Act) (dst : Option Tmp) (x : Operand) (ty : TypeId) (pos : String) (after : Array Edge) (guard : Option (Nat × Bool)) :
    execOp a.eval { dst, op := .load 108 x, type := ty, pos, after, guard } = loadRow 108 (a.eval x) := rfl
attribute [local go_sem] ones_nil ones_int ones_bool
attribute [local go_sem] st1 st2 ld1 ld2 st1d st2d ld1d ld2d
attribute [local go_sem ↓] ex1 ex2 Go.wp_at_zero Go.wp_at_succ
set_option maxRecDepth 100000 in
set_option maxHeartbeats 4000000 in
theorem comparisons_c (w : World) : Calls Try.prog 70 #[] w fun e w' => e = .returned (.tuple #[.agg cmpS, .agg cmpR]) ∧ New w w' := by
  go_enter Try.func70, Try.ntmps70
  go_wp2_with fail
  go_region
  go_wp2
  refine bodyPost_ret (v := .tuple #[.agg cmpS, .agg cmpR]) ?_ rfl ⟨rfl, by go_grown⟩
  exact results_rows2 Try.results70 _ _ _ _ _ _ rfl rfl
    (load_new2 (P := Try.prog) _ _ cmpS _ _ _ w.drew rfl Try.underlying108 rfl (size108.trans rfl)) (load_new (P := Try.prog) _ _ cmpR _ _ (w.drew.alloc _) (by simp) Try.underlying108 rfl (size108.trans rfl))
end Go.Proofs.Ytmkjgkldbonpnaa
/- The simplifier's compared, and its simplified behind a subtraction. -/
namespace Go.Proofs.Ytmkjgkldbonpnaa
open Go Go.RowKit Go.Cd
set_option linter.unusedVariables false

/-- The expressions that a comparison adds. -/
def cmpE (op : Int) (ex : Bool) (x y : Atom) (tmp : Int) (n : Nat) : List IExpr := [⟨4, binTy op, op, 0, if ex then [y, x] else [x, y]⟩, ⟨3, 32, 2, 0, [tmpA (tmp + n)]⟩]
theorem SimPost.refl {lo bs : Nat} {v : Value} {tmp : Int} {es : List IExpr} {w w' : World} (hs : SimE w lo bs v tmp es) (hb : New w w') (r : Value) : SimPost lo bs v tmp es r w (.returned r) w' :=
  ⟨v, rfl, hs.new hb, (Kp.refl _ _ _).new hb, fun _ h => .inl h⟩
/-- Behind new blocks. -/
theorem SimPost.new {lo bs : Nat} {v : Value} {tmp : Int} {es : List IExpr} {r : Value} {w w1 : World} {e : Ending} {w' : World} (hb : New w w1) (h : SimPost lo bs v tmp es r w1 e w') : SimPost lo bs v tmp es r w e w' :=
  SimPost.trans ((Kp.refl _ _ _).new hb) (fun _ h => .inl h) h
set_option maxHeartbeats 1000000 in
theorem compared_0 (lo bs : Nat) (v : Value) (tmp : Int) (es : List IExpr) (ex : Bool) (x y : Atom) (w : World) (hs : SimE w lo bs v tmp es) :
    Calls Try.prog 71 #[.pointer (some ⟨bs, 0, none⟩), .agg #[.int .i64 0, .bool ex], x.val, y.val] w (SimPost lo bs v tmp es (.bool false) w) := by
  have HS := Lib.hid hs
  clear hs
  unfold Atom.val
  go_enter Try.func71, Try.ntmps71
  go_wp2
  go_ret
  exact SimPost.refl HS.out (by go_grown) _
set_option maxHeartbeats 1000000 in
theorem compared_e (lo bs : Nat) (v : Value) (tmp : Int) (es : List IExpr) (op : Int) (ex : Bool) (x y : Atom) (w : World) (hs : SimE w lo bs v tmp es) (hn : es.length ≤ 900) (ht0 : 0 ≤ tmp) (ht1 : tmp ≤ 10000) (ho : (op == 0) = false) :
    Calls Try.prog 71 #[.pointer (some ⟨bs, 0, none⟩), .agg #[.int .i64 op, .bool ex], x.val, y.val] w (SimPost lo bs v tmp (es ++ cmpE op ex x y tmp es.length) (.bool true) w) := by
  have HS := Lib.hid hs
  clear hs
  obtain ⟨x0, x1, x2, x3, x4, x5⟩ := x
  obtain ⟨y0, y1, y2, y3, y4, y5⟩ := y
  unfold Atom.val
  dsimp only
  cases ex
  · go_enter Try.func71, Try.ntmps71
    go_wp2_with fail
    refine (is_e lo bs v tmp es op ⟨x0, x1, x2, x3, x4, x5⟩ ⟨y0, y1, y2, y3, y4, y5⟩ _ (((HS.out.alloc _).alloc _).alloc _) hn ht0 ht1).mono ?_
    rintro e w1 hp
    obtain ⟨v1, rfl, h1, h2, h3⟩ := hp
    have HP := Lib.hid (SimPost.new (w := w) (r := .bool true) (by go_grown) ⟨v1, rfl, h1, h2, h3⟩)
    clear h1 h2 h3
    go_wp2
    go_ret
    have := HP.out
    simpa [cmpE] using this
  · go_enter Try.func71, Try.ntmps71
    go_wp2_with fail
    refine (is_e lo bs v tmp es op ⟨y0, y1, y2, y3, y4, y5⟩ ⟨x0, x1, x2, x3, x4, x5⟩ _ (((HS.out.alloc _).alloc _).alloc _) hn ht0 ht1).mono ?_
    rintro e w1 hp
    obtain ⟨v1, rfl, h1, h2, h3⟩ := hp
    have HP := Lib.hid (SimPost.new (w := w) (r := .bool true) (by go_grown) ⟨v1, rfl, h1, h2, h3⟩)
    clear h1 h2 h3
    go_wp2
    go_ret
    have := HP.out
    simpa [cmpE] using this
attribute [local go_sem] ones_nil ones_int ones_bool st1 st2 ld1 ld2 st1d st2d ld1d ld2d
attribute [local go_sem ↓] ex1 ex2 Go.wp_at_zero Go.wp_at_succ
set_option maxRecDepth 100000 in
set_option maxHeartbeats 2000000 in
theorem simplified_sub (lo bs : Nat) (v : Value) (tmp : Int) (es : List IExpr) (cd : Int) (x y : Atom) (w : World) (hs : SimE w lo bs v tmp es) (hn : es.length ≤ 900) (ht0 : 0 ≤ tmp) (ht1 : tmp ≤ 10000) :
    Calls Try.prog 40 #[.pointer (some ⟨bs, 0, none⟩), .int .i64 10, .int .u32 2, x.val, y.val] w (SimPost lo bs v tmp (es ++ cmpE 17 false x y tmp es.length) (.bool true) w) := by
  have HS := Lib.hid hs
  clear hs
  obtain ⟨x0, x1, x2, x3, x4, x5⟩ := x
  obtain ⟨y0, y1, y2, y3, y4, y5⟩ := y
  unfold Atom.val
  dsimp only
  go_enter Try.func40, Try.ntmps40
  go_wp2_with fail
  refine (comparisons_c _).mono ?_
  rintro e w1 ⟨rfl, hb1⟩
  have hn1 : New w w1 := Below.trans (by go_grown) (hb1.mono (by simp; omega))
  obtain ⟨hc1, hf1, hz1⟩ := bcell3 hb1
  simp only [World.size_alloc] at hc1 hf1 hz1
  have X1r : w1.heap[w.heap.size]? = some (.cells #[.int .i64 x0, .int .i64 x1, .int .u32 x2, .int .u32 x3, .int .u32 x4, .int .u32 x5] 59) := (hb1.block _ (by simp only [World.size_alloc]; omega)).trans (heap_keep (heap_alloc_at _ _ _ rfl))
  have Y1r : w1.heap[w.heap.size + 1]? = some (.cells #[.int .i64 y0, .int .i64 y1, .int .u32 y2, .int .u32 y3, .int .u32 y4, .int .u32 y5] 59) := (hb1.block _ (by simp only [World.size_alloc]; omega)).trans (heap_alloc_at _ _ _ (by simp))
  have X1 := Lib.hid X1r
  have Y1 := Lib.hid Y1r
  have HN1 := Lib.hid hn1
  clear hb1 hn1 hc1 hf1 X1r Y1r
  unfold cmpS cmpR
  go_wp2_with fail
  refine (tword_c 0 _).mono ?_
  rintro e w2 ⟨rfl, hb2⟩
  have X2 := (hb2.block _ (by simp only [World.size_alloc]; omega)).trans (heap_keep (heap_keep X1.out))
  have Y2 := (hb2.block _ (by simp only [World.size_alloc]; omega)).trans (heap_keep (heap_keep Y1.out))
  have S2 := (hb2.block w1.heap.size (by simp only [World.size_alloc]; omega)).trans (heap_keep (heap_alloc_at _ _ _ rfl))
  have hz2 := hb2.size
  simp only [World.size_alloc] at hz2
  have hn2 : New w w2 := Below.trans (HN1.out.alloc (by omega) _ |>.alloc (by simp only [World.size_alloc]; omega) _) (hb2.mono (by simp only [World.size_alloc]; omega))
  have HN2 := Lib.hid hn2
  have X3 := Lib.hid (heap_keep (o := (.cells #[.int .i64 (-1), .int .i64 32, .int .u32 0, .int .u32 0, .int .u32 0, .int .u32 0] 59)) X2)
  have Y3 := Lib.hid (heap_keep (o := (.cells #[.int .i64 (-1), .int .i64 32, .int .u32 0, .int .u32 0, .int .u32 0, .int .u32 0] 59)) Y2)
  have S3 := Lib.hid (heap_keep (o := (.cells #[.int .i64 (-1), .int .i64 32, .int .u32 0, .int .u32 0, .int .u32 0, .int .u32 0] 59)) S2)
  have HS3 := Lib.hid ((HS.out.new hn2).alloc (.cells #[.int .i64 (-1), .int .i64 32, .int .u32 0, .int .u32 0, .int .u32 0, .int .u32 0] 59))
  have HN3 := Lib.hid (hn2.alloc (by omega) (.cells #[.int .i64 (-1), .int .i64 32, .int .u32 0, .int .u32 0, .int .u32 0, .int .u32 0] 59))
  have hz3 : w2.heap.size ≤ (w2.alloc (.cells #[.int .i64 (-1), .int .i64 32, .int .u32 0, .int .u32 0, .int .u32 0, .int .u32 0] 59)).heap.size := by simp
  have HZ3 := Lib.hid hz3
  clear X2 Y2 S2 hb2 hn2 hz3
  unfold wordA Atom.val
  dsimp only
  go_wp2_with fail
  generalize w2.alloc (.cells #[.int .i64 (-1), .int .i64 32, .int .u32 0, .int .u32 0, .int .u32 0, .int .u32 0] 59) = w3 at *
  have a0 : w3.cell? ⟨w1.heap.size, 20, none⟩ = some (.int .i64 17) := cell_of_heap S3.out rfl
  have a1 : w3.cell? ⟨w1.heap.size, 21, none⟩ = some (.bool false) := cell_of_heap S3.out rfl
  have b0 : w3.cell? ⟨w.heap.size, 0, none⟩ = some (.int .i64 x0) := cell_of_heap X3.out rfl
  have b1 : w3.cell? ⟨w.heap.size, 1, none⟩ = some (.int .i64 x1) := cell_of_heap X3.out rfl
  have b2 : w3.cell? ⟨w.heap.size, 2, none⟩ = some (.int .u32 x2) := cell_of_heap X3.out rfl
  have b3 : w3.cell? ⟨w.heap.size, 3, none⟩ = some (.int .u32 x3) := cell_of_heap X3.out rfl
  have b4 : w3.cell? ⟨w.heap.size, 4, none⟩ = some (.int .u32 x4) := cell_of_heap X3.out rfl
  have b5 : w3.cell? ⟨w.heap.size, 5, none⟩ = some (.int .u32 x5) := cell_of_heap X3.out rfl
  have c0 : w3.cell? ⟨w.heap.size + 1, 0, none⟩ = some (.int .i64 y0) := cell_of_heap Y3.out rfl
  have c1 : w3.cell? ⟨w.heap.size + 1, 1, none⟩ = some (.int .i64 y1) := cell_of_heap Y3.out rfl
  have c2 : w3.cell? ⟨w.heap.size + 1, 2, none⟩ = some (.int .u32 y2) := cell_of_heap Y3.out rfl
  have c3 : w3.cell? ⟨w.heap.size + 1, 3, none⟩ = some (.int .u32 y3) := cell_of_heap Y3.out rfl
  have c4 : w3.cell? ⟨w.heap.size + 1, 4, none⟩ = some (.int .u32 y4) := cell_of_heap Y3.out rfl
  have c5 : w3.cell? ⟨w.heap.size + 1, 5, none⟩ = some (.int .u32 y5) := cell_of_heap Y3.out rfl
  have hz3 := HZ3.out
  have hq0 : w.heap.size < w3.heap.size := by omega
  have hq1 : w.heap.size + 1 < w3.heap.size := by omega
  have hq2 : w1.heap.size < w3.heap.size := by omega
  go_still_tail 6, (by kernel_rfl)
  change wpList _ _ _ _ _ w3.drew
  have hd : New w3 w3.drew := (Below.refl _ _).drew
  have HS4 := Lib.hid (HS3.out.new hd)
  have HN4 := Lib.hid (Below.trans HN3.out (hd.mono (by omega)))
  clear a0 a1 b0 b1 b2 b3 b4 b5 c0 c1 c2 c3 c4 c5 hd
  generalize w3.drew = w4 at *
  go_wp2_with fail
  refine (compared_e lo bs v tmp es 17 false ⟨x0, x1, x2, x3, x4, x5⟩ ⟨y0, y1, y2, y3, y4, y5⟩ _ HS4.out hn ht0 ht1 rfl).mono ?_
  rintro e w5 hp
  obtain ⟨v1, rfl, h1, h2, h3⟩ := hp
  have HP := Lib.hid (SimPost.new (w := w) (r := .bool true) HN4.out ⟨v1, rfl, h1, h2, h3⟩)
  clear h1 h2 h3
  go_wp2
  go_ret
  exact HP.out
end Go.Proofs.Ytmkjgkldbonpnaa
/- thunk.Simplify at the example that the laws look at first. -/
namespace Go.Proofs.Ytmkjgkldbonpnaa
open Go Go.RowKit Go.Cd
set_option linter.unusedVariables false

def saneL : List Atom := [wordA 10, wordA 2, tmpA 5, tmpA 6, wordA 0]
/-- A slice's value that reads as expressions, in blocks from lo on. -/
def ExprsAt (w : World) (lo : Nat) (v : Value) (es : List IExpr) : Prop := ∃ bs xs, w.ownsRow lo 64 5 v es.length xs ∧ Elems w lo bs v.ownBlock es xs
def SanePost (w : World) (e : Ending) (w' : World) : Prop := ∃ v, e = .returned (.tuple #[v, .bool true]) ∧ ExprsAt w' w.heap.size v (cmpE 17 false (tmpA 5) (tmpA 6) 9 0) ∧ New w w'
theorem sim_start (w : World) (lo : Nat) (hl : lo ≤ w.heap.size) : SimE (w.alloc (.cells #[.slice none 0 0, .int .i64 9] 76)) lo w.heap.size (.slice none 0 0) 9 [] :=
  ⟨⟨[], ⟨heap_alloc_at _ _ _ rfl, World.ownsRow_nil _ _ _ _, by simp; omega, by simp [Value.ownBlock]⟩, .nil⟩, hl⟩
theorem kp_new {lo bs : Nat} {v : Value} {w w1 w' : World} (hn : New w w1) (hl : lo = w.heap.size) (hb : lo ≤ bs) (hv : ∀ g, v.ownBlock = some g → lo ≤ g) (hk : Kp bs v.ownBlock w1 w') : New w w' :=
  ⟨hk.os.trans hn.os, hk.tape.trans hn.tape, hk.output.trans hn.output, Nat.le_trans hn.size hk.size, fun k h => (hk.block k (Nat.lt_of_lt_of_le h hn.size) (by omega) (fun q => by have := hv k q.symm; omega)).trans (hn.block k h)⟩
attribute [local go_sem ↓] Go.wp_at_zero Go.wp_at_succ
set_option maxRecDepth 100000 in
set_option maxHeartbeats 4000000 in
theorem simplify_sane (bl : Nat) (w : World) (h : w.heap[bl]? = some (.cells (atomsC saneL) 59)) :
    Calls Try.prog 13 #[.slice (some ⟨bl, 0, none⟩) 5 5, .int .i64 9] w (SanePost w) := by
  have hbl := lt_of_heap h
  have q0 : w.cell? ⟨bl, 0, none⟩ = some (.int .i64 (-1)) := cell_of_heap h rfl
  have q1 : w.cell? ⟨bl, 1, none⟩ = some (.int .i64 32) := cell_of_heap h rfl
  have q2 : w.cell? ⟨bl, 2, none⟩ = some (.int .u32 10) := cell_of_heap h rfl
  have q3 : w.cell? ⟨bl, 3, none⟩ = some (.int .u32 0) := cell_of_heap h rfl
  have q4 : w.cell? ⟨bl, 4, none⟩ = some (.int .u32 0) := cell_of_heap h rfl
  have q5 : w.cell? ⟨bl, 5, none⟩ = some (.int .u32 0) := cell_of_heap h rfl
  have q6 : w.cell? ⟨bl, 6, none⟩ = some (.int .i64 (-1)) := cell_of_heap h rfl
  have q7 : w.cell? ⟨bl, 7, none⟩ = some (.int .i64 32) := cell_of_heap h rfl
  have q8 : w.cell? ⟨bl, 8, none⟩ = some (.int .u32 2) := cell_of_heap h rfl
  have q9 : w.cell? ⟨bl, 9, none⟩ = some (.int .u32 0) := cell_of_heap h rfl
  have q10 : w.cell? ⟨bl, 10, none⟩ = some (.int .u32 0) := cell_of_heap h rfl
  have q11 : w.cell? ⟨bl, 11, none⟩ = some (.int .u32 0) := cell_of_heap h rfl
  have q12 : w.cell? ⟨bl, 12, none⟩ = some (.int .i64 5) := cell_of_heap h rfl
  have q13 : w.cell? ⟨bl, 13, none⟩ = some (.int .i64 0) := cell_of_heap h rfl
  have q14 : w.cell? ⟨bl, 14, none⟩ = some (.int .u32 0) := cell_of_heap h rfl
  have q15 : w.cell? ⟨bl, 15, none⟩ = some (.int .u32 0) := cell_of_heap h rfl
  have q16 : w.cell? ⟨bl, 16, none⟩ = some (.int .u32 0) := cell_of_heap h rfl
  have q17 : w.cell? ⟨bl, 17, none⟩ = some (.int .u32 0) := cell_of_heap h rfl
  have q18 : w.cell? ⟨bl, 18, none⟩ = some (.int .i64 6) := cell_of_heap h rfl
  have q19 : w.cell? ⟨bl, 19, none⟩ = some (.int .i64 0) := cell_of_heap h rfl
  have q20 : w.cell? ⟨bl, 20, none⟩ = some (.int .u32 0) := cell_of_heap h rfl
  have q21 : w.cell? ⟨bl, 21, none⟩ = some (.int .u32 0) := cell_of_heap h rfl
  have q22 : w.cell? ⟨bl, 22, none⟩ = some (.int .u32 0) := cell_of_heap h rfl
  have q23 : w.cell? ⟨bl, 23, none⟩ = some (.int .u32 0) := cell_of_heap h rfl
  have q24 : w.cell? ⟨bl, 24, none⟩ = some (.int .i64 (-1)) := cell_of_heap h rfl
  have q25 : w.cell? ⟨bl, 25, none⟩ = some (.int .i64 32) := cell_of_heap h rfl
  have q26 : w.cell? ⟨bl, 26, none⟩ = some (.int .u32 0) := cell_of_heap h rfl
  have q27 : w.cell? ⟨bl, 27, none⟩ = some (.int .u32 0) := cell_of_heap h rfl
  have q28 : w.cell? ⟨bl, 28, none⟩ = some (.int .u32 0) := cell_of_heap h rfl
  have q29 : w.cell? ⟨bl, 29, none⟩ = some (.int .u32 0) := cell_of_heap h rfl
  have HH := Lib.hid h
  clear h
  go_enter Try.func13, Try.ntmps13
  go_wp2_with fail
  refine wp_loop_rounds 6 ?_
  rw [rounds_succ]
  go_wp2_with fail
  refine (isword_c (wordA 10) _).mono ?_
  rw [show isW (wordA 10) = true from rfl]
  rintro e w1 ⟨rfl, hb1⟩
  obtain ⟨hc1, hf1, hz1⟩ := bcell3 hb1
  simp only [World.size_alloc] at hc1 hf1 hz1
  have N1 := Lib.hid (show New w w1 from Below.trans ((Below.refl _ _).alloc (Nat.le_refl _) _) (hb1.mono (by simp only [World.size_alloc]; omega)))
  clear hb1
  have p1 : bl < w1.heap.size := by omega
  have p1' : bl < w1.heap.size + 1 := by omega
  go_wp2_with fail
  rw [rounds_succ]
  go_wp2_with fail
  refine (isword_c (wordA 2) _).mono ?_
  rw [show isW (wordA 2) = true from rfl]
  rintro e w2 ⟨rfl, hb2⟩
  obtain ⟨hc2, hf2, hz2⟩ := bcell3 hb2
  simp only [World.size_alloc] at hc2 hf2 hz2
  have N2 := Lib.hid (show New w w2 from Below.trans (N1.out.alloc (by omega) _) (hb2.mono (by simp only [World.size_alloc]; omega)))
  clear hb2
  have p2 : bl < w2.heap.size := by omega
  have p2' : bl < w2.heap.size + 1 := by omega
  go_wp2_with fail
  rw [rounds_succ]
  go_wp2_with fail
  refine (isword_c (tmpA 5) _).mono ?_
  rw [show isW (tmpA 5) = true from rfl]
  rintro e w3 ⟨rfl, hb3⟩
  obtain ⟨hc3, hf3, hz3⟩ := bcell3 hb3
  simp only [World.size_alloc] at hc3 hf3 hz3
  have N3 := Lib.hid (show New w w3 from Below.trans (N2.out.alloc (by omega) _) (hb3.mono (by simp only [World.size_alloc]; omega)))
  clear hb3
  have p3 : bl < w3.heap.size := by omega
  have p3' : bl < w3.heap.size + 1 := by omega
  go_wp2_with fail
  rw [rounds_succ]
  go_wp2_with fail
  refine (isword_c (tmpA 6) _).mono ?_
  rw [show isW (tmpA 6) = true from rfl]
  rintro e w4 ⟨rfl, hb4⟩
  obtain ⟨hc4, hf4, hz4⟩ := bcell3 hb4
  simp only [World.size_alloc] at hc4 hf4 hz4
  have N4 := Lib.hid (show New w w4 from Below.trans (N3.out.alloc (by omega) _) (hb4.mono (by simp only [World.size_alloc]; omega)))
  clear hb4
  have p4 : bl < w4.heap.size := by omega
  have p4' : bl < w4.heap.size + 1 := by omega
  go_wp2_with fail
  rw [rounds_succ]
  go_wp2_with fail
  refine (isword_c (wordA 0) _).mono ?_
  rw [show isW (wordA 0) = true from rfl]
  rintro e w5 ⟨rfl, hb5⟩
  obtain ⟨hc5, hf5, hz5⟩ := bcell3 hb5
  simp only [World.size_alloc] at hc5 hf5 hz5
  have N5 := Lib.hid (show New w w5 from Below.trans (N4.out.alloc (by omega) _) (hb5.mono (by simp only [World.size_alloc]; omega)))
  clear hb5
  have p5 : bl < w5.heap.size := by omega
  have p5' : bl < w5.heap.size + 1 := by omega
  go_wp2_with fail
  have B5 := (N5.out.block bl hbl).trans HH.out
  have BA := Lib.hid (heap_keep (o := (.cells #[.slice none 0 0, .int .i64 9] 76)) B5)
  have SA := Lib.hid (sim_start w5 w.heap.size N5.out.size)
  have NA := Lib.hid (N5.out.alloc N5.out.size (.cells #[.slice none 0 0, .int .i64 9] 76))
  rw [rounds_succ]
  go_wp2_with fail
  generalize w5.alloc (.cells #[.slice none 0 0, .int .i64 9] 76) = wA at *
  have hz0 := hbl
  have hbs : w.heap.size ≤ w5.heap.size := N5.out.size
  generalize w5.heap.size = bs at *
  clear q0 q1 q2 q3 q4 q5 q6 q7 q8 q9 q10 q11 q12 q13 q14 q15 q16 q17 q18 q19 q20 q21 q22 q23 q24 q25 q26 q27 q28 q29 hc1 hf1 hz1 N1 p1 p1' hc2 hf2 hz2 N2 p2 p2' hc3 hf3 hz3 N3 p3 p3' hc4 hf4 hz4 N4 p4 p4' hc5 hf5 hz5 N5 p5 p5' B5
  have pA : bl < wA.heap.size := lt_of_heap BA.out
  have q0 : wA.cell? ⟨bl, 0, none⟩ = some (.int .i64 (-1)) := cell_of_heap BA.out rfl
  have q1 : wA.cell? ⟨bl, 1, none⟩ = some (.int .i64 32) := cell_of_heap BA.out rfl
  have q2 : wA.cell? ⟨bl, 2, none⟩ = some (.int .u32 10) := cell_of_heap BA.out rfl
  have q3 : wA.cell? ⟨bl, 3, none⟩ = some (.int .u32 0) := cell_of_heap BA.out rfl
  have q4 : wA.cell? ⟨bl, 4, none⟩ = some (.int .u32 0) := cell_of_heap BA.out rfl
  have q5 : wA.cell? ⟨bl, 5, none⟩ = some (.int .u32 0) := cell_of_heap BA.out rfl
  have q6 : wA.cell? ⟨bl, 6, none⟩ = some (.int .i64 (-1)) := cell_of_heap BA.out rfl
  have q7 : wA.cell? ⟨bl, 7, none⟩ = some (.int .i64 32) := cell_of_heap BA.out rfl
  have q8 : wA.cell? ⟨bl, 8, none⟩ = some (.int .u32 2) := cell_of_heap BA.out rfl
  have q9 : wA.cell? ⟨bl, 9, none⟩ = some (.int .u32 0) := cell_of_heap BA.out rfl
  have q10 : wA.cell? ⟨bl, 10, none⟩ = some (.int .u32 0) := cell_of_heap BA.out rfl
  have q11 : wA.cell? ⟨bl, 11, none⟩ = some (.int .u32 0) := cell_of_heap BA.out rfl
  have q12 : wA.cell? ⟨bl, 12, none⟩ = some (.int .i64 5) := cell_of_heap BA.out rfl
  have q13 : wA.cell? ⟨bl, 13, none⟩ = some (.int .i64 0) := cell_of_heap BA.out rfl
  have q14 : wA.cell? ⟨bl, 14, none⟩ = some (.int .u32 0) := cell_of_heap BA.out rfl
  have q15 : wA.cell? ⟨bl, 15, none⟩ = some (.int .u32 0) := cell_of_heap BA.out rfl
  have q16 : wA.cell? ⟨bl, 16, none⟩ = some (.int .u32 0) := cell_of_heap BA.out rfl
  have q17 : wA.cell? ⟨bl, 17, none⟩ = some (.int .u32 0) := cell_of_heap BA.out rfl
  have q18 : wA.cell? ⟨bl, 18, none⟩ = some (.int .i64 6) := cell_of_heap BA.out rfl
  have q19 : wA.cell? ⟨bl, 19, none⟩ = some (.int .i64 0) := cell_of_heap BA.out rfl
  have q20 : wA.cell? ⟨bl, 20, none⟩ = some (.int .u32 0) := cell_of_heap BA.out rfl
  have q21 : wA.cell? ⟨bl, 21, none⟩ = some (.int .u32 0) := cell_of_heap BA.out rfl
  have q22 : wA.cell? ⟨bl, 22, none⟩ = some (.int .u32 0) := cell_of_heap BA.out rfl
  have q23 : wA.cell? ⟨bl, 23, none⟩ = some (.int .u32 0) := cell_of_heap BA.out rfl
  have q24 : wA.cell? ⟨bl, 24, none⟩ = some (.int .i64 (-1)) := cell_of_heap BA.out rfl
  have q25 : wA.cell? ⟨bl, 25, none⟩ = some (.int .i64 32) := cell_of_heap BA.out rfl
  have q26 : wA.cell? ⟨bl, 26, none⟩ = some (.int .u32 0) := cell_of_heap BA.out rfl
  have q27 : wA.cell? ⟨bl, 27, none⟩ = some (.int .u32 0) := cell_of_heap BA.out rfl
  have q28 : wA.cell? ⟨bl, 28, none⟩ = some (.int .u32 0) := cell_of_heap BA.out rfl
  have q29 : wA.cell? ⟨bl, 29, none⟩ = some (.int .u32 0) := cell_of_heap BA.out rfl
  go_quiet (fail)
  go_wp2_with fail
  have hd : New wA (wA.drewN nq) := below_drewN (Below.refl _ _) nq
  have BB := (hd.block bl pA).trans BA.out
  have SB := Lib.hid (SA.out.new hd)
  have NB := Lib.hid (NA.out.trans (hd.mono NA.out.size))
  generalize wA.drewN nq = wB at *
  clear hd
  clear q12
  clear q13
  clear q14
  clear q15
  clear q16
  clear q17
  clear q18
  clear q19
  clear q20
  clear q21
  clear q22
  clear q23
  clear q0
  clear q1
  clear q2
  clear q3
  clear q4
  clear q5
  clear q6
  clear q7
  clear q8
  clear q9
  clear q10
  clear q11
  clear q24
  clear q25
  clear q26
  clear q27
  clear q28
  clear q29
  have q0 : wB.cell? ⟨bl, 0, none⟩ = some (.int .i64 (-1)) := cell_of_heap BB rfl
  have q1 : wB.cell? ⟨bl, 1, none⟩ = some (.int .i64 32) := cell_of_heap BB rfl
  have q2 : wB.cell? ⟨bl, 2, none⟩ = some (.int .u32 10) := cell_of_heap BB rfl
  have q3 : wB.cell? ⟨bl, 3, none⟩ = some (.int .u32 0) := cell_of_heap BB rfl
  have q4 : wB.cell? ⟨bl, 4, none⟩ = some (.int .u32 0) := cell_of_heap BB rfl
  have q5 : wB.cell? ⟨bl, 5, none⟩ = some (.int .u32 0) := cell_of_heap BB rfl
  have q6 : wB.cell? ⟨bl, 6, none⟩ = some (.int .i64 (-1)) := cell_of_heap BB rfl
  have q7 : wB.cell? ⟨bl, 7, none⟩ = some (.int .i64 32) := cell_of_heap BB rfl
  have q8 : wB.cell? ⟨bl, 8, none⟩ = some (.int .u32 2) := cell_of_heap BB rfl
  have q9 : wB.cell? ⟨bl, 9, none⟩ = some (.int .u32 0) := cell_of_heap BB rfl
  have q10 : wB.cell? ⟨bl, 10, none⟩ = some (.int .u32 0) := cell_of_heap BB rfl
  have q11 : wB.cell? ⟨bl, 11, none⟩ = some (.int .u32 0) := cell_of_heap BB rfl
  have q12 : wB.cell? ⟨bl, 12, none⟩ = some (.int .i64 5) := cell_of_heap BB rfl
  have q13 : wB.cell? ⟨bl, 13, none⟩ = some (.int .i64 0) := cell_of_heap BB rfl
  have q14 : wB.cell? ⟨bl, 14, none⟩ = some (.int .u32 0) := cell_of_heap BB rfl
  have q15 : wB.cell? ⟨bl, 15, none⟩ = some (.int .u32 0) := cell_of_heap BB rfl
  have q16 : wB.cell? ⟨bl, 16, none⟩ = some (.int .u32 0) := cell_of_heap BB rfl
  have q17 : wB.cell? ⟨bl, 17, none⟩ = some (.int .u32 0) := cell_of_heap BB rfl
  have q18 : wB.cell? ⟨bl, 18, none⟩ = some (.int .i64 6) := cell_of_heap BB rfl
  have q19 : wB.cell? ⟨bl, 19, none⟩ = some (.int .i64 0) := cell_of_heap BB rfl
  have q20 : wB.cell? ⟨bl, 20, none⟩ = some (.int .u32 0) := cell_of_heap BB rfl
  have q21 : wB.cell? ⟨bl, 21, none⟩ = some (.int .u32 0) := cell_of_heap BB rfl
  have q22 : wB.cell? ⟨bl, 22, none⟩ = some (.int .u32 0) := cell_of_heap BB rfl
  have q23 : wB.cell? ⟨bl, 23, none⟩ = some (.int .u32 0) := cell_of_heap BB rfl
  have q24 : wB.cell? ⟨bl, 24, none⟩ = some (.int .i64 (-1)) := cell_of_heap BB rfl
  have q25 : wB.cell? ⟨bl, 25, none⟩ = some (.int .i64 32) := cell_of_heap BB rfl
  have q26 : wB.cell? ⟨bl, 26, none⟩ = some (.int .u32 0) := cell_of_heap BB rfl
  have q27 : wB.cell? ⟨bl, 27, none⟩ = some (.int .u32 0) := cell_of_heap BB rfl
  have q28 : wB.cell? ⟨bl, 28, none⟩ = some (.int .u32 0) := cell_of_heap BB rfl
  have q29 : wB.cell? ⟨bl, 29, none⟩ = some (.int .u32 0) := cell_of_heap BB rfl
  have pB : bl < wB.heap.size := lt_of_heap BB
  clear pA
  go_still_tail 16, (by kernel_rfl)
  change wpList _ _ _ _ _ wB.drew
  have hd : New wB wB.drew := (Below.refl _ _).drew
  have SC := Lib.hid (SB.out.new hd)
  have NC := Lib.hid (NB.out.trans (hd.mono NB.out.size))
  clear hd BB
  clear q0 q1 q2 q3 q4 q5 q6 q7 q8 q9 q10 q11 q12 q13 q14 q15 q16 q17 q18 q19 q20 q21 q22 q23 q24 q25 q26 q27 q28 q29
  generalize wB.drew = wC at *
  go_wp2_with fail
  refine (simplified_sub w.heap.size bs (.slice none 0 0) 9 [] 10 (tmpA 5) (tmpA 6) _ SC.out (by decide) (by decide) (by decide)).mono ?_
  rintro e wD hp
  obtain ⟨v1, rfl, h1, h2, h3⟩ := hp
  have h1' := h1
  obtain ⟨⟨xs, hs, he⟩, hl⟩ := h1
  have c0 : wD.cell? ⟨bs, 0, none⟩ = some v1 := cell_of_heap hs.heap rfl
  have hD := hs.lt
  have X := Lib.hid (show SanePost w (.returned (.tuple #[v1, .bool true])) wD from ⟨v1, rfl, ⟨bs, xs, hs.own, he⟩, kp_new NC.out rfl hbs (by simp [Value.ownBlock]) h2⟩)
  clear h2 h3 h1' hl hs he
  go_wp2
  exact bodyPost_ret (v := .tuple #[v1, .bool true]) (by simp [results, Try.results13, go_sem]) rfl X.out
end Go.Proofs.Ytmkjgkldbonpnaa
