/- The specification's SameExprs, at lists that are the same. -/
import Derived.Test.YtmkjgkldbonpnaaWSane1
namespace Go.Proofs.Ytmkjgkldbonpnaa
open Go Go.RowKit Go.Cd
set_option linter.unusedVariables false

/-- Expression number i lies at its place of block g, its elements in block bl. -/
def EAt (w : World) (g i : Nat) (e : IExpr) (bl : Nat) : Prop :=
  (∀ j u, (exprC e.kind e.ty e.op e.off (.slice (some ⟨bl, 0, none⟩) e.l.length e.l.length))[j]? = some u → w.cell? ⟨g, i * 5 + j, none⟩ = some u) ∧ g < w.heap.size ∧ w.heap[bl]? = some (.cells (atomsC e.l) 59)
/-- A slice's address from which expressions read. -/
def ERows (w : World) (a : Option Addr) (es : List IExpr) : Prop := ∀ i e, es[i]? = some e → ∃ g bl, a = some ⟨g, 0, none⟩ ∧ EAt w g i e bl
theorem Elems.get {w : World} {lo bs : Nat} {row : Option Nat} {es : List IExpr} {xs : List Value} (h : Elems w lo bs row es xs) :
    xs.length = es.length * 5 ∧ ∀ i e, es[i]? = some e → ∃ bl, (∀ j u, (exprC e.kind e.ty e.op e.off (.slice (some ⟨bl, 0, none⟩) e.l.length e.l.length))[j]? = some u → xs[i * 5 + j]? = some u) ∧ w.heap[bl]? = some (.cells (atomsC e.l) 59) := by
  induction h with
  | nil => exact ⟨rfl, fun i e h => by simp at h⟩
  | @snoc es xs e bl _ hb h1 h2 h3 ih =>
    obtain ⟨hl, ih⟩ := ih
    refine ⟨by simp [hl, exprC]; omega, fun i e' he => ?_⟩
    by_cases hi : i < es.length
    · rw [List.getElem?_append_left hi] at he
      obtain ⟨b', k1, k2⟩ := ih i e' he
      refine ⟨b', fun j u hu => ?_, k2⟩
      have hj : j < 5 := by
        have := (List.getElem?_eq_some_iff.1 hu).1
        simpa [exprC] using this
      rw [List.getElem?_append_left (by omega)]
      exact k1 j u hu
    · have hi' : i = es.length := by
        have := (List.getElem?_eq_some_iff.1 he).1
        simp at this; omega
      subst hi'
      have : e' = e := by simpa using he.symm
      subst this
      refine ⟨bl, fun j u hu => ?_, hb⟩
      rw [List.getElem?_append_right (by omega), hl, show es.length * 5 + j - es.length * 5 = j by omega]
      exact hu
theorem ExprsAt.rows {w : World} {lo : Nat} {v : Value} {es : List IExpr} (h : ExprsAt w lo v es) : ∃ a cap, v = .slice a es.length cap ∧ ERows w a es := by
  obtain ⟨bs, xs, hown, he⟩ := h
  obtain ⟨hl, hg⟩ := he.get
  have hc := fun g (hg : v.ownBlock = some g) => hown.cells hg
  have hlt := hown.lt
  rcases hown.2 with ⟨rfl, h0⟩ | ⟨g, cap, cur, rfl, _⟩
  · refine ⟨none, 0, by rw [h0], fun i e hi => ?_⟩
    have : es = [] := List.eq_nil_of_length_eq_zero h0
    subst this
    simp at hi
  · refine ⟨_, cap, rfl, fun i e hi => ?_⟩
    obtain ⟨bl, h1, h2⟩ := hg i e hi
    refine ⟨g, bl, rfl, fun j u hu => ?_, (hlt g rfl).2, h2⟩
    have := hc g rfl (i * 5 + j) u (h1 j u hu)
    rwa [Addr.add_mid, Nat.zero_add] at this
theorem ERows.new {w w' : World} {a : Option Addr} {es : List IExpr} (h : ERows w a es) (hb : New w w') : ERows w' a es := fun i e hi => by
  obtain ⟨g, bl, ha, h1, h2, h3⟩ := h i e hi
  exact ⟨g, bl, ha, fun j u hu => (World.cell?_of_block (hb.block g h2)).trans (h1 j u hu), Nat.lt_of_lt_of_le h2 hb.size, (hb.block bl (lt_of_heap h3)).trans h3⟩
theorem atomsC_get : ∀ (l : List Atom) (k : Nat) (a : Atom) (j : Nat) (u : Value), l[k]? = some a → a.cells[j]? = some u → (l.flatMap Atom.cells)[k * 6 + j]? = some u
  | [], _, _, _, _, h, _ => by simp at h
  | x :: l, 0, a, j, u, h, hu => by
    have : x = a := by simpa using h
    subst this
    have hj : j < x.cells.length := (List.getElem?_eq_some_iff.1 hu).1
    rw [List.flatMap_cons, Nat.zero_mul, Nat.zero_add, List.getElem?_append_left hj]
    exact hu
  | x :: l, k + 1, a, j, u, h, hu => by
    rw [List.flatMap_cons, List.getElem?_append_right (by simp [Atom.cells]; omega), show (k + 1) * 6 + j - x.cells.length = k * 6 + j by simp [Atom.cells]; omega]
    exact atomsC_get l k a j u (by simpa using h) hu
theorem atoms_cell {w : World} {b : Nat} {l : List Atom} {t : TypeId} (h : w.heap[b]? = some (.cells (atomsC l) t)) {k : Nat} {a : Atom} (hk : l[k]? = some a) (j : Nat) (u : Value) (hu : a.cells[j]? = some u) : w.cell? ⟨b, k * 6 + j, none⟩ = some u := by
  rw [cell_of_row w b _ _ _ _ h]
  simpa [atomsC] using atomsC_get l k a j u hk hu
attribute [local go_sem ↓] Go.wp_at_zero Go.wp_at_succ neq_atom
theorem same_nil (a b : Option Addr) (ca cb : Nat) (w : World) :
    Calls Try.prog 15 #[.slice a 0 ca, .slice b 0 cb] w fun e w' => e = .returned (.bool true) ∧ New w w' := by
  go_enter Try.func15, Try.ntmps15
  go_wp2
  refine wp_loop_rounds 1 ?_
  rw [rounds_succ]
  go_wp2
  go_ret
  exact ⟨rfl, New.refl _⟩
set_option maxRecDepth 100000 in
set_option maxHeartbeats 4000000 in
theorem same_cons (g g' : Nat) (ca cb n : Nat) (es : List IExpr) (w : World) (ha : ∀ i e, es[i]? = some e → ∃ bl, EAt w g i e bl) (hb : ∀ i e, es[i]? = some e → ∃ bl, EAt w g' i e bl) (hn' : es.length = n) (hn : n ≤ 100000) (hl : ∀ e ∈ es, e.l.length ≤ 100000) :
    Calls Try.prog 15 #[.slice (some ⟨g, 0, none⟩) n ca, .slice (some ⟨g', 0, none⟩) n cb] w fun e w' => e = .returned (.bool true) ∧ New w w' := by
  have HA := Lib.hid ha
  have HB := Lib.hid hb
  have HL := Lib.hid hl
  have HN := Lib.hid hn'
  clear ha hb hl hn'
  go_enter Try.func15, Try.ntmps15
  go_wp2
  go_loopw [5] (fun v w' => ∃ i : Nat, v = .int .i64 i ∧ i ≤ n ∧ New w w') (fun v w' => n - (intOf v).toNat)
  · exact ⟨0, rfl, by omega, New.refl _⟩
  · obtain ⟨i, rfl, hi, hw⟩ := hrel
    by_cases hin : i < n
    · obtain ⟨e, he⟩ : ∃ e, es[i]? = some e := ⟨_, List.getElem?_eq_getElem (by rw [HN.out]; exact hin)⟩
      obtain ⟨bl, e1, e2, e3⟩ := HA.out i e he
      obtain ⟨bm, f1, f2, f3⟩ := HB.out i e he
      have hll : e.l.length ≤ 100000 := HL.out e (List.mem_of_getElem? he)
      obtain ⟨kind, ty, op, off, l⟩ := e
      have x0 : wr.cell? ⟨g, i * 5, none⟩ = some (.int .i64 kind) := (World.cell?_of_block (hw.block g e2)).trans (e1 0 _ rfl)
      have x1 : wr.cell? ⟨g, i * 5 + 1, none⟩ = some (.int .i64 ty) := (World.cell?_of_block (hw.block g e2)).trans (e1 1 _ rfl)
      have x2 : wr.cell? ⟨g, i * 5 + 2, none⟩ = some (.int .i64 op) := (World.cell?_of_block (hw.block g e2)).trans (e1 2 _ rfl)
      have x3 : wr.cell? ⟨g, i * 5 + 3, none⟩ = some (.int .i64 off) := (World.cell?_of_block (hw.block g e2)).trans (e1 3 _ rfl)
      have x4 : wr.cell? ⟨g, i * 5 + 4, none⟩ = some (.slice (some ⟨bl, 0, none⟩) l.length l.length) := (World.cell?_of_block (hw.block g e2)).trans (e1 4 _ rfl)
      have y0 : wr.cell? ⟨g', i * 5, none⟩ = some (.int .i64 kind) := (World.cell?_of_block (hw.block g' f2)).trans (f1 0 _ rfl)
      have y1 : wr.cell? ⟨g', i * 5 + 1, none⟩ = some (.int .i64 ty) := (World.cell?_of_block (hw.block g' f2)).trans (f1 1 _ rfl)
      have y2 : wr.cell? ⟨g', i * 5 + 2, none⟩ = some (.int .i64 op) := (World.cell?_of_block (hw.block g' f2)).trans (f1 2 _ rfl)
      have y3 : wr.cell? ⟨g', i * 5 + 3, none⟩ = some (.int .i64 off) := (World.cell?_of_block (hw.block g' f2)).trans (f1 3 _ rfl)
      have y4 : wr.cell? ⟨g', i * 5 + 4, none⟩ = some (.slice (some ⟨bm, 0, none⟩) l.length l.length) := (World.cell?_of_block (hw.block g' f2)).trans (f1 4 _ rfl)
      have hg1 : g < wr.heap.size := Nat.lt_of_lt_of_le e2 hw.size
      have hg2 : g' < wr.heap.size := Nat.lt_of_lt_of_le f2 hw.size
      have E3 := Lib.hid ((hw.block bl (lt_of_heap e3)).trans e3)
      have F3 := Lib.hid ((hw.block bm (lt_of_heap f3)).trans f3)
      clear e1 f1 e3 f3
      have hz := hw.size
      dsimp only at hll E3 F3
      have X := Lib.hid (show ((wr.alloc (.cells #[.int .i64 kind, .int .i64 ty, .int .i64 op, .int .i64 off, .slice (some ⟨bl, 0, none⟩) l.length l.length] 64)).alloc (.cells #[.int .i64 kind, .int .i64 ty, .int .i64 op, .int .i64 off, .slice (some ⟨bm, 0, none⟩) l.length l.length] 64)).heap[wr.heap.size]? = some (.cells #[.int .i64 kind, .int .i64 ty, .int .i64 op, .int .i64 off, .slice (some ⟨bl, 0, none⟩) l.length l.length] 64) from heap_keep (heap_alloc_at _ _ _ rfl))
      have Y := Lib.hid (show ((wr.alloc (.cells #[.int .i64 kind, .int .i64 ty, .int .i64 op, .int .i64 off, .slice (some ⟨bl, 0, none⟩) l.length l.length] 64)).alloc (.cells #[.int .i64 kind, .int .i64 ty, .int .i64 op, .int .i64 off, .slice (some ⟨bm, 0, none⟩) l.length l.length] 64)).heap[wr.heap.size + 1]? = some (.cells #[.int .i64 kind, .int .i64 ty, .int .i64 op, .int .i64 off, .slice (some ⟨bm, 0, none⟩) l.length l.length] 64) from heap_alloc_at _ _ _ (by simp))
      have W2 := Lib.hid (show New w ((wr.alloc (.cells #[.int .i64 kind, .int .i64 ty, .int .i64 op, .int .i64 off, .slice (some ⟨bl, 0, none⟩) l.length l.length] 64)).alloc (.cells #[.int .i64 kind, .int .i64 ty, .int .i64 op, .int .i64 off, .slice (some ⟨bm, 0, none⟩) l.length l.length] 64)) from (hw.alloc hz _).alloc (by simp only [World.size_alloc]; omega) _)
      have E4 := Lib.hid (show ((wr.alloc (.cells #[.int .i64 kind, .int .i64 ty, .int .i64 op, .int .i64 off, .slice (some ⟨bl, 0, none⟩) l.length l.length] 64)).alloc (.cells #[.int .i64 kind, .int .i64 ty, .int .i64 op, .int .i64 off, .slice (some ⟨bm, 0, none⟩) l.length l.length] 64)).heap[bl]? = some (.cells (atomsC l) 59) from heap_keep (heap_keep E3.out))
      have F4 := Lib.hid (show ((wr.alloc (.cells #[.int .i64 kind, .int .i64 ty, .int .i64 op, .int .i64 off, .slice (some ⟨bl, 0, none⟩) l.length l.length] 64)).alloc (.cells #[.int .i64 kind, .int .i64 ty, .int .i64 op, .int .i64 off, .slice (some ⟨bm, 0, none⟩) l.length l.length] 64)).heap[bm]? = some (.cells (atomsC l) 59) from heap_keep (heap_keep F3.out))
      go_wp2
      generalize (wr.alloc (.cells #[.int .i64 kind, .int .i64 ty, .int .i64 op, .int .i64 off, .slice (some ⟨bl, 0, none⟩) l.length l.length] 64)).alloc (.cells #[.int .i64 kind, .int .i64 ty, .int .i64 op, .int .i64 off, .slice (some ⟨bm, 0, none⟩) l.length l.length] 64) = w2 at *
      clear x0 x1 x2 x3 x4 y0 y1 y2 y3 y4 E3 F3
      go_loopw [8] (fun v w' => ∃ k : Nat, v = .int .i64 k ∧ k ≤ l.length ∧ New w2 w') (fun v w' => l.length - (intOf v).toNat)
      · exact ⟨0, rfl, by omega, New.refl _⟩
      · obtain ⟨k, rfl, hk, hw3⟩ := hrel
        have bx := Lib.hid ((hw3.block _ (lt_of_heap X.out)).trans X.out)
        have by' := Lib.hid ((hw3.block _ (lt_of_heap Y.out)).trans Y.out)
        have be := Lib.hid ((hw3.block _ (lt_of_heap E4.out)).trans E4.out)
        have bf := Lib.hid ((hw3.block _ (lt_of_heap F4.out)).trans F4.out)
        have c0 := cell_of_heap (i := 4) bx.out rfl
        have c1 := cell_of_heap (i := 4) by'.out rfl
        have hz3 := lt_of_heap bx.out
        have hz4 := lt_of_heap by'.out
        by_cases hkn : k < l.length
        · obtain ⟨a, hak⟩ : ∃ a, l[k]? = some a := ⟨_, List.getElem?_eq_getElem hkn⟩
          obtain ⟨t0, t1, t2, t3, t4, t5⟩ := a
          have x0 : wr.cell? ⟨bl, k * 6, none⟩ = some (.int .i64 t0) := atoms_cell be.out hak 0 _ rfl
          have x1 : wr.cell? ⟨bl, k * 6 + 1, none⟩ = some (.int .i64 t1) := atoms_cell be.out hak 1 _ rfl
          have x2 : wr.cell? ⟨bl, k * 6 + 2, none⟩ = some (.int .u32 t2) := atoms_cell be.out hak 2 _ rfl
          have x3 : wr.cell? ⟨bl, k * 6 + 3, none⟩ = some (.int .u32 t3) := atoms_cell be.out hak 3 _ rfl
          have x4 : wr.cell? ⟨bl, k * 6 + 4, none⟩ = some (.int .u32 t4) := atoms_cell be.out hak 4 _ rfl
          have x5 : wr.cell? ⟨bl, k * 6 + 5, none⟩ = some (.int .u32 t5) := atoms_cell be.out hak 5 _ rfl
          have y0 : wr.cell? ⟨bm, k * 6, none⟩ = some (.int .i64 t0) := atoms_cell bf.out hak 0 _ rfl
          have y1 : wr.cell? ⟨bm, k * 6 + 1, none⟩ = some (.int .i64 t1) := atoms_cell bf.out hak 1 _ rfl
          have y2 : wr.cell? ⟨bm, k * 6 + 2, none⟩ = some (.int .u32 t2) := atoms_cell bf.out hak 2 _ rfl
          have y3 : wr.cell? ⟨bm, k * 6 + 3, none⟩ = some (.int .u32 t3) := atoms_cell bf.out hak 3 _ rfl
          have y4 : wr.cell? ⟨bm, k * 6 + 4, none⟩ = some (.int .u32 t4) := atoms_cell bf.out hak 4 _ rfl
          have y5 : wr.cell? ⟨bm, k * 6 + 5, none⟩ = some (.int .u32 t5) := atoms_cell bf.out hak 5 _ rfl
          go_wp2
          go_quiet (fail)
          go_wp2
          go_roundw
          case rel => exact ⟨k + 1, by simp, by omega, below_drewN hw3 _⟩
          case measure => simp [intOf]; omega
        · go_wp2
          go_roundw
          case rel => exact ⟨i + 1, by simp, by omega, W2.out.trans (hw3.mono W2.out.size)⟩
          case measure => simp [intOf]; omega
    · go_wp2
      go_ret
      exact ⟨rfl, hw⟩
/-- SameExprs answers true at lists that read the same. -/
theorem same_r (a b : Option Addr) (ca cb : Nat) (es : List IExpr) (w : World) (ra : ERows w a es) (rb : ERows w b es) (hn : es.length ≤ 100000) (hl : ∀ e ∈ es, e.l.length ≤ 100000) :
    Calls Try.prog 15 #[.slice a es.length ca, .slice b es.length cb] w fun e w' => e = .returned (.bool true) ∧ New w w' := by
  cases es with
  | nil => exact same_nil a b ca cb w
  | cons e es =>
    obtain ⟨g, _, rfl, _⟩ := ra 0 e rfl
    obtain ⟨g', _, rfl, _⟩ := rb 0 e rfl
    refine same_cons g g' ca cb _ (e :: es) w (fun i x hx => ?_) (fun i x hx => ?_) rfl hn hl
    · obtain ⟨q, bl, hq, hh⟩ := ra i x hx
      have : g = q := by simpa using hq
      subst this
      exact ⟨bl, hh⟩
    · obtain ⟨q, bl, hq, hh⟩ := rb i x hx
      have : g' = q := by simpa using hq
      subst this
      exact ⟨bl, hh⟩
theorem same_c (lo lo' : Nat) (va vb : Value) (es : List IExpr) (w : World) (ha : ExprsAt w lo va es) (hb : ExprsAt w lo' vb es) (hn : es.length ≤ 100000) (hl : ∀ e ∈ es, e.l.length ≤ 100000) :
    Calls Try.prog 15 #[va, vb] w fun e w' => e = .returned (.bool true) ∧ New w w' := by
  obtain ⟨a, ca, rfl, ra⟩ := ha.rows
  obtain ⟨b, cb, rfl, rb⟩ := hb.rows
  exact same_r a b ca cb es w ra rb hn hl
end Go.Proofs.Ytmkjgkldbonpnaa
