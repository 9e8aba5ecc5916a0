/- Parts of the proof: WSame, Num, WHolds, WFlags, WFlags2, WFlags3, WFlags4, WThunk, WRefA. -/
import Derived.Test.YtmkjgkldbonpnaaZ1
import Derived.Laws.BitsLemmas
import Derived.Laws.BitsAllLaws
import Derived.Test.YtmkjgkldbonpnaaRows
import Derived.Test.YtmkjgkldbonpnaaZ0
/- The specification's SameExprs, at lists that are the same. -/
namespace Go.Proofs.Ytmkjgkldbonpnaa
open Go Go.RowKit Go.Cd
set_option linter.unusedVariables false

/-- Expression number i lies at its place of block g, its elements in block bl. -/
def EAt (w : World) (g i : Nat) (e : IExpr) (bl : Nat) : Prop :=
  (∀ j u, (exprC e.kind e.ty e.op e.off (.slice (some ⟨bl, 0, none⟩) e.l.length e.l.length))[j]? = some u → w.cell? ⟨g, i * 5 + j, none⟩ = some u) ∧ g < w.heap.size ∧ w.heap[bl]? = some (.cells (atomsC e.l) 59)
/-- A slice's address from which expressions read. -/
def ERows (w : World) (a : Option Addr) (es : List IExpr) : Prop := ∀ i e, es[i]? = some e → ∃ g bl, a = some ⟨g, 0, none⟩ ∧ EAt w g i e bl
theorem Elems.get {w : World} {lo bs : Nat} {row : Option Nat} {es : List IExpr} {xs : List Value} (h : Elems w lo bs row es xs) :
    xs.length = es.length * 5 ∧ ∀ i e, es[i]? = some e → ∃ bl, (∀ j u, (exprC e.kind e.ty e.op e.off (.slice (some ⟨bl, 0, none⟩) e.l.length e.l.length))[j]? = some u → xs[i * 5 + j]? = some u) ∧ w.heap[bl]? = some (.cells (atomsC e.l) 59) := by
  induction h with
  | nil => exact ⟨rfl, fun i e h => by simp at h⟩
  | @snoc es xs e bl _ hb h1 h2 h3 ih =>
    obtain ⟨hl, ih⟩ := ih
    refine ⟨by simp [hl, exprC]; omega, fun i e' he => ?_⟩
    by_cases hi : i < es.length
    · rw [List.getElem?_append_left hi] at he
      obtain ⟨b', k1, k2⟩ := ih i e' he
      refine ⟨b', fun j u hu => ?_, k2⟩
      have hj : j < 5 := by
        have := (List.getElem?_eq_some_iff.1 hu).1
        simpa [exprC] using this
      rw [List.getElem?_append_left (by omega)]
      exact k1 j u hu
    · have hi' : i = es.length := by
        have := (List.getElem?_eq_some_iff.1 he).1
        simp at this; omega
      subst hi'
      have : e' = e := by simpa using he.symm
      subst this
      refine ⟨bl, fun j u hu => ?_, hb⟩
      rw [List.getElem?_append_right (by omega), hl, show es.length * 5 + j - es.length * 5 = j by omega]
      exact hu
theorem ExprsAt.rows {w : World} {lo : Nat} {v : Value} {es : List IExpr} (h : ExprsAt w lo v es) : ∃ a cap, v = .slice a es.length cap ∧ ERows w a es := by
  obtain ⟨bs, xs, hown, he⟩ := h
  obtain ⟨hl, hg⟩ := he.get
  have hc := fun g (hg : v.ownBlock = some g) => hown.cells hg
  have hlt := hown.lt
  rcases hown.2 with ⟨rfl, h0⟩ | ⟨g, cap, cur, rfl, _⟩
  · refine ⟨none, 0, by rw [h0], fun i e hi => ?_⟩
    have : es = [] := List.eq_nil_of_length_eq_zero h0
    subst this
    simp at hi
  · refine ⟨_, cap, rfl, fun i e hi => ?_⟩
    obtain ⟨bl, h1, h2⟩ := hg i e hi
    refine ⟨g, bl, rfl, fun j u hu => ?_, (hlt g rfl).2, h2⟩
    have := hc g rfl (i * 5 + j) u (h1 j u hu)
    rwa [Addr.add_mid, Nat.zero_add] at this
theorem ERows.new {w w' : World} {a : Option Addr} {es : List IExpr} (h : ERows w a es) (hb : New w w') : ERows w' a es := fun i e hi => by
  obtain ⟨g, bl, ha, h1, h2, h3⟩ := h i e hi
  exact ⟨g, bl, ha, fun j u hu => (World.cell?_of_block (hb.block g h2)).trans (h1 j u hu), Nat.lt_of_lt_of_le h2 hb.size, (hb.block bl (lt_of_heap h3)).trans h3⟩
theorem atomsC_get : ∀ (l : List Atom) (k : Nat) (a : Atom) (j : Nat) (u : Value), l[k]? = some a → a.cells[j]? = some u → (l.flatMap Atom.cells)[k * 6 + j]? = some u
  | [], _, _, _, _, h, _ => by simp at h
  | x :: l, 0, a, j, u, h, hu => by
    have : x = a := by simpa using h
    subst this
    have hj : j < x.cells.length := (List.getElem?_eq_some_iff.1 hu).1
    rw [List.flatMap_cons, Nat.zero_mul, Nat.zero_add, List.getElem?_append_left hj]
    exact hu
  | x :: l, k + 1, a, j, u, h, hu => by
    rw [List.flatMap_cons, List.getElem?_append_right (by simp [Atom.cells]; omega), show (k + 1) * 6 + j - x.cells.length = k * 6 + j by simp [Atom.cells]; omega]
    exact atomsC_get l k a j u (by simpa using h) hu
theorem atoms_cell {w : World} {b : Nat} {l : List Atom} {t : TypeId} (h : w.heap[b]? = some (.cells (atomsC l) t)) {k : Nat} {a : Atom} (hk : l[k]? = some a) (j : Nat) (u : Value) (hu : a.cells[j]? = some u) : w.cell? ⟨b, k * 6 + j, none⟩ = some u := by
  rw [cell_of_row w b _ _ _ _ h]
  simpa [atomsC] using atomsC_get l k a j u hk hu
attribute [local go_sem ↓] Go.wp_at_zero Go.wp_at_succ neq_atom
theorem same_nil (a b : Option Addr) (ca cb : Nat) (w : World) :
    Calls Try.prog 15 #[.slice a 0 ca, .slice b 0 cb] w fun e w' => e = .returned (.bool true) ∧ New w w' := by
  go_enter Try.func15, Try.ntmps15
  go_wp2
  refine wp_loop_rounds 1 ?_
  rw [rounds_succ]
  go_wp2
  go_ret
  exact ⟨rfl, New.refl _⟩
set_option maxRecDepth 100000 in
set_option maxHeartbeats 4000000 in
theorem same_cons (g g' : Nat) (ca cb n : Nat) (es : List IExpr) (w : World) (ha : ∀ i e, es[i]? = some e → ∃ bl, EAt w g i e bl) (hb : ∀ i e, es[i]? = some e → ∃ bl, EAt w g' i e bl) (hn' : es.length = n) (hn : n ≤ 100000) (hl : ∀ e ∈ es, e.l.length ≤ 100000) :
    Calls Try.prog 15 #[.slice (some ⟨g, 0, none⟩) n ca, .slice (some ⟨g', 0, none⟩) n cb] w fun e w' => e = .returned (.bool true) ∧ New w w' := by
  have HA := Lib.hid ha
  have HB := Lib.hid hb
  have HL := Lib.hid hl
  have HN := Lib.hid hn'
  clear ha hb hl hn'
  go_enter Try.func15, Try.ntmps15
  go_wp2
  go_loopw [5] (fun v w' => ∃ i : Nat, v = .int .i64 i ∧ i ≤ n ∧ New w w') (fun v w' => n - (intOf v).toNat)
  · exact ⟨0, rfl, by omega, New.refl _⟩
  · obtain ⟨i, rfl, hi, hw⟩ := hrel
    by_cases hin : i < n
    · obtain ⟨e, he⟩ : ∃ e, es[i]? = some e := ⟨_, List.getElem?_eq_getElem (by rw [HN.out]; exact hin)⟩
      obtain ⟨bl, e1, e2, e3⟩ := HA.out i e he
      obtain ⟨bm, f1, f2, f3⟩ := HB.out i e he
      have hll : e.l.length ≤ 100000 := HL.out e (List.mem_of_getElem? he)
      obtain ⟨kind, ty, op, off, l⟩ := e
      have x0 : wr.cell? ⟨g, i * 5, none⟩ = some (.int .i64 kind) := (World.cell?_of_block (hw.block g e2)).trans (e1 0 _ rfl)
      have x1 : wr.cell? ⟨g, i * 5 + 1, none⟩ = some (.int .i64 ty) := (World.cell?_of_block (hw.block g e2)).trans (e1 1 _ rfl)
      have x2 : wr.cell? ⟨g, i * 5 + 2, none⟩ = some (.int .i64 op) := (World.cell?_of_block (hw.block g e2)).trans (e1 2 _ rfl)
      have x3 : wr.cell? ⟨g, i * 5 + 3, none⟩ = some (.int .i64 off) := (World.cell?_of_block (hw.block g e2)).trans (e1 3 _ rfl)
      have x4 : wr.cell? ⟨g, i * 5 + 4, none⟩ = some (.slice (some ⟨bl, 0, none⟩) l.length l.length) := (World.cell?_of_block (hw.block g e2)).trans (e1 4 _ rfl)
      have y0 : wr.cell? ⟨g', i * 5, none⟩ = some (.int .i64 kind) := (World.cell?_of_block (hw.block g' f2)).trans (f1 0 _ rfl)
      have y1 : wr.cell? ⟨g', i * 5 + 1, none⟩ = some (.int .i64 ty) := (World.cell?_of_block (hw.block g' f2)).trans (f1 1 _ rfl)
      have y2 : wr.cell? ⟨g', i * 5 + 2, none⟩ = some (.int .i64 op) := (World.cell?_of_block (hw.block g' f2)).trans (f1 2 _ rfl)
      have y3 : wr.cell? ⟨g', i * 5 + 3, none⟩ = some (.int .i64 off) := (World.cell?_of_block (hw.block g' f2)).trans (f1 3 _ rfl)
      have y4 : wr.cell? ⟨g', i * 5 + 4, none⟩ = some (.slice (some ⟨bm, 0, none⟩) l.length l.length) := (World.cell?_of_block (hw.block g' f2)).trans (f1 4 _ rfl)
      have hg1 : g < wr.heap.size := Nat.lt_of_lt_of_le e2 hw.size
      have hg2 : g' < wr.heap.size := Nat.lt_of_lt_of_le f2 hw.size
      have E3 := Lib.hid ((hw.block bl (lt_of_heap e3)).trans e3)
      have F3 := Lib.hid ((hw.block bm (lt_of_heap f3)).trans f3)
      clear e1 f1 e3 f3
      have hz := hw.size
      dsimp only at hll E3 F3
      have X := Lib.hid (show ((wr.alloc (.cells #[.int .i64 kind, .int .i64 ty, .int .i64 op, .int .i64 off, .slice (some ⟨bl, 0, none⟩) l.length l.length] 64)).alloc (.cells #[.int .i64 kind, .int .i64 ty, .int .i64 op, .int .i64 off, .slice (some ⟨bm, 0, none⟩) l.length l.length] 64)).heap[wr.heap.size]? = some (.cells #[.int .i64 kind, .int .i64 ty, .int .i64 op, .int .i64 off, .slice (some ⟨bl, 0, none⟩) l.length l.length] 64) from heap_keep (heap_alloc_at _ _ _ rfl))
      have Y := Lib.hid (show ((wr.alloc (.cells #[.int .i64 kind, .int .i64 ty, .int .i64 op, .int .i64 off, .slice (some ⟨bl, 0, none⟩) l.length l.length] 64)).alloc (.cells #[.int .i64 kind, .int .i64 ty, .int .i64 op, .int .i64 off, .slice (some ⟨bm, 0, none⟩) l.length l.length] 64)).heap[wr.heap.size + 1]? = some (.cells #[.int .i64 kind, .int .i64 ty, .int .i64 op, .int .i64 off, .slice (some ⟨bm, 0, none⟩) l.length l.length] 64) from heap_alloc_at _ _ _ (by simp))
      have W2 := Lib.hid (show New w ((wr.alloc (.cells #[.int .i64 kind, .int .i64 ty, .int .i64 op, .int .i64 off, .slice (some ⟨bl, 0, none⟩) l.length l.length] 64)).alloc (.cells #[.int .i64 kind, .int .i64 ty, .int .i64 op, .int .i64 off, .slice (some ⟨bm, 0, none⟩) l.length l.length] 64)) from (hw.alloc hz _).alloc (by simp only [World.size_alloc]; omega) _)
      have E4 := Lib.hid (show ((wr.alloc (.cells #[.int .i64 kind, .int .i64 ty, .int .i64 op, .int .i64 off, .slice (some ⟨bl, 0, none⟩) l.length l.length] 64)).alloc (.cells #[.int .i64 kind, .int .i64 ty, .int .i64 op, .int .i64 off, .slice (some ⟨bm, 0, none⟩) l.length l.length] 64)).heap[bl]? = some (.cells (atomsC l) 59) from heap_keep (heap_keep E3.out))
      have F4 := Lib.hid (show ((wr.alloc (.cells #[.int .i64 kind, .int .i64 ty, .int .i64 op, .int .i64 off, .slice (some ⟨bl, 0, none⟩) l.length l.length] 64)).alloc (.cells #[.int .i64 kind, .int .i64 ty, .int .i64 op, .int .i64 off, .slice (some ⟨bm, 0, none⟩) l.length l.length] 64)).heap[bm]? = some (.cells (atomsC l) 59) from heap_keep (heap_keep F3.out))
      go_wp2
      generalize (wr.alloc (.cells #[.int .i64 kind, .int .i64 ty, .int .i64 op, .int .i64 off, .slice (some ⟨bl, 0, none⟩) l.length l.length] 64)).alloc (.cells #[.int .i64 kind, .int .i64 ty, .int .i64 op, .int .i64 off, .slice (some ⟨bm, 0, none⟩) l.length l.length] 64) = w2 at *
      clear x0 x1 x2 x3 x4 y0 y1 y2 y3 y4 E3 F3
      go_loopw [8] (fun v w' => ∃ k : Nat, v = .int .i64 k ∧ k ≤ l.length ∧ New w2 w') (fun v w' => l.length - (intOf v).toNat)
      · exact ⟨0, rfl, by omega, New.refl _⟩
      · obtain ⟨k, rfl, hk, hw3⟩ := hrel
        have bx := Lib.hid ((hw3.block _ (lt_of_heap X.out)).trans X.out)
        have by' := Lib.hid ((hw3.block _ (lt_of_heap Y.out)).trans Y.out)
        have be := Lib.hid ((hw3.block _ (lt_of_heap E4.out)).trans E4.out)
        have bf := Lib.hid ((hw3.block _ (lt_of_heap F4.out)).trans F4.out)
        have c0 := cell_of_heap (i := 4) bx.out rfl
        have c1 := cell_of_heap (i := 4) by'.out rfl
        have hz3 := lt_of_heap bx.out
        have hz4 := lt_of_heap by'.out
        by_cases hkn : k < l.length
        · obtain ⟨a, hak⟩ : ∃ a, l[k]? = some a := ⟨_, List.getElem?_eq_getElem hkn⟩
          obtain ⟨t0, t1, t2, t3, t4, t5⟩ := a
          have x0 : wr.cell? ⟨bl, k * 6, none⟩ = some (.int .i64 t0) := atoms_cell be.out hak 0 _ rfl
          have x1 : wr.cell? ⟨bl, k * 6 + 1, none⟩ = some (.int .i64 t1) := atoms_cell be.out hak 1 _ rfl
          have x2 : wr.cell? ⟨bl, k * 6 + 2, none⟩ = some (.int .u32 t2) := atoms_cell be.out hak 2 _ rfl
          have x3 : wr.cell? ⟨bl, k * 6 + 3, none⟩ = some (.int .u32 t3) := atoms_cell be.out hak 3 _ rfl
          have x4 : wr.cell? ⟨bl, k * 6 + 4, none⟩ = some (.int .u32 t4) := atoms_cell be.out hak 4 _ rfl
          have x5 : wr.cell? ⟨bl, k * 6 + 5, none⟩ = some (.int .u32 t5) := atoms_cell be.out hak 5 _ rfl
          have y0 : wr.cell? ⟨bm, k * 6, none⟩ = some (.int .i64 t0) := atoms_cell bf.out hak 0 _ rfl
          have y1 : wr.cell? ⟨bm, k * 6 + 1, none⟩ = some (.int .i64 t1) := atoms_cell bf.out hak 1 _ rfl
          have y2 : wr.cell? ⟨bm, k * 6 + 2, none⟩ = some (.int .u32 t2) := atoms_cell bf.out hak 2 _ rfl
          have y3 : wr.cell? ⟨bm, k * 6 + 3, none⟩ = some (.int .u32 t3) := atoms_cell bf.out hak 3 _ rfl
          have y4 : wr.cell? ⟨bm, k * 6 + 4, none⟩ = some (.int .u32 t4) := atoms_cell bf.out hak 4 _ rfl
          have y5 : wr.cell? ⟨bm, k * 6 + 5, none⟩ = some (.int .u32 t5) := atoms_cell bf.out hak 5 _ rfl
          go_wp2
          go_quiet (fail)
          go_wp2
          go_roundw
          case rel => exact ⟨k + 1, by simp, by omega, below_drewN hw3 _⟩
          case measure => simp [intOf]; omega
        · go_wp2
          go_roundw
          case rel => exact ⟨i + 1, by simp, by omega, W2.out.trans (hw3.mono W2.out.size)⟩
          case measure => simp [intOf]; omega
    · go_wp2
      go_ret
      exact ⟨rfl, hw⟩
/-- SameExprs answers true at lists that read the same. -/
theorem same_r (a b : Option Addr) (ca cb : Nat) (es : List IExpr) (w : World) (ra : ERows w a es) (rb : ERows w b es) (hn : es.length ≤ 100000) (hl : ∀ e ∈ es, e.l.length ≤ 100000) :
    Calls Try.prog 15 #[.slice a es.length ca, .slice b es.length cb] w fun e w' => e = .returned (.bool true) ∧ New w w' := by
  cases es with
  | nil => exact same_nil a b ca cb w
  | cons e es =>
    obtain ⟨g, _, rfl, _⟩ := ra 0 e rfl
    obtain ⟨g', _, rfl, _⟩ := rb 0 e rfl
    refine same_cons g g' ca cb _ (e :: es) w (fun i x hx => ?_) (fun i x hx => ?_) rfl hn hl
    · obtain ⟨q, bl, hq, hh⟩ := ra i x hx
      have : g = q := by simpa using hq
      subst this
      exact ⟨bl, hh⟩
    · obtain ⟨q, bl, hq, hh⟩ := rb i x hx
      have : g' = q := by simpa using hq
      subst this
      exact ⟨bl, hh⟩
theorem same_c (lo lo' : Nat) (va vb : Value) (es : List IExpr) (w : World) (ha : ExprsAt w lo va es) (hb : ExprsAt w lo' vb es) (hn : es.length ≤ 100000) (hl : ∀ e ∈ es, e.l.length ≤ 100000) :
    Calls Try.prog 15 #[va, vb] w fun e w' => e = .returned (.bool true) ∧ New w w' := by
  obtain ⟨a, ca, rfl, ra⟩ := ha.rows
  obtain ⟨b, cb, rfl, rb⟩ := hb.rows
  exact same_r a b ca cb es w ra rb hn hl
end Go.Proofs.Ytmkjgkldbonpnaa
/- Plain lemmas on words: the bits of 32-bit numbers, as whole numbers. No Go, no memory. -/
namespace Go.Cd
open Go

/-- A word as a signed number. -/
def sg (a : Int) : Int := if 2147483648 ≤ a then a - 4294967296 else a

theorem ofInt_toNat (x : Int) (h0 : 0 ≤ x) (h1 : x < 4294967296) : (BitVec.ofInt 32 x).toNat = x.toNat := by
  rw [BitVec.toNat_ofInt]
  congr 1
  exact Int.emod_eq_of_lt h0 (by omega)

theorem and32 (x y : Int) (hx : 0 ≤ x) (hx' : x < 4294967296) (hy : 0 ≤ y) (hy' : y < 4294967296) : bits .and .u32 x y = ((x.toNat &&& y.toNat : Nat) : Int) := by
  have hlt : x.toNat &&& y.toNat < 2 ^ 32 := Nat.and_lt_two_pow _ (by omega)
  have e : bits .and .u32 x y = (((BitVec.ofInt 32 x &&& BitVec.ofInt 32 y).toNat : Nat) : Int) % 4294967296 := by simp only [bits, IntKind.wrap_u32]; rfl
  rw [e, BitVec.toNat_and, ofInt_toNat x hx hx', ofInt_toNat y hy hy']
  omega
theorem or32 (x y : Int) (hx : 0 ≤ x) (hx' : x < 4294967296) (hy : 0 ≤ y) (hy' : y < 4294967296) : bits .or .u32 x y = ((x.toNat ||| y.toNat : Nat) : Int) := by
  have hlt : x.toNat ||| y.toNat < 2 ^ 32 := Nat.or_lt_two_pow (by omega) (by omega)
  have e : bits .or .u32 x y = (((BitVec.ofInt 32 x ||| BitVec.ofInt 32 y).toNat : Nat) : Int) % 4294967296 := by simp only [bits, IntKind.wrap_u32]; rfl
  rw [e, BitVec.toNat_or, ofInt_toNat x hx hx', ofInt_toNat y hy hy']
  omega
theorem xor32 (x y : Int) (hx : 0 ≤ x) (hx' : x < 4294967296) (hy : 0 ≤ y) (hy' : y < 4294967296) : bits .xor .u32 x y = ((x.toNat ^^^ y.toNat : Nat) : Int) := by
  have hlt : x.toNat ^^^ y.toNat < 2 ^ 32 := Nat.xor_lt_two_pow (by omega) (by omega)
  have e : bits .xor .u32 x y = (((BitVec.ofInt 32 x ^^^ BitVec.ofInt 32 y).toNat : Nat) : Int) % 4294967296 := by simp only [bits, IntKind.wrap_u32]; rfl
  rw [e, BitVec.toNat_xor, ofInt_toNat x hx hx', ofInt_toNat y hy hy']
  omega

theorem bits_nonneg (op : BinOp) (x y : Int) : 0 ≤ bits op .u32 x y := by
  cases op <;> simp only [bits, IntKind.wrap_u32] <;> omega
theorem bits_lt (op : BinOp) (x y : Int) : bits op .u32 x y < 4294967296 := by
  cases op <;> simp only [bits, IntKind.wrap_u32] <;> omega

/-- The top bit. -/
theorem div_top (n : Nat) (h : n < 4294967296) : n / 2147483648 = if n.testBit 31 then 1 else 0 := by
  rw [Nat.testBit_eq_decide_div_mod_eq]
  by_cases h' : n / 2 ^ 31 % 2 = 1
  · rw [decide_eq_true h', if_pos rfl]; omega
  · rw [decide_eq_false h', if_neg (by simp)]; omega
theorem top_int (x : Int) (h0 : 0 ≤ x) (h1 : x < 4294967296) : x / 2147483648 = if x.toNat.testBit 31 then 1 else 0 := by
  have h := div_top x.toNat (by omega)
  by_cases ht : x.toNat.testBit 31 = true
  · rw [if_pos ht] at h ⊢; omega
  · rw [if_neg ht] at h ⊢; omega
theorem and_top (x y : Int) (hx : 0 ≤ x) (hx' : x < 4294967296) (hy : 0 ≤ y) (hy' : y < 4294967296) :
    bits .and .u32 x y / 2147483648 = if x / 2147483648 = 1 ∧ y / 2147483648 = 1 then 1 else 0 := by
  rw [top_int _ (bits_nonneg _ _ _) (bits_lt _ _ _), top_int x hx hx', top_int y hy hy', and32 x y hx hx' hy hy', Int.toNat_natCast, Nat.testBit_and]
  cases x.toNat.testBit 31 <;> cases y.toNat.testBit 31 <;> simp
theorem or_top (x y : Int) (hx : 0 ≤ x) (hx' : x < 4294967296) (hy : 0 ≤ y) (hy' : y < 4294967296) :
    bits .or .u32 x y / 2147483648 = if x / 2147483648 = 1 ∨ y / 2147483648 = 1 then 1 else 0 := by
  rw [top_int _ (bits_nonneg _ _ _) (bits_lt _ _ _), top_int x hx hx', top_int y hy hy', or32 x y hx hx' hy hy', Int.toNat_natCast, Nat.testBit_or]
  cases x.toNat.testBit 31 <;> cases y.toNat.testBit 31 <;> simp
theorem xor_top (x y : Int) (hx : 0 ≤ x) (hx' : x < 4294967296) (hy : 0 ≤ y) (hy' : y < 4294967296) :
    bits .xor .u32 x y / 2147483648 = if x / 2147483648 = y / 2147483648 then 0 else 1 := by
  rw [top_int _ (bits_nonneg _ _ _) (bits_lt _ _ _), top_int x hx hx', top_int y hy hy', xor32 x y hx hx' hy hy', Int.toNat_natCast, Nat.testBit_xor]
  cases x.toNat.testBit 31 <;> cases y.toNat.testBit 31 <;> simp

/-- 'x & (2^i - 1)' of a word. -/
theorem and_mask (x : Int) (hx : 0 ≤ x) (hx' : x < 4294967296) (i : Nat) (hi : i ≤ 32) : bits .and .u32 x ((2 : Int) ^ i - 1) = x % (2 : Int) ^ i := by
  have hp : (2 : Int) ^ i = ((2 ^ i : Nat) : Int) := by simp
  have hp0 : 0 < 2 ^ i := Nat.two_pow_pos i
  have hp1 : 2 ^ i ≤ 2 ^ 32 := Nat.pow_le_pow_right (by decide) hi
  rw [hp, and32 x _ hx hx' (by omega) (by omega)]
  have e : (((2 ^ i : Nat) : Int) - 1).toNat = 2 ^ i - 1 := by omega
  rw [e, Nat.and_two_pow_sub_one_eq_mod]
  obtain ⟨n, rfl⟩ := Int.eq_ofNat_of_zero_le hx
  rw [Int.toNat_natCast]
  omega
theorem and_1 (x : Int) (hx : 0 ≤ x) (hx' : x < 4294967296) : bits .and .u32 x 1 = x % 2 := and_mask x hx hx' 1 (by decide)
theorem and_15 (x : Int) (hx : 0 ≤ x) (hx' : x < 4294967296) : bits .and .u32 x 15 = x % 16 := and_mask x hx hx' 4 (by decide)
theorem and_31 (x : Int) (hx : 0 ≤ x) (hx' : x < 4294967296) : bits .and .u32 x 31 = x % 32 := and_mask x hx hx' 5 (by decide)
theorem and_255 (x : Int) (hx : 0 ≤ x) (hx' : x < 4294967296) : bits .and .u32 x 255 = x % 256 := and_mask x hx hx' 8 (by decide)

/-- math/bits.Sub32's borrow. -/
theorem borrow_bits (x y c : Int) (hx : 0 ≤ x) (hx' : x < 4294967296) (hy : 0 ≤ y) (hy' : y < 4294967296) (hc : 0 ≤ c) (hc' : c ≤ 1) :
    bits .or .u32 (bits .and .u32 (bits .xor .u32 4294967295 x) y) (bits .and .u32 (bits .xor .u32 4294967295 (bits .xor .u32 x y)) ((x - y - c) % 4294967296)) / 2147483648 = if x < y + c then 1 else 0 := by
  have n1 := bits_nonneg .xor 4294967295 x; have n1' := bits_lt .xor 4294967295 x
  have n2 := bits_nonneg .and (bits .xor .u32 4294967295 x) y; have n2' := bits_lt .and (bits .xor .u32 4294967295 x) y
  have n3 := bits_nonneg .xor x y; have n3' := bits_lt .xor x y
  have n4 := bits_nonneg .xor 4294967295 (bits .xor .u32 x y); have n4' := bits_lt .xor 4294967295 (bits .xor .u32 x y)
  have n5 := bits_nonneg .and (bits .xor .u32 4294967295 (bits .xor .u32 x y)) ((x - y - c) % 4294967296)
  have n5' := bits_lt .and (bits .xor .u32 4294967295 (bits .xor .u32 x y)) ((x - y - c) % 4294967296)
  rw [or_top _ _ n2 n2' n5 n5', and_top _ _ n1 n1' hy hy', and_top _ _ n4 n4' (by omega) (by omega), xor_top _ _ (by decide) (by decide) hx hx', xor_top _ _ (by decide) (by decide) n3 n3', xor_top _ _ hx hx' hy hy']
  generalize hr : (x - y - c) % 4294967296 = r
  clear n1 n1' n2 n2' n3 n3' n4 n4' n5 n5'
  by_cases a : x / 2147483648 = 1 <;> by_cases b : y / 2147483648 = 1 <;> by_cases d : r / 2147483648 = 1 <;> simp [a, b, d] <;> omega

/-- The overflow of a sum, and of a difference. -/
theorem over_sum (a b c : Int) (ha : 0 ≤ a) (ha' : a < 4294967296) (hb : 0 ≤ b) (hb' : b < 4294967296) (hc : 0 ≤ c) (hc' : c ≤ 1) :
    (bits .and .u32 (bits .xor .u32 a ((a + b + c) % 4294967296)) (bits .xor .u32 b ((a + b + c) % 4294967296)) / 2147483648 == 1) = decide (sg a + sg b + c ≠ sg ((a + b + c) % 4294967296)) := by
  generalize hr : (a + b + c) % 4294967296 = r
  rw [and_top _ _ (bits_nonneg _ _ _) (bits_lt _ _ _) (bits_nonneg _ _ _) (bits_lt _ _ _), xor_top a r ha ha' (by omega) (by omega), xor_top b r hb hb' (by omega) (by omega)]
  unfold sg
  rw [Bool.eq_iff_iff, beq_iff_eq, decide_eq_true_iff]
  repeat' split
  all_goals omega
theorem over_diff (a b c : Int) (ha : 0 ≤ a) (ha' : a < 4294967296) (hb : 0 ≤ b) (hb' : b < 4294967296) (hc : 0 ≤ c) (hc' : c ≤ 1) :
    (bits .and .u32 (bits .xor .u32 a b) (bits .xor .u32 a ((a - b - c) % 4294967296)) / 2147483648 == 1) = decide (sg a - sg b - c ≠ sg ((a - b - c) % 4294967296)) := by
  generalize hr : (a - b - c) % 4294967296 = r
  rw [and_top _ _ (bits_nonneg _ _ _) (bits_lt _ _ _) (bits_nonneg _ _ _) (bits_lt _ _ _), xor_top a b ha ha' hb hb', xor_top a r ha ha' (by omega) (by omega)]
  unfold sg
  rw [Bool.eq_iff_iff, beq_iff_eq, decide_eq_true_iff]
  repeat' split
  all_goals omega
end Go.Cd
/- Contracts of cpu.Holds, thunk.Holds, isCond, Inverse, Uses, Fixed. -/
namespace Go.Proofs.Ytmkjgkldbonpnaa
open Go Go.RowKit Go.Cd
set_option linter.unusedVariables false

/-- Is a flag set? -/
def hasB (flags f : Int) : Bool := bits .and .i64 flags f != 0
/-- What the even condition of number 2 i says. -/
def isAt (z n c v : Bool) (i : Int) : Bool :=
  if i = 0 then z else if i = 1 then c else if i = 2 then n else if i = 3 then v else if i = 4 then (c || z) else if i = 5 then (n != v) else if i = 6 then ((n != v) || z) else true
def holdsZ (cd : Int) (z n c v : Bool) : Bool := isAt z n c v (cd / 2) == (cd % 2 == 0)
def holdsF (cd flags : Int) : Bool :=
  if cd < 0 ∨ 15 < cd then false else holdsZ cd (hasB flags 1) (hasB flags 2) (hasB flags 4) (hasB flags 8)

def sel8 (b0 b1 b2 b3 b4 b5 b6 b7 : Bool) (i : Int) : Bool :=
  if i = 0 then b0 else if i = 1 then b1 else if i = 2 then b2 else if i = 3 then b3 else if i = 4 then b4 else if i = 5 then b5 else if i = 6 then b6 else b7
theorem holds1_c (f x : Int) (a : Addr) (w : World) (h : w.cell? a = some (.int .i64 x)) :
    Calls Try.prog 79 #[.int .i64 f, .pointer (some a)] w fun e w' => e = .returned (.bool (hasB x f)) ∧ w = w' := by
  go_enter Try.func79, Try.ntmps79
  go_wp2
  go_ret
  exact ⟨rfl, rfl⟩
theorem holds_out (cd flags : Int) (w : World) (h : cd < 0 ∨ 15 < cd) :
    Calls Try.prog 54 #[.int .i64 cd, .int .i64 flags] w fun e w' => e = .returned (.bool false) ∧ New w w' := by
  rcases h with h | h
  · go_enter Try.func54, Try.ntmps54
    go_wp2
    go_ret
    exact ⟨rfl, by go_grown⟩
  · have h' : ¬ cd < 0 := by omega
    go_enter Try.func54, Try.ntmps54
    go_wp2
    go_ret
    exact ⟨rfl, by go_grown⟩
set_option maxHeartbeats 1000000 in
theorem holds_in (cd flags : Int) (z n c v : Bool) (w : World) (hz : hasB flags 1 = z) (hn : hasB flags 2 = n) (hc : hasB flags 4 = c) (hv : hasB flags 8 = v) (h1 : ¬ cd < 0) (h2 : ¬ 15 < cd) (h0 : 0 ≤ cd) (h3 : cd ≤ 15) :
    Calls Try.prog 54 #[.int .i64 cd, .int .i64 flags] w fun e w' => e = .returned (.bool (holdsZ cd z n c v)) ∧ New w w' := by
  have HC : (w.alloc (.cells #[.int .i64 flags] 3)).cell? ⟨w.heap.size, 0, none⟩ = some (.int .i64 flags) := by simp
  obtain ⟨i, hi⟩ : ∃ i, cd / 2 = i := ⟨_, rfl⟩
  have hi0 : 0 ≤ i := by omega
  have hi1 : i < 8 := by omega
  have hL : ∀ b0 b1 b2 b3 b4 b5 b6 b7 (h : i.toNat < [Value.bool b0, .bool b1, .bool b2, .bool b3, .bool b4, .bool b5, .bool b6, .bool b7].length), [Value.bool b0, .bool b1, .bool b2, .bool b3, .bool b4, .bool b5, .bool b6, .bool b7][i.toNat]'h = Value.bool (sel8 b0 b1 b2 b3 b4 b5 b6 b7 i) := by
    intro b0 b1 b2 b3 b4 b5 b6 b7 h
    clear h1 h2
    have : i = 0 ∨ i = 1 ∨ i = 2 ∨ i = 3 ∨ i = 4 ∨ i = 5 ∨ i = 6 ∨ i = 7 := by omega
    rcases this with rfl | rfl | rfl | rfl | rfl | rfl | rfl | rfl <;> rfl
  go_enter Try.func54, Try.ntmps54
  go_wp2_with (go_at_call 79; refine (holds1_c _ _ _ _ HC).mono ?_; (first | rw [hz] | rw [hn] | rw [hc] | rw [hv]); rintro e w1 ⟨rfl, rfl⟩)
  all_goals go_ret
  all_goals refine ⟨ret_bool ?_, by clear hL; go_grown⟩
  all_goals unfold holdsZ
  all_goals rw [hi]
  all_goals congr 1
  all_goals clear hL HC hi hz hn hc hv
  all_goals unfold sel8 isAt
  all_goals cases c <;> cases n <;> cases v <;> simp_all
theorem holds_c (cd flags : Int) (w : World) :
    Calls Try.prog 54 #[.int .i64 cd, .int .i64 flags] w fun e w' => e = .returned (.bool (holdsF cd flags)) ∧ New w w' := by
  by_cases h : cd < 0 ∨ 15 < cd
  · have e : holdsF cd flags = false := by unfold holdsF; rw [if_pos h]
    rw [e]; exact holds_out cd flags w h
  · have e : holdsF cd flags = holdsZ cd (hasB flags 1) (hasB flags 2) (hasB flags 4) (hasB flags 8) := by unfold holdsF; rw [if_neg h]
    rw [e]; exact holds_in cd flags _ _ _ _ w rfl rfl rfl rfl (by omega) (by omega) (by omega) (by omega)
theorem tholds_c (cd flags : Int) (w : World) :
    Calls Try.prog 26 #[.int .i64 cd, .int .i64 flags] w fun e w' => e = .returned (.bool (holdsF cd flags)) ∧ New w w' := by
  go_enter Try.func26, Try.ntmps26
  go_wp2_with (go_at_call 54; refine (holds_c _ _ _).mono ?_; rintro e w1 ⟨rfl, hb⟩)
  go_ret
  exact ⟨rfl, hb⟩

end Go.Proofs.Ytmkjgkldbonpnaa
/- Contracts of the functions that thunk.Flags goes through. -/
namespace Go.Proofs.Ytmkjgkldbonpnaa
open Go Go.RowKit Go.Cd

def sumR (a b c : Int) : Int := (a + b + c) % 4294967296
def sumC (a b c : Int) : Bool := (a + b + c) / 4294967296 == 1
def sumV (a b c : Int) : Bool := decide (sg a + sg b + c ≠ sg ((a + b + c) % 4294967296))
def difR (a b c : Int) : Int := (a - b - c) % 4294967296
def difC (a b c : Int) : Bool := decide (a < b + c)
def difV (a b c : Int) : Bool := decide (sg a - sg b - c ≠ sg ((a - b - c) % 4294967296))

theorem add32_c (x y c : Int) (w : World) (hx : 0 ≤ x) (hx' : x < 4294967296) (hy : 0 ≤ y) (hy' : y < 4294967296) (hc : 0 ≤ c) (hc' : c ≤ 1) :
    Calls Try.prog 101 #[.int .u32 x, .int .u32 y, .int .u32 c] w fun e w' => e = .returned (.tuple #[.int .u32 ((x + y + c) % 4294967296), .int .u32 ((x + y + c) / 4294967296)]) ∧ w = w' := by
  go_enter Try.func101, Try.ntmps101
  go_wp2
  go_ret2
  exact ⟨rfl, rfl⟩
theorem sub32_c (x y c : Int) (w : World) (hx : 0 ≤ x) (hx' : x < 4294967296) (hy : 0 ≤ y) (hy' : y < 4294967296) (hc : 0 ≤ c) (hc' : c ≤ 1) :
    Calls Try.prog 102 #[.int .u32 x, .int .u32 y, .int .u32 c] w fun e w' => e = .returned (.tuple #[.int .u32 ((x - y - c) % 4294967296), .int .u32 (((difC x y c).toNat : Nat) : Int)]) ∧ w = w' := by
  have hb := Lib.hid (borrow_bits x y c hx hx' hy hy' hc hc')
  go_enter Try.func102, Try.ntmps102
  go_wp2
  go_ret2
  refine ⟨?_, rfl⟩
  simp only [Array.getD_eq_getD_getElem?, List.getElem?_toArray, List.getElem?_cons_succ, List.getElem?_cons_zero, Option.getD_some]
  rw [show IntKind.u32.max = 4294967295 from rfl, hb.out]
  unfold difC
  by_cases h : x < y + c <;> simp [h]
theorem sum_c (x y c : Int) (w : World) (hx : 0 ≤ x) (hx' : x < 4294967296) (hy : 0 ≤ y) (hy' : y < 4294967296) (hc : 0 ≤ c) (hc' : c ≤ 1) :
    Calls Try.prog 88 #[.int .u32 x, .int .u32 y, .int .u32 c] w fun e w' => e = .returned (.tuple #[.int .u32 (sumR x y c), .bool (sumC x y c), .bool (sumV x y c)]) ∧ w = w' := by
  have hb := Lib.hid (over_sum x y c hx hx' hy hy' hc hc')
  go_enter Try.func88, Try.ntmps88
  go_wp2_with (go_at_call 101; refine (add32_c _ _ _ _ (by omega) (by omega) (by omega) (by omega) (by omega) (by omega)).mono ?_; rintro e w' ⟨rfl, rfl⟩)
  go_ret3
  refine ⟨?_, rfl⟩
  simp only [Array.getD_eq_getD_getElem?, List.getElem?_toArray, List.getElem?_cons_succ, List.getElem?_cons_zero, Option.getD_some]
  rw [hb.out]
  rfl
theorem dif_c (x y c : Int) (w : World) (hx : 0 ≤ x) (hx' : x < 4294967296) (hy : 0 ≤ y) (hy' : y < 4294967296) (hc : 0 ≤ c) (hc' : c ≤ 1) :
    Calls Try.prog 90 #[.int .u32 x, .int .u32 y, .int .u32 c] w fun e w' => e = .returned (.tuple #[.int .u32 (difR x y c), .bool (difC x y c), .bool (difV x y c)]) ∧ w = w' := by
  have hb := Lib.hid (over_diff x y c hx hx' hy hy' hc hc')
  go_enter Try.func90, Try.ntmps90
  go_wp2_with (go_at_call 102; refine (sub32_c _ _ _ _ (by omega) (by omega) (by omega) (by omega) (by omega) (by omega)).mono ?_; rintro e w' ⟨rfl, rfl⟩)
  go_ret3
  refine ⟨?_, rfl⟩
  simp only [Array.getD_eq_getD_getElem?, List.getElem?_toArray, List.getElem?_cons_succ, List.getElem?_cons_zero, Option.getD_some]
  rw [hb.out]
  unfold difR difV
  cases difC x y c <;> rfl
theorem results_c (w : World)  :
    Calls Try.prog 78 #[] w fun e w' => e = .returned (.agg #[.nilFunc, .func (.func 87) #[] #[], .func (.func 89) #[] #[], .func (.func 91) #[] #[], .func (.func 92) #[] #[], .func (.func 95) #[] #[], .func (.func 97) #[] #[], .func (.func 99) #[] #[], .func (.func 100) #[] #[]]) ∧ New w w' := by
  go_enter Try.func78, Try.ntmps78
  go_wp2
  go_returns
  refine ⟨rfl, ?_⟩
  go_grown
end Go.Proofs.Ytmkjgkldbonpnaa
/- Contracts of the functions that thunk.Flags goes through: the results. -/
namespace Go.Proofs.Ytmkjgkldbonpnaa
open Go Go.RowKit Go.Cd
set_option linter.unusedVariables false

def shlR (a n : Int) : Int := a * 2 ^ n.toNat % 4294967296
def shrR (a n : Int) : Int := a / 2 ^ n.toNat
def sarR (a n : Int) : Int := wrap32 a / 2 ^ n.toNat % 4294967296
/-- The bit that goes out. -/
def outB (a n last : Int) : Bool := decide (0 < n) && (a / 2 ^ (last % 32).toNat % 2 == 1)
theorem and_1_div (a : Int) (ha : 0 ≤ a) (ha' : a < 4294967296) (k : Nat) : bits .and .u32 (a / 2 ^ k) 1 = a / 2 ^ k % 2 := by
  have hp : (0 : Int) < 2 ^ k := Int.pow_pos (by decide)
  refine and_1 _ (Int.ediv_nonneg ha (by omega)) ?_
  exact Int.lt_of_le_of_lt (Int.ediv_le_self _ ha) ha'

theorem sh4_c (a n : Int) (w : World) (ha : 0 ≤ a) (ha' : a < 4294967296) (hn : 0 ≤ n) (hn' : n < 32) :
    Calls Try.prog 94 #[.int .u32 a, .int .u32 n] w fun e w' => e = .returned (.int .u32 (shlR a n)) ∧ w = w' := by
  go_enter Try.func94, Try.ntmps94
  go_wp2
  go_ret
  exact ⟨rfl, rfl⟩
theorem sh5_c (a n : Int) (w : World) (ha : 0 ≤ a) (ha' : a < 4294967296) (hn : 0 ≤ n) (hn' : n < 32) :
    Calls Try.prog 96 #[.int .u32 a, .int .u32 n] w fun e w' => e = .returned (.int .u32 (shrR a n)) ∧ w = w' := by
  go_enter Try.func96, Try.ntmps96
  go_wp2
  go_ret
  exact ⟨rfl, rfl⟩
theorem sh6_c (a n : Int) (w : World) (ha : 0 ≤ a) (ha' : a < 4294967296) (hn : 0 ≤ n) (hn' : n < 32) :
    Calls Try.prog 98 #[.int .u32 a, .int .u32 n] w fun e w' => e = .returned (.int .u32 (sarR a n)) ∧ w = w' := by
  go_enter Try.func98, Try.ntmps98
  go_wp2
  go_ret
  exact ⟨rfl, rfl⟩
theorem res1_c (op d1 d2 d3 : Int) (w : World) (h1 : 0 ≤ d1) (h1' : d1 < 4294967296) (h2 : 0 ≤ d2) (h2' : d2 < 4294967296) :
    Calls Try.prog 87 #[.agg #[.int .u32 op, .int .u32 d1, .int .u32 d2, .int .u32 d3]] w fun e w' => e = .returned (.tuple #[.int .u32 (sumR d1 d2 0), .bool (sumC d1 d2 0), .bool (sumV d1 d2 0)]) ∧ New w w' := by
  go_enter Try.func87, Try.ntmps87
  go_wp2_with (go_at_call 88; refine (sum_c _ _ _ _ (by omega) (by omega) (by omega) (by omega) (by omega) (by omega)).mono ?_; rintro e w' ⟨rfl, rfl⟩)
  go_ret3
  exact ⟨rfl, by go_grown⟩
theorem res2_c (op d1 d2 d3 : Int) (w : World) (h1 : 0 ≤ d1) (h1' : d1 < 4294967296) (h2 : 0 ≤ d2) (h2' : d2 < 4294967296) :
    Calls Try.prog 89 #[.agg #[.int .u32 op, .int .u32 d1, .int .u32 d2, .int .u32 d3]] w fun e w' => e = .returned (.tuple #[.int .u32 (difR d1 d2 0), .bool (difC d1 d2 0), .bool (difV d1 d2 0)]) ∧ New w w' := by
  go_enter Try.func89, Try.ntmps89
  go_wp2_with (go_at_call 90; refine (dif_c _ _ _ _ (by omega) (by omega) (by omega) (by omega) (by omega) (by omega)).mono ?_; rintro e w' ⟨rfl, rfl⟩)
  go_ret3
  exact ⟨rfl, by go_grown⟩
theorem res3_c (op d1 d2 d3 : Int) (w : World) :
    Calls Try.prog 91 #[.agg #[.int .u32 op, .int .u32 d1, .int .u32 d2, .int .u32 d3]] w fun e w' => e = .returned (.tuple #[.int .u32 d1, .bool false, .bool false]) ∧ New w w' := by
  go_enter Try.func91, Try.ntmps91
  go_wp2
  go_ret3
  exact ⟨rfl, by go_grown⟩
theorem res7_c (op d1 d2 d3 : Int) (w : World) (h1 : 0 ≤ d1) (h1' : d1 < 4294967296) (h2 : 0 ≤ d2) (h2' : d2 < 4294967296) (h3 : 0 ≤ d3) (h3' : d3 < 4294967296) :
    Calls Try.prog 99 #[.agg #[.int .u32 op, .int .u32 d1, .int .u32 d2, .int .u32 d3]] w fun e w' => e = .returned (.tuple #[.int .u32 (sumR d1 d2 (d3 % 2)), .bool (sumC d1 d2 (d3 % 2)), .bool (sumV d1 d2 (d3 % 2))]) ∧ New w w' := by
  have hm := and_1 d3 h3 h3'
  go_enter Try.func99, Try.ntmps99
  go_wp2_with (go_at_call 88; refine (sum_c _ _ _ _ (by omega) (by omega) (by omega) (by omega) (by omega) (by omega)).mono ?_; rintro e w' ⟨rfl, rfl⟩)
  go_ret3
  exact ⟨rfl, by go_grown⟩
theorem res8_c (op d1 d2 d3 : Int) (w : World) (h1 : 0 ≤ d1) (h1' : d1 < 4294967296) (h2 : 0 ≤ d2) (h2' : d2 < 4294967296) (h3 : 0 ≤ d3) (h3' : d3 < 4294967296) :
    Calls Try.prog 100 #[.agg #[.int .u32 op, .int .u32 d1, .int .u32 d2, .int .u32 d3]] w fun e w' => e = .returned (.tuple #[.int .u32 (difR d1 d2 (d3 % 2)), .bool (difC d1 d2 (d3 % 2)), .bool (difV d1 d2 (d3 % 2))]) ∧ New w w' := by
  have hm := and_1 d3 h3 h3'
  go_enter Try.func100, Try.ntmps100
  go_wp2_with (go_at_call 90; refine (dif_c _ _ _ _ (by omega) (by omega) (by omega) (by omega) (by omega) (by omega)).mono ?_; rintro e w' ⟨rfl, rfl⟩)
  go_ret3
  exact ⟨rfl, by go_grown⟩
set_option maxHeartbeats 400000 in
theorem shifted_c (k : FuncId) (a n last r : Int) (w : World) (ha : 0 ≤ a) (ha' : a < 4294967296) (hn : 0 ≤ n) (hn' : n < 32) (hl : 0 ≤ last) (hl' : last < 4294967296)
    (hk : ∀ args w, (callFunc k args).run Try.prog w = .ok (.enter k args) w)
    (hby : ∀ w, Calls Try.prog k #[.int .u32 a, .int .u32 n] w fun e w' => e = .returned (.int .u32 r) ∧ w = w') :
    Calls Try.prog 93 #[.int .u32 a, .int .u32 n, .int .u32 last, .func (.func k) #[] #[]] w fun e w' => e = .returned (.tuple #[.int .u32 r, .bool (outB a n last), .bool false]) ∧ w = w' := by
  have HB := Lib.hid hby
  clear hby
  have hm := and_31 last hl hl'
  have h1 := and_1_div a ha ha'
  go_enter Try.func93, Try.ntmps93
  go_wp2_with fail
  refine (HB.out _).mono ?_
  rintro e w' ⟨rfl, rfl⟩
  go_wp2_with fail
  all_goals go_ret3
  all_goals refine ⟨congrArg (fun b => Ending.returned (.tuple #[.int .u32 r, .bool b, .bool false])) (?_ : _ = outB a n last), rfl⟩
  all_goals
    by_cases h0 : 0 < n
    all_goals first | (exfalso; omega) | simp [outB, h0]

theorem res4_c (op d1 d2 d3 : Int) (w : World) (h1 : 0 ≤ d1) (h1' : d1 < 4294967296) (h2 : 0 ≤ d2) (h2' : d2 < 4294967296) :
    Calls Try.prog 92 #[.agg #[.int .u32 op, .int .u32 d1, .int .u32 d2, .int .u32 d3]] w fun e w' => e = .returned (.tuple #[.int .u32 (shlR d1 (d2 % 32)), .bool (outB d1 (d2 % 32) (32 - d2 % 32)), .bool false]) ∧ New w w' := by
  go_enter Try.func92, Try.ntmps92
  go_wp2_with (go_at_call 93; refine (shifted_c 94 d1 _ _ (shlR d1 (d2 % 32)) _ h1 h1' (by omega) (by omega) (by omega) (by omega) Try.call94 (fun w => sh4_c d1 _ w h1 h1' (by omega) (by omega))).mono ?_; rintro e w' ⟨rfl, rfl⟩)
  go_ret3
  exact ⟨rfl, by go_grown⟩
theorem res5_c (op d1 d2 d3 : Int) (w : World) (h1 : 0 ≤ d1) (h1' : d1 < 4294967296) (h2 : 0 ≤ d2) (h2' : d2 < 4294967296) :
    Calls Try.prog 95 #[.agg #[.int .u32 op, .int .u32 d1, .int .u32 d2, .int .u32 d3]] w fun e w' => e = .returned (.tuple #[.int .u32 (shrR d1 (d2 % 32)), .bool (outB d1 (d2 % 32) ((d2 % 32 - 1) % 4294967296)), .bool false]) ∧ New w w' := by
  go_enter Try.func95, Try.ntmps95
  go_wp2_with (go_at_call 93; refine (shifted_c 96 d1 _ _ (shrR d1 (d2 % 32)) _ h1 h1' (by omega) (by omega) (by omega) (by omega) Try.call96 (fun w => sh5_c d1 _ w h1 h1' (by omega) (by omega))).mono ?_; rintro e w' ⟨rfl, rfl⟩)
  go_ret3
  exact ⟨rfl, by go_grown⟩
theorem res6_c (op d1 d2 d3 : Int) (w : World) (h1 : 0 ≤ d1) (h1' : d1 < 4294967296) (h2 : 0 ≤ d2) (h2' : d2 < 4294967296) :
    Calls Try.prog 97 #[.agg #[.int .u32 op, .int .u32 d1, .int .u32 d2, .int .u32 d3]] w fun e w' => e = .returned (.tuple #[.int .u32 (sarR d1 (d2 % 32)), .bool (outB d1 (d2 % 32) ((d2 % 32 - 1) % 4294967296)), .bool false]) ∧ New w w' := by
  go_enter Try.func97, Try.ntmps97
  go_wp2_with (go_at_call 93; refine (shifted_c 98 d1 _ _ (sarR d1 (d2 % 32)) _ h1 h1' (by omega) (by omega) (by omega) (by omega) Try.call98 (fun w => sh6_c d1 _ w h1 h1' (by omega) (by omega))).mono ?_; rintro e w' ⟨rfl, rfl⟩)
  go_ret3
  exact ⟨rfl, by go_grown⟩
end Go.Proofs.Ytmkjgkldbonpnaa
/- The contract of thunk.Flags. -/
namespace Go.Proofs.Ytmkjgkldbonpnaa
open Go Go.RowKit Go.Cd
set_option linter.unusedVariables false

/-- Four flags as a number. -/
def flagNum (z n c v : Bool) : Int := (if z then 1 else 0) + (if n then 2 else 0) + (if c then 4 else 0) + (if v then 8 else 0)

attribute [local go_sem ↓] Go.wp_at_zero Go.wp_at_succ
set_option maxRecDepth 100000 in
set_option maxHeartbeats 4000000 in
theorem flags_gen (k : FuncId) (op d1 d2 d3 r : Int) (z n c v : Bool) (w : World) (ho : 1 ≤ op) (ho' : op ≤ 8) (h1 : 0 ≤ d1) (h1' : d1 < 4294967296) (h2 : 0 ≤ d2) (h2' : d2 < 4294967296) (hr : 0 ≤ r) (hr' : r < 4294967296)
    (hz : (r == 0) = z) (hn : (r / 2147483648 == 1) = n)
    (hi : ∀ w, (Instr.index 120 (.agg #[.nilFunc, .func (.func 87) #[] #[], .func (.func 89) #[] #[], .func (.func 91) #[] #[], .func (.func 92) #[] #[], .func (.func 95) #[] #[], .func (.func 97) #[] #[], .func (.func 99) #[] #[], .func (.func 100) #[] #[]]) (.int .u32 op)).run Try.prog w = .ok (.func (.func k) #[] #[]) w)
    (hk : ∀ args w, (callFunc k args).run Try.prog w = .ok (.enter k args) w)
    (hres : ∀ w, Calls Try.prog k #[.agg #[.int .u32 op, .int .u32 d1, .int .u32 d2, .int .u32 d3]] w fun e w' => e = .returned (.tuple #[.int .u32 r, .bool c, .bool v]) ∧ New w w') :
    Calls Try.prog 48 #[.agg #[.int .u32 op, .int .u32 d1, .int .u32 d2, .int .u32 d3]] w fun e w' => e = .returned (.int .i64 (flagNum z n c v)) ∧ New w w' := by
  have HR := Lib.hid hres
  clear hres
  have hne : (op == 0) = false := beq_eq_false_iff_ne.2 (by omega)
  have hng : ¬ 8 < op := by omega
  go_enter Try.func48, Try.ntmps48
  go_wp2_with fail
  go_region_held3 (fun w' => w'.cell? ⟨w.heap.size, 0, none⟩ = some (.int .u32 op) ∧ w'.cell? ⟨w.heap.size, 1, none⟩ = some (.int .u32 d1) ∧ w'.cell? ⟨w.heap.size, 2, none⟩ = some (.int .u32 d2) ∧ w'.cell? ⟨w.heap.size, 3, none⟩ = some (.int .u32 d3) ∧ w.heap.size < w'.heap.size ∧ New w w') (((try dsimp only); (repeat' apply And.intro) <;> (first | go_keep | omega | go_grown)))
    (first | (go_at_call 78; refine (results_c _).mono ?_; rintro e w1 ⟨rfl, hb1⟩; obtain ⟨hc1, hf1⟩ := bcell hb1; have hz1 := hb1.size; (try simp at hz1); have hn1 : New w w1 := Below.trans (by go_grown) (hb1.mono (by simp))) | (refine (HR.out _).mono ?_; rintro e w2 ⟨rfl, hb2⟩; obtain ⟨hc2, hf2⟩ := bcell hb2; have hz2 := hb2.size; (try simp at hz2); have hn2 : New w w2 := Below.trans hn1 (hb2.mono (by omega))))
  have hn2 : New w w2 := by assumption
  clear HR hi hk
  cases z <;> cases n <;> cases c <;> cases v
  all_goals
    go_wp2_with fail
    go_rounds 5
    go_ret
    exact ⟨ret_int (by decide), by clear hc1 hf1 hc2 hf2; go_grown⟩

end Go.Proofs.Ytmkjgkldbonpnaa
/- The contract of thunk.Flags, for all thunks. -/
namespace Go.Proofs.Ytmkjgkldbonpnaa
open Go Go.RowKit Go.Cd
set_option linter.unusedVariables false

/-- Result, carry and overflow of a thunk operation from 1 to 8. -/
def thunkR (op d1 d2 d3 : Int) : Int :=
  if op = 1 then sumR d1 d2 0 else if op = 2 then difR d1 d2 0 else if op = 3 then d1 else if op = 4 then shlR d1 (d2 % 32)
  else if op = 5 then shrR d1 (d2 % 32) else if op = 6 then sarR d1 (d2 % 32) else if op = 7 then sumR d1 d2 (d3 % 2) else difR d1 d2 (d3 % 2)
def thunkC (op d1 d2 d3 : Int) : Bool :=
  if op = 1 then sumC d1 d2 0 else if op = 2 then difC d1 d2 0 else if op = 3 then false else if op = 4 then outB d1 (d2 % 32) (32 - d2 % 32)
  else if op = 5 then outB d1 (d2 % 32) ((d2 % 32 - 1) % 4294967296) else if op = 6 then outB d1 (d2 % 32) ((d2 % 32 - 1) % 4294967296) else if op = 7 then sumC d1 d2 (d3 % 2) else difC d1 d2 (d3 % 2)
def thunkV (op d1 d2 d3 : Int) : Bool :=
  if op = 1 then sumV d1 d2 0 else if op = 2 then difV d1 d2 0 else if op = 3 then false else if op = 4 then false
  else if op = 5 then false else if op = 6 then false else if op = 7 then sumV d1 d2 (d3 % 2) else difV d1 d2 (d3 % 2)
/-- The flags of a thunk. -/
def flagsF (op d1 d2 d3 : Int) : Int :=
  if 8 < op then 0 else if op = 0 then d1 % 16
  else flagNum (thunkR op d1 d2 d3 == 0) (thunkR op d1 d2 d3 / 2147483648 == 1) (thunkC op d1 d2 d3) (thunkV op d1 d2 d3)

theorem flags_0 (op d1 d2 d3 : Int) (w : World) (ho : 0 ≤ op) (ho' : op < 4294967296) (h1 : 0 ≤ d1) (h1' : d1 < 4294967296) (hop : 8 < op) :
    Calls Try.prog 48 #[.agg #[.int .u32 op, .int .u32 d1, .int .u32 d2, .int .u32 d3]] w fun e w' => e = .returned (.int .i64 0) ∧ New w w' := by
  go_enter Try.func48, Try.ntmps48
  go_wp2
  go_ret
  exact ⟨rfl, by go_grown⟩
theorem flags_00 (d1 d2 d3 : Int) (w : World) (h1 : 0 ≤ d1) (h1' : d1 < 4294967296) :
    Calls Try.prog 48 #[.agg #[.int .u32 0, .int .u32 d1, .int .u32 d2, .int .u32 d3]] w fun e w' => e = .returned (.int .i64 (d1 % 16)) ∧ New w w' := by
  have hm := and_15 d1 h1 h1'
  go_enter Try.func48, Try.ntmps48
  go_wp2
  go_ret
  exact ⟨rfl, by go_grown⟩

theorem pow_pos' (k : Nat) : (0 : Int) < 2 ^ k := Int.pow_pos (by decide)
theorem thunkR_bd (op d1 d2 d3 : Int) (h1 : 0 ≤ d1) (h1' : d1 < 4294967296) : 0 ≤ thunkR op d1 d2 d3 ∧ thunkR op d1 d2 d3 < 4294967296 := by
  have h5 : 0 ≤ shrR d1 (d2 % 32) ∧ shrR d1 (d2 % 32) < 4294967296 := ⟨Int.ediv_nonneg h1 (Int.le_of_lt (pow_pos' _)), Int.lt_of_le_of_lt (Int.ediv_le_self _ h1) h1'⟩
  unfold thunkR
  repeat' split
  all_goals first | exact h5 | (unfold sumR; omega) | (unfold difR; omega) | (unfold shlR; omega) | (unfold sarR; omega) | omega
theorem flags_c (op d1 d2 d3 : Int) (w : World) (ho : 0 ≤ op) (ho' : op < 4294967296) (h1 : 0 ≤ d1) (h1' : d1 < 4294967296) (h2 : 0 ≤ d2) (h2' : d2 < 4294967296) (h3 : 0 ≤ d3) (h3' : d3 < 4294967296) :
    Calls Try.prog 48 #[.agg #[.int .u32 op, .int .u32 d1, .int .u32 d2, .int .u32 d3]] w fun e w' => e = .returned (.int .i64 (flagsF op d1 d2 d3)) ∧ New w w' := by
  by_cases h8 : 8 < op
  · have e : flagsF op d1 d2 d3 = 0 := by unfold flagsF; rw [if_pos h8]
    rw [e]; exact flags_0 op d1 d2 d3 w ho ho' h1 h1' h8
  · have hcase : op = 0 ∨ op = 1 ∨ op = 2 ∨ op = 3 ∨ op = 4 ∨ op = 5 ∨ op = 6 ∨ op = 7 ∨ op = 8 := by omega
    rcases hcase with rfl | rfl | rfl | rfl | rfl | rfl | rfl | rfl | rfl
    · exact flags_00 d1 d2 d3 w h1 h1'
    · exact flags_gen 87 1 d1 d2 d3 (thunkR 1 d1 d2 d3) _ _ (thunkC 1 d1 d2 d3) (thunkV 1 d1 d2 d3) w (by decide) (by decide) h1 h1' h2 h2' (thunkR_bd 1 d1 d2 d3 h1 h1').1 (thunkR_bd 1 d1 d2 d3 h1 h1').2 rfl rfl (fun _ => by kernel_rfl) Try.call87 (fun w => res1_c 1 d1 d2 d3 w h1 h1' h2 h2')
    · exact flags_gen 89 2 d1 d2 d3 (thunkR 2 d1 d2 d3) _ _ (thunkC 2 d1 d2 d3) (thunkV 2 d1 d2 d3) w (by decide) (by decide) h1 h1' h2 h2' (thunkR_bd 2 d1 d2 d3 h1 h1').1 (thunkR_bd 2 d1 d2 d3 h1 h1').2 rfl rfl (fun _ => by kernel_rfl) Try.call89 (fun w => res2_c 2 d1 d2 d3 w h1 h1' h2 h2')
    · exact flags_gen 91 3 d1 d2 d3 (thunkR 3 d1 d2 d3) _ _ (thunkC 3 d1 d2 d3) (thunkV 3 d1 d2 d3) w (by decide) (by decide) h1 h1' h2 h2' (thunkR_bd 3 d1 d2 d3 h1 h1').1 (thunkR_bd 3 d1 d2 d3 h1 h1').2 rfl rfl (fun _ => by kernel_rfl) Try.call91 (fun w => res3_c 3 d1 d2 d3 w )
    · exact flags_gen 92 4 d1 d2 d3 (thunkR 4 d1 d2 d3) _ _ (thunkC 4 d1 d2 d3) (thunkV 4 d1 d2 d3) w (by decide) (by decide) h1 h1' h2 h2' (thunkR_bd 4 d1 d2 d3 h1 h1').1 (thunkR_bd 4 d1 d2 d3 h1 h1').2 rfl rfl (fun _ => by kernel_rfl) Try.call92 (fun w => res4_c 4 d1 d2 d3 w h1 h1' h2 h2')
    · exact flags_gen 95 5 d1 d2 d3 (thunkR 5 d1 d2 d3) _ _ (thunkC 5 d1 d2 d3) (thunkV 5 d1 d2 d3) w (by decide) (by decide) h1 h1' h2 h2' (thunkR_bd 5 d1 d2 d3 h1 h1').1 (thunkR_bd 5 d1 d2 d3 h1 h1').2 rfl rfl (fun _ => by kernel_rfl) Try.call95 (fun w => res5_c 5 d1 d2 d3 w h1 h1' h2 h2')
    · exact flags_gen 97 6 d1 d2 d3 (thunkR 6 d1 d2 d3) _ _ (thunkC 6 d1 d2 d3) (thunkV 6 d1 d2 d3) w (by decide) (by decide) h1 h1' h2 h2' (thunkR_bd 6 d1 d2 d3 h1 h1').1 (thunkR_bd 6 d1 d2 d3 h1 h1').2 rfl rfl (fun _ => by kernel_rfl) Try.call97 (fun w => res6_c 6 d1 d2 d3 w h1 h1' h2 h2')
    · exact flags_gen 99 7 d1 d2 d3 (thunkR 7 d1 d2 d3) _ _ (thunkC 7 d1 d2 d3) (thunkV 7 d1 d2 d3) w (by decide) (by decide) h1 h1' h2 h2' (thunkR_bd 7 d1 d2 d3 h1 h1').1 (thunkR_bd 7 d1 d2 d3 h1 h1').2 rfl rfl (fun _ => by kernel_rfl) Try.call99 (fun w => res7_c 7 d1 d2 d3 w h1 h1' h2 h2' h3 h3')
    · exact flags_gen 100 8 d1 d2 d3 (thunkR 8 d1 d2 d3) _ _ (thunkC 8 d1 d2 d3) (thunkV 8 d1 d2 d3) w (by decide) (by decide) h1 h1' h2 h2' (thunkR_bd 8 d1 d2 d3 h1 h1').1 (thunkR_bd 8 d1 d2 d3 h1 h1').2 rfl rfl (fun _ => by kernel_rfl) Try.call100 (fun w => res8_c 8 d1 d2 d3 w h1 h1' h2 h2' h3 h3')
end Go.Proofs.Ytmkjgkldbonpnaa
/- Contracts of thunk's small functions. -/
namespace Go.Proofs.Ytmkjgkldbonpnaa
open Go Go.RowKit Go.Cd
set_option linter.unusedVariables false

/-- Is a number a condition? -/
def isCd (cd : Int) : Bool := decide (0 ≤ cd) && decide (cd ≤ 15)
theorem iscond_c (cd : Int) (w : World) :
    Calls Try.prog 55 #[.int .i64 cd] w fun e w' => e = .returned (.bool (isCd cd)) ∧ w = w' := by
  go_enter Try.func55, Try.ntmps55
  go_wp2
  all_goals go_ret
  all_goals refine ⟨ret_bool ?_, rfl⟩
  all_goals unfold isCd
  all_goals first | (simp_all; done) | (rw [eq_comm]; simp; omega)
theorem xor1 (cd : Int) (h0 : 0 ≤ cd) (h1 : cd ≤ 15) : bits .xor .i64 cd 1 = if cd % 2 = 0 then cd + 1 else cd - 1 := by
  have : cd = 0 ∨ cd = 1 ∨ cd = 2 ∨ cd = 3 ∨ cd = 4 ∨ cd = 5 ∨ cd = 6 ∨ cd = 7 ∨ cd = 8 ∨ cd = 9 ∨ cd = 10 ∨ cd = 11 ∨ cd = 12 ∨ cd = 13 ∨ cd = 14 ∨ cd = 15 := by omega
  rcases this with rfl | rfl | rfl | rfl | rfl | rfl | rfl | rfl | rfl | rfl | rfl | rfl | rfl | rfl | rfl | rfl <;> decide +kernel
def invF (cd : Int) : Int := if cd < 0 ∨ 15 < cd then -1 else if cd % 2 = 0 then cd + 1 else cd - 1
def usesI (i : Int) : Int := if i = 0 then 1 else if i = 1 then 4 else if i = 2 then 2 else if i = 3 then 8 else if i = 4 then 5 else if i = 5 then 10 else if i = 6 then 11 else 0
def usesF (cd : Int) : Int := if cd < 0 ∨ 15 < cd then 0 else usesI (cd / 2)
theorem inverse_c (cd : Int) (w : World) :
    Calls Try.prog 29 #[.int .i64 cd] w fun e w' => e = .returned (.int .i64 (invF cd)) ∧ w = w' := by
  by_cases h : cd < 0 ∨ 15 < cd
  · have e : isCd cd = false := by unfold isCd; simp; omega
    go_enter Try.func29, Try.ntmps29
    go_wp2_with (go_at_call 55; refine (iscond_c _ _).mono ?_; rw [e]; rintro e w1 ⟨rfl, rfl⟩)
    go_ret
    exact ⟨ret_int (by unfold invF; rw [if_pos h]), rfl⟩
  · have e : isCd cd = true := by unfold isCd; simp; omega
    go_enter Try.func29, Try.ntmps29
    go_wp2_with (go_at_call 55; refine (iscond_c _ _).mono ?_; rw [e]; rintro e w1 ⟨rfl, rfl⟩)
    go_ret
    refine ⟨ret_int ?_, rfl⟩
    unfold invF; rw [if_neg h]
    exact xor1 cd (by omega) (by omega)
theorem uses_ix (i : Int) (h0 : 0 ≤ i) (h1 : i < 8) (w : World) : (Instr.index 94 (.agg #[.int .i64 1, .int .i64 4, .int .i64 2, .int .i64 8, .int .i64 5, .int .i64 10, .int .i64 11, .int .i64 0]) (.int .i64 i)).run Try.prog w
    = .ok (.int .i64 (usesI i)) w := by
  have : i = 0 ∨ i = 1 ∨ i = 2 ∨ i = 3 ∨ i = 4 ∨ i = 5 ∨ i = 6 ∨ i = 7 := by omega
  rcases this with rfl | rfl | rfl | rfl | rfl | rfl | rfl | rfl <;> (show _ = _; kernel_rfl)
theorem uses_in (cd : Int) (w : World) (h : ¬ (cd < 0 ∨ 15 < cd)) (h0 : 0 ≤ cd) (e : isCd cd = true) (r : Int)
    (hr : ∀ w, (Instr.index 94 (.agg #[.int .i64 1, .int .i64 4, .int .i64 2, .int .i64 8, .int .i64 5, .int .i64 10, .int .i64 11, .int .i64 0]) (.int .i64 (cd / 2))).run Try.prog w = .ok (.int .i64 r) w) :
    Calls Try.prog 31 #[.int .i64 cd] w fun e w' => e = .returned (.int .i64 r) ∧ New w w' := by
  go_enter Try.func31, Try.ntmps31
  go_wp2_with (go_at_call 55; refine (iscond_c _ _).mono ?_; rw [e]; rintro e w1 ⟨rfl, rfl⟩)
  go_ret
  exact ⟨rfl, by go_grown⟩
theorem uses_c (cd : Int) (w : World) :
    Calls Try.prog 31 #[.int .i64 cd] w fun e w' => e = .returned (.int .i64 (usesF cd)) ∧ New w w' := by
  by_cases h : cd < 0 ∨ 15 < cd
  · have e : isCd cd = false := by unfold isCd; simp; omega
    go_enter Try.func31, Try.ntmps31
    go_wp2_with (go_at_call 55; refine (iscond_c _ _).mono ?_; rw [e]; rintro e w1 ⟨rfl, rfl⟩)
    go_ret
    exact ⟨ret_int (by unfold usesF; rw [if_pos h]), by go_grown⟩
  · have e : isCd cd = true := by unfold isCd; simp; omega
    have h2 := uses_ix (cd / 2) (by omega) (by omega)
    have e2 : usesF cd = usesI (cd / 2) := by unfold usesF; rw [if_neg h]
    rw [e2]
    exact uses_in cd w h (by omega) e _ h2
def fixedF (op : Int) : Int := if op = 3 then 12 else if op = 4 ∨ op = 5 ∨ op = 6 then 8 else if 8 < op then 15 else 0
theorem fixed_c (op : Int) (w : World) :
    Calls Try.prog 23 #[.int .u32 op] w fun e w' => e = .returned (.tuple #[.int .i64 (fixedF op), .int .i64 0]) ∧ w = w' := by
  go_enter Try.func23, Try.ntmps23
  go_wp2
  all_goals go_ret2
  all_goals refine ⟨congrArg (fun b => Ending.returned (.tuple #[.int .i64 b, .int .i64 0])) (?_ : _ = fixedF op), rfl⟩
  all_goals simp only [beq_iff_eq, beq_eq_false_iff_ne] at *
  all_goals unfold fixedF
  all_goals repeat' split
  all_goals omega
def condF (cd op d1 d2 d3 : Int) : Bool := holdsF cd (flagsF op d1 d2 d3)
theorem tflags_c (op d1 d2 d3 : Int) (w : World) (ho : 0 ≤ op) (ho' : op < 4294967296) (h1 : 0 ≤ d1) (h1' : d1 < 4294967296) (h2 : 0 ≤ d2) (h2' : d2 < 4294967296) (h3 : 0 ≤ d3) (h3' : d3 < 4294967296) :
    Calls Try.prog 19 #[.int .u32 op, .int .u32 d1, .int .u32 d2, .int .u32 d3] w fun e w' => e = .returned (.int .i64 (flagsF op d1 d2 d3)) ∧ New w w' := by
  go_enter Try.func19, Try.ntmps19
  go_wp2_with (go_at_call 48; refine (flags_c _ _ _ _ _ ho ho' h1 h1' h2 h2' h3 h3').mono ?_; rintro e w1 ⟨rfl, hb⟩)
  go_ret
  exact ⟨rfl, hb⟩
theorem cond_c (cd op d1 d2 d3 : Int) (w : World) (ho : 0 ≤ op) (ho' : op < 4294967296) (h1 : 0 ≤ d1) (h1' : d1 < 4294967296) (h2 : 0 ≤ d2) (h2' : d2 < 4294967296) (h3 : 0 ≤ d3) (h3' : d3 < 4294967296) :
    Calls Try.prog 16 #[.int .i64 cd, .int .u32 op, .int .u32 d1, .int .u32 d2, .int .u32 d3] w fun e w' => e = .returned (.bool (condF cd op d1 d2 d3)) ∧ New w w' := by
  go_enter Try.func16, Try.ntmps16
  go_wp2_with (first | (go_at_call 19; refine (tflags_c _ _ _ _ _ ho ho' h1 h1' h2 h2' h3 h3').mono ?_; rintro e w1 ⟨rfl, hb⟩) | (go_at_call 26; refine (tholds_c _ _ _).mono ?_; rintro e w2 ⟨rfl, hb2⟩))
  go_ret
  exact ⟨rfl, hb.trans (hb2.mono hb.size)⟩
end Go.Proofs.Ytmkjgkldbonpnaa
/- Contracts of the specification's functions: result, signed, bit, Holds, Inverse, Uses, Fixed. -/
namespace Go.Proofs.Ytmkjgkldbonpnaa
open Go Go.RowKit Go.Cd
set_option linter.unusedVariables false

theorem rbit_c (x n : Int) (w : World) (h0 : 0 ≤ x) (h1 : x < 4294967296) (hn : 0 ≤ n) (hn' : n < 32) :
    Calls Try.prog 53 #[.int .u32 x, .int .u32 n] w fun e w' => e = .returned (.bool (x / 2 ^ n.toNat % 2 == 1)) ∧ w = w' := by
  have h1 := and_1_div x h0 h1
  go_enter Try.func53, Try.ntmps53
  go_wp2
  go_ret
  exact ⟨rfl, rfl⟩
theorem rsigned_c (x : Int) (w : World) (h0 : 0 ≤ x) (h1 : x < 4294967296) :
    Calls Try.prog 52 #[.int .u32 x] w fun e w' => e = .returned (.int .i64 (sg x)) ∧ w = w' := by
  go_enter Try.func52, Try.ntmps52
  go_wp2
  all_goals go_ret
  all_goals exact ⟨ret_int (by unfold sg; split <;> omega), rfl⟩
set_option maxHeartbeats 1000000 in
theorem rresult_c (r : Int) (c v : Bool) (w : World) (h0 : 0 ≤ r) (h1 : r < 4294967296) :
    Calls Try.prog 51 #[.int .u32 r, .bool c, .bool v] w fun e w' => e = .returned (.int .i64 (flagNum (r == 0) (r / 2147483648 == 1) c v)) ∧ w = w' := by
  by_cases hz : r = 0
  · subst hz
    cases c <;> cases v
    all_goals
      go_enter Try.func51, Try.ntmps51
      go_wp2
      go_ret
      exact ⟨ret_int (by decide), rfl⟩
  · have hz' : (r == 0) = false := beq_eq_false_iff_ne.2 hz
    by_cases hn : 2147483648 ≤ r
    · have hn' : (r / 2147483648 == 1) = true := beq_iff_eq.2 (by omega)
      rw [hn', hz']
      cases c <;> cases v
      all_goals
        go_enter Try.func51, Try.ntmps51
        go_wp2
        go_ret
        exact ⟨ret_int (by decide), rfl⟩
    · have hn' : (r / 2147483648 == 1) = false := beq_eq_false_iff_ne.2 (by omega)
      rw [hn', hz']
      cases c <;> cases v
      all_goals
        go_enter Try.func51, Try.ntmps51
        go_wp2
        go_ret
        exact ⟨ret_int (by decide), rfl⟩
set_option maxHeartbeats 1000000 in
theorem rholds_c (cd flags : Int) (w : World) :
    Calls Try.prog 27 #[.int .i64 cd, .int .i64 flags] w fun e w' => e = .returned (.bool (holdsF cd flags)) ∧ w = w' := by
  go_enter Try.func27, Try.ntmps27
  go_wp2
  all_goals go_ret
  all_goals refine ⟨ret_bool ?_, rfl⟩
  all_goals simp only [beq_iff_eq, beq_eq_false_iff_ne] at *
  all_goals first
    | (subst_vars; simp_all [holdsF, holdsZ, isAt, hasB]; done)
    | (by_cases h14 : cd = 14
       · subst h14; simp [holdsF, holdsZ, isAt]
       · by_cases h15 : cd = 15
         · subst h15; simp [holdsF, holdsZ, isAt]
         · have ho : cd < 0 ∨ 15 < cd := by omega
           unfold holdsF; rw [if_pos ho]; simpa using h14)
    | (subst_vars; cases q2 : (bits .and .i64 flags 2 != 0) <;> cases q8 : (bits .and .i64 flags 8 != 0) <;> simp_all [holdsF, holdsZ, isAt, hasB] <;> (rw [Bool.eq_iff_iff]; simp_all); done)
theorem rinverse_c (cd : Int) (w : World) :
    Calls Try.prog 30 #[.int .i64 cd] w fun e w' => e = .returned (.int .i64 (invF cd)) ∧ w = w' := by
  by_cases h : cd < 0 ∨ 15 < cd
  · have e : invF cd = -1 := by unfold invF; rw [if_pos h]
    rw [e]
    go_enter Try.func30, Try.ntmps30
    go_wp2
    all_goals first | (exfalso; omega) | (go_ret; exact ⟨rfl, rfl⟩)
  · have h1 : ¬ cd < 0 := by omega
    have h2 : ¬ 15 < cd := by omega
    have h3 : 0 ≤ cd := by omega
    by_cases hm : cd % 2 = 0
    · have e : invF cd = cd + 1 := by unfold invF; rw [if_neg h, if_pos hm]
      rw [e]
      have hm' : (cd % 2 == 0) = true := beq_iff_eq.2 hm
      go_enter Try.func30, Try.ntmps30
      go_wp2
      go_ret
      exact ⟨rfl, rfl⟩
    · have e : invF cd = cd - 1 := by unfold invF; rw [if_neg h, if_neg hm]
      rw [e]
      have hm' : (cd % 2 == 0) = false := beq_eq_false_iff_ne.2 hm
      go_enter Try.func30, Try.ntmps30
      go_wp2
      go_ret
      exact ⟨rfl, rfl⟩
set_option maxHeartbeats 1000000 in
theorem ruses_c (cd : Int) (w : World) :
    Calls Try.prog 32 #[.int .i64 cd] w fun e w' => e = .returned (.int .i64 (usesF cd)) ∧ w = w' := by
  go_enter Try.func32, Try.ntmps32
  go_wp2
  all_goals go_ret
  all_goals refine ⟨ret_int ?_, rfl⟩
  all_goals simp only [beq_iff_eq, beq_eq_false_iff_ne] at *
  all_goals unfold usesF usesI
  all_goals repeat' split
  all_goals omega
set_option maxHeartbeats 1000000 in
theorem rfixed_c (op : Int) (w : World) :
    Calls Try.prog 24 #[.int .u32 op] w fun e w' => e = .returned (.tuple #[.int .i64 (fixedF op), .int .i64 0]) ∧ w = w' := by
  go_enter Try.func24, Try.ntmps24
  go_wp2
  all_goals go_ret2
  all_goals refine ⟨congrArg (fun b => Ending.returned (.tuple #[.int .i64 b, .int .i64 0])) (?_ : _ = fixedF op), rfl⟩
  all_goals simp only [beq_iff_eq, beq_eq_false_iff_ne] at *
  all_goals unfold fixedF
  all_goals repeat' split
  all_goals omega
end Go.Proofs.Ytmkjgkldbonpnaa
