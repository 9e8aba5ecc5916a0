/- Parts of the proof: WCopied. -/
import Derived.Test.YtmkjgkldbonpnaaZ4
/- The simplifier's copied: conditions of flags that stand in a word. -/
namespace Go.Proofs.Ytmkjgkldbonpnaa
open Go Go.RowKit Go.Cd
set_option linter.unusedVariables false

/-- The simplifier's memory and the box of an atom, on the way. -/
structure CopS (w0 : World) (lo bs : Nat) (v0 : Value) (tmp : Int) (es : List IExpr) (r : Nat) (x : Atom) (w : World) : Prop where
  ex : ∃ v, SimR w lo bs v tmp es r ∧ Kp bs v0.ownBlock w0 w ∧ ∀ g, v.ownBlock = some g → v0.ownBlock = some g ∨ w0.heap.size ≤ g
  box : w.heap[r]? = some (.cells #[.int .i64 x.tmp, .int .i64 x.ty, .int .u32 x.c0, .int .u32 x.c1, .int .u32 x.c2, .int .u32 x.c3] 59)
  new : w0.heap.size ≤ r
theorem CopS.new' {w0 : World} {lo bs : Nat} {v0 : Value} {tmp : Int} {es : List IExpr} {r : Nat} {x : Atom} {w w' : World} (h : CopS w0 lo bs v0 tmp es r x w) (hb : New w w') : CopS w0 lo bs v0 tmp es r x w' := by
  obtain ⟨⟨v, h1, h2, h3⟩, hb', hn⟩ := h
  exact ⟨⟨v, h1.new hb, h2.new hb, h3⟩, (hb.block r h1.lt).trans hb', hn⟩
theorem CopS.cells {w0 : World} {lo bs : Nat} {v0 : Value} {tmp : Int} {es : List IExpr} {r : Nat} {x : Atom} {w : World} (h : CopS w0 lo bs v0 tmp es r x w) :
    w.cell? ⟨r, 0, none⟩ = some (.int .i64 x.tmp) ∧ w.cell? ⟨r, 1, none⟩ = some (.int .i64 x.ty) ∧ w.cell? ⟨r, 2, none⟩ = some (.int .u32 x.c0) ∧ w.cell? ⟨r, 3, none⟩ = some (.int .u32 x.c1) ∧ w.cell? ⟨r, 4, none⟩ = some (.int .u32 x.c2) ∧ w.cell? ⟨r, 5, none⟩ = some (.int .u32 x.c3) ∧ r < w.heap.size :=
  ⟨cell_of_heap h.box rfl, cell_of_heap h.box rfl, cell_of_heap h.box rfl, cell_of_heap h.box rfl, cell_of_heap h.box rfl, cell_of_heap h.box rfl, lt_of_heap h.box⟩
theorem CopS.post {w0 : World} {lo bs : Nat} {v0 : Value} {tmp : Int} {es : List IExpr} {r : Nat} {x : Atom} {w : World} (h : CopS w0 lo bs v0 tmp es r x w) (ret : Value) : SimPost lo bs v0 tmp es ret w0 (.returned ret) w := by
  obtain ⟨⟨v, h1, h2, h3⟩, _, _⟩ := h
  exact ⟨v, rfl, h1.toE, h2, h3⟩
/-- What bin leaves, and the box is as it was. -/
theorem bin_cop (w0 : World) (lo bs : Nat) (v0 : Value) (tmp : Int) (es : List IExpr) (r : Nat) (z : Atom) (op : Int) (x y : Atom) (w : World) (hs : CopS w0 lo bs v0 tmp es r z w) (hl : ∀ g, v0.ownBlock = some g → g < w0.heap.size) (hn : es.length ≤ 1000) (ht0 : 0 ≤ tmp) (ht1 : tmp ≤ 10000) :
    Calls Try.prog 74 #[.pointer (some ⟨bs, 0, none⟩), .int .i64 op, x.val, y.val] w fun e w' => e = .returned (tmpA (tmp + es.length)).val ∧ CopS w0 lo bs v0 tmp (es ++ [⟨4, binTy op, op, 0, [x, y]⟩]) r z w' := by
  obtain ⟨⟨v, h1, h2, h3⟩, hb, hn0⟩ := hs
  refine (bin_r lo bs v tmp es r op x y w h1 hn ht0 ht1).mono ?_
  rintro e w1 ⟨v1, rfl, hs1, hk1, hg1⟩
  refine ⟨rfl, ⟨v1, hs1, ?_, fun g hg => ?_⟩, (hk1.block r h1.lt h1.ne (fun q => h1.row q.symm)).trans hb, hn0⟩
  · exact ⟨hk1.os.trans h2.os, hk1.tape.trans h2.tape, hk1.output.trans h2.output, Nat.le_trans h2.size hk1.size, fun k k1 k2 k3 => (hk1.block k (Nat.lt_of_lt_of_le k1 h2.size) k2 (row_ne h3 k k1 k3)).trans (h2.block k k1 k2 k3)⟩
  · rcases hg1 g hg with h | h
    · exact h3 g h
    · exact .inr (Nat.le_trans h2.size h)
/-- The box is filled anew. -/
theorem CopS.set {w0 : World} {lo bs : Nat} {v0 : Value} {tmp : Int} {es : List IExpr} {r : Nat} {x : Atom} {w : World} (h : CopS w0 lo bs v0 tmp es r x w) (hbs : bs < w0.heap.size) (y : Atom) :
    CopS w0 lo bs v0 tmp es r y ((((((w.setCell ⟨r, 0, none⟩ (.int .i64 y.tmp)).setCell ⟨r, 1, none⟩ (.int .i64 y.ty)).setCell ⟨r, 2, none⟩ (.int .u32 y.c0)).setCell ⟨r, 3, none⟩ (.int .u32 y.c1)).setCell ⟨r, 4, none⟩ (.int .u32 y.c2)).setCell ⟨r, 5, none⟩ (.int .u32 y.c3)) := by
  obtain ⟨⟨v, h1, h2, h3⟩, hb, hn0⟩ := h
  obtain ⟨HO, HR⟩ := set6 w r (.int .i64 y.tmp) (.int .i64 y.ty) (.int .u32 y.c0) (.int .u32 y.c1) (.int .u32 y.c2) (.int .u32 y.c3) _ _ _ _ _ _ _ hb
  exact ⟨⟨v, h1.only HO, h2.sets HO hn0, h3⟩, HR, hn0⟩
theorem CopS.drew {w0 : World} {lo bs : Nat} {v0 : Value} {tmp : Int} {es : List IExpr} {r : Nat} {x : Atom} {w : World} (h : CopS w0 lo bs v0 tmp es r x w) : CopS w0 lo bs v0 tmp es r x w.drew := h.new' ((New.refl w).drew)
attribute [local go_sem ↓] Go.wp_at_zero Go.wp_at_succ
set_option maxRecDepth 100000 in
set_option maxHeartbeats 4000000 in
theorem copied_0 (lo bs : Nat) (v : Value) (tmp : Int) (es : List IExpr) (x0 x1 x2 x3 x4 x5 : Int) (w : World) (hs : SimE w lo bs v tmp es) (hn : es.length ≤ 900) (ht0 : 0 ≤ tmp) (ht1 : tmp ≤ 9000) :
    Calls Try.prog 72 #[.pointer (some ⟨bs, 0, none⟩), .int .i64 0, .agg #[.int .i64 x0, .int .i64 x1, .int .u32 x2, .int .u32 x3, .int .u32 x4, .int .u32 x5]] w (SimPost lo bs v tmp (es ++ [⟨4, 32, 8, 0, [⟨x0, x1, x2, x3, x4, x5⟩, wordA 1]⟩]) (.bool true) w) := by
  have HS := Lib.hid hs
  have HL := Lib.hid hs.lt
  clear hs
  have hmm := @run_makeMap Try.prog
  have m0 := fun (w : World) r hr => run_mapInsert (P := Try.prog) (T := 55) Try.underlying55 Try.underlying3 #[] 0 4 (.int .u32 1) w r hr rfl
  have m1 := fun (w : World) r hr => run_mapInsert (P := Try.prog) (T := 55) Try.underlying55 Try.underlying3 #[{ key := .int .i64 4, val := .int .u32 1, born := 0 }] 1 2 (.int .u32 2) w r hr rfl
  have m2 := fun (w : World) r hr => run_mapInsert (P := Try.prog) (T := 55) Try.underlying55 Try.underlying3 #[{ key := .int .i64 4, val := .int .u32 1, born := 0 }, { key := .int .i64 2, val := .int .u32 2, born := 1 }] 2 6 (.int .u32 3) w r hr rfl
  have hz : ∀ w, (zeroValue 29).run Try.prog w = .ok (.int .u32 0) w := fun w => by kernel_rfl
  have m3 := fun (w : World) r (hr : r = w.heap.size) => run_mapMiss (P := Try.prog) (T := 55) Try.underlying55 Try.underlying3 #[{ key := .int .i64 4, val := .int .u32 1, born := 0 }, { key := .int .i64 2, val := .int .u32 2, born := 1 }, { key := .int .i64 6, val := .int .u32 3, born := 2 }] 3 0 (.int .u32 0) (w.alloc (.map #[{ key := .int .i64 4, val := .int .u32 1, born := 0 }, { key := .int .i64 2, val := .int .u32 2, born := 1 }, { key := .int .i64 6, val := .int .u32 3, born := 2 }] 3)) r (heap_alloc_at _ _ _ hr) (hz _) rfl false
  clear hz
  have k1 : bits .andNot .i64 0 1 = 0 := by decide +kernel
  have k2 : bits .and .i64 0 1 = 0 := by decide +kernel
  go_enter Try.func72, Try.ntmps72
  go_upto_region 4 with (fail)
  have H0r : CopS w lo bs v tmp es w.heap.size ⟨x0, x1, x2, x3, x4, x5⟩ ((w.alloc (.cells #[.int .i64 x0, .int .i64 x1, .int .u32 x2, .int .u32 x3, .int .u32 x4, .int .u32 x5] 59)).alloc (.map #[{ key := .int .i64 4, val := .int .u32 1, born := 0 }, { key := .int .i64 2, val := .int .u32 2, born := 1 }, { key := .int .i64 6, val := .int .u32 3, born := 2 }] 3)) :=
    ⟨⟨v, (SimR.of HS.out (.cells #[.int .i64 x0, .int .i64 x1, .int .u32 x2, .int .u32 x3, .int .u32 x4, .int .u32 x5] 59) w.heap.size rfl).alloc _, ((Kp.refl _ _ w).alloc _).alloc _, fun g h => .inl h⟩, heap_keep (heap_alloc_at _ _ _ rfl), Nat.le_refl _⟩
  have H0 := Lib.hid H0r
  clear hmm m0 m1 m2 m3 H0r k1
  generalize (w.alloc (.cells #[.int .i64 x0, .int .i64 x1, .int .u32 x2, .int .u32 x3, .int .u32 x4, .int .u32 x5] 59)).alloc (.map #[{ key := .int .i64 4, val := .int .u32 1, born := 0 }, { key := .int .i64 2, val := .int .u32 2, born := 1 }, { key := .int .i64 6, val := .int .u32 3, born := 2 }] 3) = wA0 at *
  obtain ⟨r, hr⟩ : ∃ r, w.heap.size = r := ⟨_, rfl⟩
  have hr' : w.heap.size ≤ r := by omega
  rw [hr] at H0
  rw [hr]
  have HRR := Lib.hid hr
  clear hr
  go_upto_region 6 with (fail)
  go_cut [] (fun w' => CopS w lo bs v tmp (es ++ [⟨4, 32, 8, 0, [⟨x0, x1, x2, x3, x4, x5⟩, wordA 1]⟩]) r (tmpA (tmp + es.length)) w')
  case first =>
    obtain ⟨q0, q1, q2, q3, q4, q5, ql⟩ := H0.out.cells
    try unfold tmpA at q0 q1 q2 q3 q4 q5
    dsimp only at q0 q1 q2 q3 q4 q5
    go_region_with (first | (go_at_call 68; refine (tword_c 1 _).mono ?_; rintro e u1 ⟨rfl, hb1⟩; have hb1' : New wA0 u1 := (by first | exact hb1 | exact Below.trans ((New.refl wA0).drew) hb1); have G1 := Lib.hid (H0.out.new' hb1'); obtain ⟨p0, p1, p2, p3, p4, p5, pl⟩ := G1.out.cells; (try unfold tmpA at p0 p1 p2 p3 p4 p5); dsimp only at p0 p1 p2 p3 p4 p5; unfold wordA Atom.val; dsimp only; clear hb1 hb1') | (go_at_call 74; (refine (bin_cop w lo bs v tmp (es) r (⟨x0, x1, x2, x3, x4, x5⟩) 8 (⟨x0, x1, x2, x3, x4, x5⟩) (wordA 1) _ (by first | exact G1.out | exact G1.out.drew | exact G1.out.drew.drew) HL.out.2 (by first | omega | (simp; omega)) ht0 (by omega)).mono ?_); rintro e u2 ⟨rfl, hs2⟩; have G2 := Lib.hid hs2; obtain ⟨p0, p1, p2, p3, p4, p5, pl⟩ := G2.out.cells; have pf : ∀ i, u2.frozen? ⟨r, i, none⟩ = false := (fun i => frozen_of_heap G2.out.box); (try unfold tmpA at p0 p1 p2 p3 p4 p5); dsimp only at p0 p1 p2 p3 p4 p5; unfold tmpA Atom.val; dsimp only; clear hs2))
    all_goals
      go_wp2_with fail
      go_meet
      case rel =>
        have := G2.out.set HL.out.1 (tmpA (tmp + es.length))
        first | exact this | exact this.drew | exact this.drew.drew | (simpa [binTy, tmpA] using this.drew) | (simpa [binTy, tmpA] using this)
  case rest =>
  have H2 := Lib.hid hcut
  clear hcut
  go_wp2
  go_ret
  exact H2.out.post _
set_option maxRecDepth 100000 in
set_option maxHeartbeats 4000000 in
theorem copied_1 (lo bs : Nat) (v : Value) (tmp : Int) (es : List IExpr) (x0 x1 x2 x3 x4 x5 : Int) (w : World) (hs : SimE w lo bs v tmp es) (hn : es.length ≤ 900) (ht0 : 0 ≤ tmp) (ht1 : tmp ≤ 9000) :
    Calls Try.prog 72 #[.pointer (some ⟨bs, 0, none⟩), .int .i64 1, .agg #[.int .i64 x0, .int .i64 x1, .int .u32 x2, .int .u32 x3, .int .u32 x4, .int .u32 x5]] w (SimPost lo bs v tmp ((es ++ [⟨4, 32, 8, 0, [⟨x0, x1, x2, x3, x4, x5⟩, wordA 1]⟩]) ++ [⟨4, 32, 10, 0, [tmpA (tmp + es.length), wordA 1]⟩]) (.bool true) w) := by
  have HS := Lib.hid hs
  have HL := Lib.hid hs.lt
  clear hs
  have hmm := @run_makeMap Try.prog
  have m0 := fun (w : World) r hr => run_mapInsert (P := Try.prog) (T := 55) Try.underlying55 Try.underlying3 #[] 0 4 (.int .u32 1) w r hr rfl
  have m1 := fun (w : World) r hr => run_mapInsert (P := Try.prog) (T := 55) Try.underlying55 Try.underlying3 #[{ key := .int .i64 4, val := .int .u32 1, born := 0 }] 1 2 (.int .u32 2) w r hr rfl
  have m2 := fun (w : World) r hr => run_mapInsert (P := Try.prog) (T := 55) Try.underlying55 Try.underlying3 #[{ key := .int .i64 4, val := .int .u32 1, born := 0 }, { key := .int .i64 2, val := .int .u32 2, born := 1 }] 2 6 (.int .u32 3) w r hr rfl
  have hz : ∀ w, (zeroValue 29).run Try.prog w = .ok (.int .u32 0) w := fun w => by kernel_rfl
  have m3 := fun (w : World) r (hr : r = w.heap.size) => run_mapMiss (P := Try.prog) (T := 55) Try.underlying55 Try.underlying3 #[{ key := .int .i64 4, val := .int .u32 1, born := 0 }, { key := .int .i64 2, val := .int .u32 2, born := 1 }, { key := .int .i64 6, val := .int .u32 3, born := 2 }] 3 0 (.int .u32 0) (w.alloc (.map #[{ key := .int .i64 4, val := .int .u32 1, born := 0 }, { key := .int .i64 2, val := .int .u32 2, born := 1 }, { key := .int .i64 6, val := .int .u32 3, born := 2 }] 3)) r (heap_alloc_at _ _ _ hr) (hz _) rfl false
  clear hz
  have k1 : bits .andNot .i64 1 1 = 0 := by decide +kernel
  have k2 : bits .and .i64 1 1 = 1 := by decide +kernel
  go_enter Try.func72, Try.ntmps72
  go_upto_region 4 with (fail)
  have H0r : CopS w lo bs v tmp es w.heap.size ⟨x0, x1, x2, x3, x4, x5⟩ ((w.alloc (.cells #[.int .i64 x0, .int .i64 x1, .int .u32 x2, .int .u32 x3, .int .u32 x4, .int .u32 x5] 59)).alloc (.map #[{ key := .int .i64 4, val := .int .u32 1, born := 0 }, { key := .int .i64 2, val := .int .u32 2, born := 1 }, { key := .int .i64 6, val := .int .u32 3, born := 2 }] 3)) :=
    ⟨⟨v, (SimR.of HS.out (.cells #[.int .i64 x0, .int .i64 x1, .int .u32 x2, .int .u32 x3, .int .u32 x4, .int .u32 x5] 59) w.heap.size rfl).alloc _, ((Kp.refl _ _ w).alloc _).alloc _, fun g h => .inl h⟩, heap_keep (heap_alloc_at _ _ _ rfl), Nat.le_refl _⟩
  have H0 := Lib.hid H0r
  clear hmm m0 m1 m2 m3 H0r k1
  generalize (w.alloc (.cells #[.int .i64 x0, .int .i64 x1, .int .u32 x2, .int .u32 x3, .int .u32 x4, .int .u32 x5] 59)).alloc (.map #[{ key := .int .i64 4, val := .int .u32 1, born := 0 }, { key := .int .i64 2, val := .int .u32 2, born := 1 }, { key := .int .i64 6, val := .int .u32 3, born := 2 }] 3) = wA0 at *
  obtain ⟨r, hr⟩ : ∃ r, w.heap.size = r := ⟨_, rfl⟩
  have hr' : w.heap.size ≤ r := by omega
  rw [hr] at H0
  rw [hr]
  have HRR := Lib.hid hr
  clear hr
  go_upto_region 6 with (fail)
  go_cut [] (fun w' => CopS w lo bs v tmp (es ++ [⟨4, 32, 8, 0, [⟨x0, x1, x2, x3, x4, x5⟩, wordA 1]⟩]) r (tmpA (tmp + es.length)) w')
  case first =>
    obtain ⟨q0, q1, q2, q3, q4, q5, ql⟩ := H0.out.cells
    try unfold tmpA at q0 q1 q2 q3 q4 q5
    dsimp only at q0 q1 q2 q3 q4 q5
    go_region_with (first | (go_at_call 68; refine (tword_c 1 _).mono ?_; rintro e u1 ⟨rfl, hb1⟩; have hb1' : New wA0 u1 := (by first | exact hb1 | exact Below.trans ((New.refl wA0).drew) hb1); have G1 := Lib.hid (H0.out.new' hb1'); obtain ⟨p0, p1, p2, p3, p4, p5, pl⟩ := G1.out.cells; (try unfold tmpA at p0 p1 p2 p3 p4 p5); dsimp only at p0 p1 p2 p3 p4 p5; unfold wordA Atom.val; dsimp only; clear hb1 hb1') | (go_at_call 74; (refine (bin_cop w lo bs v tmp (es) r (⟨x0, x1, x2, x3, x4, x5⟩) 8 (⟨x0, x1, x2, x3, x4, x5⟩) (wordA 1) _ (by first | exact G1.out | exact G1.out.drew | exact G1.out.drew.drew) HL.out.2 (by first | omega | (simp; omega)) ht0 (by omega)).mono ?_); rintro e u2 ⟨rfl, hs2⟩; have G2 := Lib.hid hs2; obtain ⟨p0, p1, p2, p3, p4, p5, pl⟩ := G2.out.cells; have pf : ∀ i, u2.frozen? ⟨r, i, none⟩ = false := (fun i => frozen_of_heap G2.out.box); (try unfold tmpA at p0 p1 p2 p3 p4 p5); dsimp only at p0 p1 p2 p3 p4 p5; unfold tmpA Atom.val; dsimp only; clear hs2))
    all_goals
      go_wp2_with fail
      go_meet
      case rel =>
        have := G2.out.set HL.out.1 (tmpA (tmp + es.length))
        first | exact this | exact this.drew | exact this.drew.drew | (simpa [binTy, tmpA] using this.drew) | (simpa [binTy, tmpA] using this)
  case rest =>
  have H2 := Lib.hid hcut
  obtain ⟨wA2, hwA2⟩ : ∃ wA, wA = wc := ⟨_, rfl⟩
  subst hwA2
  clear hcut
  go_upto_region 8 with (fail)
  obtain ⟨q0, q1, q2, q3, q4, q5, ql⟩ := H2.out.cells
  try unfold tmpA at q0 q1 q2 q3 q4 q5
  dsimp only at q0 q1 q2 q3 q4 q5
  go_region_with (first | (go_at_call 68; refine (tword_c 1 _).mono ?_; rintro e u1 ⟨rfl, hb1⟩; have hb1' : New wA2 u1 := (by first | exact hb1 | exact Below.trans ((New.refl wA2).drew) hb1); have G1 := Lib.hid (H2.out.new' hb1'); obtain ⟨p0, p1, p2, p3, p4, p5, pl⟩ := G1.out.cells; (try unfold tmpA at p0 p1 p2 p3 p4 p5); dsimp only at p0 p1 p2 p3 p4 p5; unfold wordA Atom.val; dsimp only; clear hb1 hb1') | (go_at_call 74; (refine (bin_cop w lo bs v tmp ((es ++ [⟨4, 32, 8, 0, [⟨x0, x1, x2, x3, x4, x5⟩, wordA 1]⟩])) r (tmpA (tmp + es.length)) 10 (tmpA (tmp + es.length)) (wordA 1) _ (by first | exact G1.out | exact G1.out.drew | exact G1.out.drew.drew) HL.out.2 (by first | omega | (simp; omega)) ht0 (by omega)).mono ?_); rintro e u2 ⟨rfl, hs2⟩; have G2 := Lib.hid hs2; obtain ⟨p0, p1, p2, p3, p4, p5, pl⟩ := G2.out.cells; have pf : ∀ i, u2.frozen? ⟨r, i, none⟩ = false := (fun i => frozen_of_heap G2.out.box); (try unfold tmpA at p0 p1 p2 p3 p4 p5); dsimp only at p0 p1 p2 p3 p4 p5; unfold tmpA Atom.val; dsimp only; clear hs2))
  all_goals
    go_wp2
    go_ret
    first | exact G2.out.post _ | exact G2.out.drew.post _
set_option maxRecDepth 100000 in
set_option maxHeartbeats 4000000 in
theorem copied_2 (lo bs : Nat) (v : Value) (tmp : Int) (es : List IExpr) (x0 x1 x2 x3 x4 x5 : Int) (w : World) (hs : SimE w lo bs v tmp es) (hn : es.length ≤ 900) (ht0 : 0 ≤ tmp) (ht1 : tmp ≤ 9000) :
    Calls Try.prog 72 #[.pointer (some ⟨bs, 0, none⟩), .int .i64 2, .agg #[.int .i64 x0, .int .i64 x1, .int .u32 x2, .int .u32 x3, .int .u32 x4, .int .u32 x5]] w (SimPost lo bs v tmp ((es ++ [⟨4, 32, 12, 0, [⟨x0, x1, x2, x3, x4, x5⟩, wordA 2]⟩]) ++ [⟨4, 32, 8, 0, [tmpA (tmp + es.length), wordA 1]⟩]) (.bool true) w) := by
  have HS := Lib.hid hs
  have HL := Lib.hid hs.lt
  clear hs
  have hmm := @run_makeMap Try.prog
  have m0 := fun (w : World) r hr => run_mapInsert (P := Try.prog) (T := 55) Try.underlying55 Try.underlying3 #[] 0 4 (.int .u32 1) w r hr rfl
  have m1 := fun (w : World) r hr => run_mapInsert (P := Try.prog) (T := 55) Try.underlying55 Try.underlying3 #[{ key := .int .i64 4, val := .int .u32 1, born := 0 }] 1 2 (.int .u32 2) w r hr rfl
  have m2 := fun (w : World) r hr => run_mapInsert (P := Try.prog) (T := 55) Try.underlying55 Try.underlying3 #[{ key := .int .i64 4, val := .int .u32 1, born := 0 }, { key := .int .i64 2, val := .int .u32 2, born := 1 }] 2 6 (.int .u32 3) w r hr rfl
  have m3 := fun (w : World) r hr => run_mapGet_at (P := Try.prog) (T := 55) Try.underlying55 Try.underlying3 #[{ key := .int .i64 4, val := .int .u32 1, born := 0 }, { key := .int .i64 2, val := .int .u32 2, born := 1 }, { key := .int .i64 6, val := .int .u32 3, born := 2 }] 3 2 1 (.int .u32 2) w r hr rfl false
  have k1 : bits .andNot .i64 2 1 = 2 := by decide +kernel
  have k2 : bits .and .i64 2 1 = 0 := by decide +kernel
  go_enter Try.func72, Try.ntmps72
  go_upto_region 4 with (fail)
  have H0r : CopS w lo bs v tmp es w.heap.size ⟨x0, x1, x2, x3, x4, x5⟩ ((w.alloc (.cells #[.int .i64 x0, .int .i64 x1, .int .u32 x2, .int .u32 x3, .int .u32 x4, .int .u32 x5] 59)).alloc (.map #[{ key := .int .i64 4, val := .int .u32 1, born := 0 }, { key := .int .i64 2, val := .int .u32 2, born := 1 }, { key := .int .i64 6, val := .int .u32 3, born := 2 }] 3)) :=
    ⟨⟨v, (SimR.of HS.out (.cells #[.int .i64 x0, .int .i64 x1, .int .u32 x2, .int .u32 x3, .int .u32 x4, .int .u32 x5] 59) w.heap.size rfl).alloc _, ((Kp.refl _ _ w).alloc _).alloc _, fun g h => .inl h⟩, heap_keep (heap_alloc_at _ _ _ rfl), Nat.le_refl _⟩
  have H0 := Lib.hid H0r
  clear hmm m0 m1 m2 m3 H0r k1
  generalize (w.alloc (.cells #[.int .i64 x0, .int .i64 x1, .int .u32 x2, .int .u32 x3, .int .u32 x4, .int .u32 x5] 59)).alloc (.map #[{ key := .int .i64 4, val := .int .u32 1, born := 0 }, { key := .int .i64 2, val := .int .u32 2, born := 1 }, { key := .int .i64 6, val := .int .u32 3, born := 2 }] 3) = wA0 at *
  obtain ⟨r, hr⟩ : ∃ r, w.heap.size = r := ⟨_, rfl⟩
  have hr' : w.heap.size ≤ r := by omega
  rw [hr] at H0
  rw [hr]
  have HRR := Lib.hid hr
  clear hr
  go_upto_region 5 with (fail)
  go_cut [] (fun w' => CopS w lo bs v tmp (es ++ [⟨4, 32, 12, 0, [⟨x0, x1, x2, x3, x4, x5⟩, wordA 2]⟩]) r (tmpA (tmp + es.length)) w')
  case first =>
    obtain ⟨q0, q1, q2, q3, q4, q5, ql⟩ := H0.out.cells
    try unfold tmpA at q0 q1 q2 q3 q4 q5
    dsimp only at q0 q1 q2 q3 q4 q5
    go_region_with (first | (go_at_call 68; refine (tword_c 2 _).mono ?_; rintro e u1 ⟨rfl, hb1⟩; have hb1' : New wA0 u1 := (by first | exact hb1 | exact Below.trans ((New.refl wA0).drew) hb1); have G1 := Lib.hid (H0.out.new' hb1'); obtain ⟨p0, p1, p2, p3, p4, p5, pl⟩ := G1.out.cells; (try unfold tmpA at p0 p1 p2 p3 p4 p5); dsimp only at p0 p1 p2 p3 p4 p5; unfold wordA Atom.val; dsimp only; clear hb1 hb1') | (go_at_call 74; (refine (bin_cop w lo bs v tmp (es) r (⟨x0, x1, x2, x3, x4, x5⟩) 12 (⟨x0, x1, x2, x3, x4, x5⟩) (wordA 2) _ (by first | exact G1.out | exact G1.out.drew | exact G1.out.drew.drew) HL.out.2 (by first | omega | (simp; omega)) ht0 (by omega)).mono ?_); rintro e u2 ⟨rfl, hs2⟩; have G2 := Lib.hid hs2; obtain ⟨p0, p1, p2, p3, p4, p5, pl⟩ := G2.out.cells; have pf : ∀ i, u2.frozen? ⟨r, i, none⟩ = false := (fun i => frozen_of_heap G2.out.box); (try unfold tmpA at p0 p1 p2 p3 p4 p5); dsimp only at p0 p1 p2 p3 p4 p5; unfold tmpA Atom.val; dsimp only; clear hs2))
    all_goals
      go_wp2_with fail
      go_meet
      case rel =>
        have := G2.out.set HL.out.1 (tmpA (tmp + es.length))
        first | exact this | exact this.drew | exact this.drew.drew | (simpa [binTy, tmpA] using this.drew) | (simpa [binTy, tmpA] using this)
  case rest =>
  have H1 := Lib.hid hcut
  obtain ⟨wA1, hwA1⟩ : ∃ wA, wA = wc := ⟨_, rfl⟩
  subst hwA1
  clear hcut H0
  go_upto_region 6 with (fail)
  go_cut [] (fun w' => CopS w lo bs v tmp ((es ++ [⟨4, 32, 12, 0, [⟨x0, x1, x2, x3, x4, x5⟩, wordA 2]⟩]) ++ [⟨4, 32, 8, 0, [tmpA (tmp + es.length), wordA 1]⟩]) r (tmpA (tmp + (es.length + 1 : Nat))) w')
  case first =>
    obtain ⟨q0, q1, q2, q3, q4, q5, ql⟩ := H1.out.cells
    try unfold tmpA at q0 q1 q2 q3 q4 q5
    dsimp only at q0 q1 q2 q3 q4 q5
    go_region_with (first | (go_at_call 68; refine (tword_c 1 _).mono ?_; rintro e u1 ⟨rfl, hb1⟩; have hb1' : New wA1 u1 := (by first | exact hb1 | exact Below.trans ((New.refl wA1).drew) hb1); have G1 := Lib.hid (H1.out.new' hb1'); obtain ⟨p0, p1, p2, p3, p4, p5, pl⟩ := G1.out.cells; (try unfold tmpA at p0 p1 p2 p3 p4 p5); dsimp only at p0 p1 p2 p3 p4 p5; unfold wordA Atom.val; dsimp only; clear hb1 hb1') | (go_at_call 74; (refine (bin_cop w lo bs v tmp ((es ++ [⟨4, 32, 12, 0, [⟨x0, x1, x2, x3, x4, x5⟩, wordA 2]⟩])) r (tmpA (tmp + es.length)) 8 (tmpA (tmp + es.length)) (wordA 1) _ (by first | exact G1.out | exact G1.out.drew | exact G1.out.drew.drew) HL.out.2 (by first | omega | (simp; omega)) ht0 (by omega)).mono ?_); rintro e u2 ⟨rfl, hs2⟩; have G2 := Lib.hid hs2; obtain ⟨p0, p1, p2, p3, p4, p5, pl⟩ := G2.out.cells; have pf : ∀ i, u2.frozen? ⟨r, i, none⟩ = false := (fun i => frozen_of_heap G2.out.box); (try unfold tmpA at p0 p1 p2 p3 p4 p5); dsimp only at p0 p1 p2 p3 p4 p5; unfold tmpA Atom.val; dsimp only; clear hs2))
    all_goals
      go_wp2_with fail
      go_meet
      case rel =>
        have := G2.out.set HL.out.1 (tmpA (tmp + (es.length + 1 : Nat)))
        first | exact this | exact this.drew | exact this.drew.drew | (simpa [binTy, tmpA] using this.drew) | (simpa [binTy, tmpA] using this)
  case rest =>
  have H2 := Lib.hid hcut
  clear hcut
  go_wp2
  go_ret
  exact H2.out.post _
set_option maxRecDepth 100000 in
set_option maxHeartbeats 4000000 in
theorem copied_3 (lo bs : Nat) (v : Value) (tmp : Int) (es : List IExpr) (x0 x1 x2 x3 x4 x5 : Int) (w : World) (hs : SimE w lo bs v tmp es) (hn : es.length ≤ 900) (ht0 : 0 ≤ tmp) (ht1 : tmp ≤ 9000) :
    Calls Try.prog 72 #[.pointer (some ⟨bs, 0, none⟩), .int .i64 3, .agg #[.int .i64 x0, .int .i64 x1, .int .u32 x2, .int .u32 x3, .int .u32 x4, .int .u32 x5]] w (SimPost lo bs v tmp (((es ++ [⟨4, 32, 12, 0, [⟨x0, x1, x2, x3, x4, x5⟩, wordA 2]⟩]) ++ [⟨4, 32, 8, 0, [tmpA (tmp + es.length), wordA 1]⟩]) ++ [⟨4, 32, 10, 0, [tmpA (tmp + (es.length + 1 : Nat)), wordA 1]⟩]) (.bool true) w) := by
  have HS := Lib.hid hs
  have HL := Lib.hid hs.lt
  clear hs
  have hmm := @run_makeMap Try.prog
  have m0 := fun (w : World) r hr => run_mapInsert (P := Try.prog) (T := 55) Try.underlying55 Try.underlying3 #[] 0 4 (.int .u32 1) w r hr rfl
  have m1 := fun (w : World) r hr => run_mapInsert (P := Try.prog) (T := 55) Try.underlying55 Try.underlying3 #[{ key := .int .i64 4, val := .int .u32 1, born := 0 }] 1 2 (.int .u32 2) w r hr rfl
  have m2 := fun (w : World) r hr => run_mapInsert (P := Try.prog) (T := 55) Try.underlying55 Try.underlying3 #[{ key := .int .i64 4, val := .int .u32 1, born := 0 }, { key := .int .i64 2, val := .int .u32 2, born := 1 }] 2 6 (.int .u32 3) w r hr rfl
  have m3 := fun (w : World) r hr => run_mapGet_at (P := Try.prog) (T := 55) Try.underlying55 Try.underlying3 #[{ key := .int .i64 4, val := .int .u32 1, born := 0 }, { key := .int .i64 2, val := .int .u32 2, born := 1 }, { key := .int .i64 6, val := .int .u32 3, born := 2 }] 3 2 1 (.int .u32 2) w r hr rfl false
  have k1 : bits .andNot .i64 3 1 = 2 := by decide +kernel
  have k2 : bits .and .i64 3 1 = 1 := by decide +kernel
  go_enter Try.func72, Try.ntmps72
  go_upto_region 4 with (fail)
  have H0r : CopS w lo bs v tmp es w.heap.size ⟨x0, x1, x2, x3, x4, x5⟩ ((w.alloc (.cells #[.int .i64 x0, .int .i64 x1, .int .u32 x2, .int .u32 x3, .int .u32 x4, .int .u32 x5] 59)).alloc (.map #[{ key := .int .i64 4, val := .int .u32 1, born := 0 }, { key := .int .i64 2, val := .int .u32 2, born := 1 }, { key := .int .i64 6, val := .int .u32 3, born := 2 }] 3)) :=
    ⟨⟨v, (SimR.of HS.out (.cells #[.int .i64 x0, .int .i64 x1, .int .u32 x2, .int .u32 x3, .int .u32 x4, .int .u32 x5] 59) w.heap.size rfl).alloc _, ((Kp.refl _ _ w).alloc _).alloc _, fun g h => .inl h⟩, heap_keep (heap_alloc_at _ _ _ rfl), Nat.le_refl _⟩
  have H0 := Lib.hid H0r
  clear hmm m0 m1 m2 m3 H0r k1
  generalize (w.alloc (.cells #[.int .i64 x0, .int .i64 x1, .int .u32 x2, .int .u32 x3, .int .u32 x4, .int .u32 x5] 59)).alloc (.map #[{ key := .int .i64 4, val := .int .u32 1, born := 0 }, { key := .int .i64 2, val := .int .u32 2, born := 1 }, { key := .int .i64 6, val := .int .u32 3, born := 2 }] 3) = wA0 at *
  obtain ⟨r, hr⟩ : ∃ r, w.heap.size = r := ⟨_, rfl⟩
  have hr' : w.heap.size ≤ r := by omega
  rw [hr] at H0
  rw [hr]
  have HRR := Lib.hid hr
  clear hr
  go_upto_region 5 with (fail)
  go_cut [] (fun w' => CopS w lo bs v tmp (es ++ [⟨4, 32, 12, 0, [⟨x0, x1, x2, x3, x4, x5⟩, wordA 2]⟩]) r (tmpA (tmp + es.length)) w')
  case first =>
    obtain ⟨q0, q1, q2, q3, q4, q5, ql⟩ := H0.out.cells
    try unfold tmpA at q0 q1 q2 q3 q4 q5
    dsimp only at q0 q1 q2 q3 q4 q5
    go_region_with (first | (go_at_call 68; refine (tword_c 2 _).mono ?_; rintro e u1 ⟨rfl, hb1⟩; have hb1' : New wA0 u1 := (by first | exact hb1 | exact Below.trans ((New.refl wA0).drew) hb1); have G1 := Lib.hid (H0.out.new' hb1'); obtain ⟨p0, p1, p2, p3, p4, p5, pl⟩ := G1.out.cells; (try unfold tmpA at p0 p1 p2 p3 p4 p5); dsimp only at p0 p1 p2 p3 p4 p5; unfold wordA Atom.val; dsimp only; clear hb1 hb1') | (go_at_call 74; (refine (bin_cop w lo bs v tmp (es) r (⟨x0, x1, x2, x3, x4, x5⟩) 12 (⟨x0, x1, x2, x3, x4, x5⟩) (wordA 2) _ (by first | exact G1.out | exact G1.out.drew | exact G1.out.drew.drew) HL.out.2 (by first | omega | (simp; omega)) ht0 (by omega)).mono ?_); rintro e u2 ⟨rfl, hs2⟩; have G2 := Lib.hid hs2; obtain ⟨p0, p1, p2, p3, p4, p5, pl⟩ := G2.out.cells; have pf : ∀ i, u2.frozen? ⟨r, i, none⟩ = false := (fun i => frozen_of_heap G2.out.box); (try unfold tmpA at p0 p1 p2 p3 p4 p5); dsimp only at p0 p1 p2 p3 p4 p5; unfold tmpA Atom.val; dsimp only; clear hs2))
    all_goals
      go_wp2_with fail
      go_meet
      case rel =>
        have := G2.out.set HL.out.1 (tmpA (tmp + es.length))
        first | exact this | exact this.drew | exact this.drew.drew | (simpa [binTy, tmpA] using this.drew) | (simpa [binTy, tmpA] using this)
  case rest =>
  have H1 := Lib.hid hcut
  obtain ⟨wA1, hwA1⟩ : ∃ wA, wA = wc := ⟨_, rfl⟩
  subst hwA1
  clear hcut H0
  go_upto_region 6 with (fail)
  go_cut [] (fun w' => CopS w lo bs v tmp ((es ++ [⟨4, 32, 12, 0, [⟨x0, x1, x2, x3, x4, x5⟩, wordA 2]⟩]) ++ [⟨4, 32, 8, 0, [tmpA (tmp + es.length), wordA 1]⟩]) r (tmpA (tmp + (es.length + 1 : Nat))) w')
  case first =>
    obtain ⟨q0, q1, q2, q3, q4, q5, ql⟩ := H1.out.cells
    try unfold tmpA at q0 q1 q2 q3 q4 q5
    dsimp only at q0 q1 q2 q3 q4 q5
    go_region_with (first | (go_at_call 68; refine (tword_c 1 _).mono ?_; rintro e u1 ⟨rfl, hb1⟩; have hb1' : New wA1 u1 := (by first | exact hb1 | exact Below.trans ((New.refl wA1).drew) hb1); have G1 := Lib.hid (H1.out.new' hb1'); obtain ⟨p0, p1, p2, p3, p4, p5, pl⟩ := G1.out.cells; (try unfold tmpA at p0 p1 p2 p3 p4 p5); dsimp only at p0 p1 p2 p3 p4 p5; unfold wordA Atom.val; dsimp only; clear hb1 hb1') | (go_at_call 74; (refine (bin_cop w lo bs v tmp ((es ++ [⟨4, 32, 12, 0, [⟨x0, x1, x2, x3, x4, x5⟩, wordA 2]⟩])) r (tmpA (tmp + es.length)) 8 (tmpA (tmp + es.length)) (wordA 1) _ (by first | exact G1.out | exact G1.out.drew | exact G1.out.drew.drew) HL.out.2 (by first | omega | (simp; omega)) ht0 (by omega)).mono ?_); rintro e u2 ⟨rfl, hs2⟩; have G2 := Lib.hid hs2; obtain ⟨p0, p1, p2, p3, p4, p5, pl⟩ := G2.out.cells; have pf : ∀ i, u2.frozen? ⟨r, i, none⟩ = false := (fun i => frozen_of_heap G2.out.box); (try unfold tmpA at p0 p1 p2 p3 p4 p5); dsimp only at p0 p1 p2 p3 p4 p5; unfold tmpA Atom.val; dsimp only; clear hs2))
    all_goals
      go_wp2_with fail
      go_meet
      case rel =>
        have := G2.out.set HL.out.1 (tmpA (tmp + (es.length + 1 : Nat)))
        first | exact this | exact this.drew | exact this.drew.drew | (simpa [binTy, tmpA] using this.drew) | (simpa [binTy, tmpA] using this)
  case rest =>
  have H2 := Lib.hid hcut
  obtain ⟨wA2, hwA2⟩ : ∃ wA, wA = wc := ⟨_, rfl⟩
  subst hwA2
  clear hcut
  go_upto_region 8 with (fail)
  obtain ⟨q0, q1, q2, q3, q4, q5, ql⟩ := H2.out.cells
  try unfold tmpA at q0 q1 q2 q3 q4 q5
  dsimp only at q0 q1 q2 q3 q4 q5
  go_region_with (first | (go_at_call 68; refine (tword_c 1 _).mono ?_; rintro e u1 ⟨rfl, hb1⟩; have hb1' : New wA2 u1 := (by first | exact hb1 | exact Below.trans ((New.refl wA2).drew) hb1); have G1 := Lib.hid (H2.out.new' hb1'); obtain ⟨p0, p1, p2, p3, p4, p5, pl⟩ := G1.out.cells; (try unfold tmpA at p0 p1 p2 p3 p4 p5); dsimp only at p0 p1 p2 p3 p4 p5; unfold wordA Atom.val; dsimp only; clear hb1 hb1') | (go_at_call 74; (refine (bin_cop w lo bs v tmp (((es ++ [⟨4, 32, 12, 0, [⟨x0, x1, x2, x3, x4, x5⟩, wordA 2]⟩]) ++ [⟨4, 32, 8, 0, [tmpA (tmp + es.length), wordA 1]⟩])) r (tmpA (tmp + (es.length + 1 : Nat))) 10 (tmpA (tmp + (es.length + 1 : Nat))) (wordA 1) _ (by first | exact G1.out | exact G1.out.drew | exact G1.out.drew.drew) HL.out.2 (by first | omega | (simp; omega)) ht0 (by omega)).mono ?_); rintro e u2 ⟨rfl, hs2⟩; have G2 := Lib.hid hs2; obtain ⟨p0, p1, p2, p3, p4, p5, pl⟩ := G2.out.cells; have pf : ∀ i, u2.frozen? ⟨r, i, none⟩ = false := (fun i => frozen_of_heap G2.out.box); (try unfold tmpA at p0 p1 p2 p3 p4 p5); dsimp only at p0 p1 p2 p3 p4 p5; unfold tmpA Atom.val; dsimp only; clear hs2))
  all_goals
    go_wp2
    go_ret
    first | exact G2.out.post _ | exact G2.out.drew.post _
set_option maxRecDepth 100000 in
set_option maxHeartbeats 4000000 in
theorem copied_4 (lo bs : Nat) (v : Value) (tmp : Int) (es : List IExpr) (x0 x1 x2 x3 x4 x5 : Int) (w : World) (hs : SimE w lo bs v tmp es) (hn : es.length ≤ 900) (ht0 : 0 ≤ tmp) (ht1 : tmp ≤ 9000) :
    Calls Try.prog 72 #[.pointer (some ⟨bs, 0, none⟩), .int .i64 4, .agg #[.int .i64 x0, .int .i64 x1, .int .u32 x2, .int .u32 x3, .int .u32 x4, .int .u32 x5]] w (SimPost lo bs v tmp ((es ++ [⟨4, 32, 12, 0, [⟨x0, x1, x2, x3, x4, x5⟩, wordA 1]⟩]) ++ [⟨4, 32, 8, 0, [tmpA (tmp + es.length), wordA 1]⟩]) (.bool true) w) := by
  have HS := Lib.hid hs
  have HL := Lib.hid hs.lt
  clear hs
  have hmm := @run_makeMap Try.prog
  have m0 := fun (w : World) r hr => run_mapInsert (P := Try.prog) (T := 55) Try.underlying55 Try.underlying3 #[] 0 4 (.int .u32 1) w r hr rfl
  have m1 := fun (w : World) r hr => run_mapInsert (P := Try.prog) (T := 55) Try.underlying55 Try.underlying3 #[{ key := .int .i64 4, val := .int .u32 1, born := 0 }] 1 2 (.int .u32 2) w r hr rfl
  have m2 := fun (w : World) r hr => run_mapInsert (P := Try.prog) (T := 55) Try.underlying55 Try.underlying3 #[{ key := .int .i64 4, val := .int .u32 1, born := 0 }, { key := .int .i64 2, val := .int .u32 2, born := 1 }] 2 6 (.int .u32 3) w r hr rfl
  have m3 := fun (w : World) r hr => run_mapGet_at (P := Try.prog) (T := 55) Try.underlying55 Try.underlying3 #[{ key := .int .i64 4, val := .int .u32 1, born := 0 }, { key := .int .i64 2, val := .int .u32 2, born := 1 }, { key := .int .i64 6, val := .int .u32 3, born := 2 }] 3 4 0 (.int .u32 1) w r hr rfl false
  have k1 : bits .andNot .i64 4 1 = 4 := by decide +kernel
  have k2 : bits .and .i64 4 1 = 0 := by decide +kernel
  go_enter Try.func72, Try.ntmps72
  go_upto_region 4 with (fail)
  have H0r : CopS w lo bs v tmp es w.heap.size ⟨x0, x1, x2, x3, x4, x5⟩ ((w.alloc (.cells #[.int .i64 x0, .int .i64 x1, .int .u32 x2, .int .u32 x3, .int .u32 x4, .int .u32 x5] 59)).alloc (.map #[{ key := .int .i64 4, val := .int .u32 1, born := 0 }, { key := .int .i64 2, val := .int .u32 2, born := 1 }, { key := .int .i64 6, val := .int .u32 3, born := 2 }] 3)) :=
    ⟨⟨v, (SimR.of HS.out (.cells #[.int .i64 x0, .int .i64 x1, .int .u32 x2, .int .u32 x3, .int .u32 x4, .int .u32 x5] 59) w.heap.size rfl).alloc _, ((Kp.refl _ _ w).alloc _).alloc _, fun g h => .inl h⟩, heap_keep (heap_alloc_at _ _ _ rfl), Nat.le_refl _⟩
  have H0 := Lib.hid H0r
  clear hmm m0 m1 m2 m3 H0r k1
  generalize (w.alloc (.cells #[.int .i64 x0, .int .i64 x1, .int .u32 x2, .int .u32 x3, .int .u32 x4, .int .u32 x5] 59)).alloc (.map #[{ key := .int .i64 4, val := .int .u32 1, born := 0 }, { key := .int .i64 2, val := .int .u32 2, born := 1 }, { key := .int .i64 6, val := .int .u32 3, born := 2 }] 3) = wA0 at *
  obtain ⟨r, hr⟩ : ∃ r, w.heap.size = r := ⟨_, rfl⟩
  have hr' : w.heap.size ≤ r := by omega
  rw [hr] at H0
  rw [hr]
  have HRR := Lib.hid hr
  clear hr
  go_upto_region 5 with (fail)
  go_cut [] (fun w' => CopS w lo bs v tmp (es ++ [⟨4, 32, 12, 0, [⟨x0, x1, x2, x3, x4, x5⟩, wordA 1]⟩]) r (tmpA (tmp + es.length)) w')
  case first =>
    obtain ⟨q0, q1, q2, q3, q4, q5, ql⟩ := H0.out.cells
    try unfold tmpA at q0 q1 q2 q3 q4 q5
    dsimp only at q0 q1 q2 q3 q4 q5
    go_region_with (first | (go_at_call 68; refine (tword_c 1 _).mono ?_; rintro e u1 ⟨rfl, hb1⟩; have hb1' : New wA0 u1 := (by first | exact hb1 | exact Below.trans ((New.refl wA0).drew) hb1); have G1 := Lib.hid (H0.out.new' hb1'); obtain ⟨p0, p1, p2, p3, p4, p5, pl⟩ := G1.out.cells; (try unfold tmpA at p0 p1 p2 p3 p4 p5); dsimp only at p0 p1 p2 p3 p4 p5; unfold wordA Atom.val; dsimp only; clear hb1 hb1') | (go_at_call 74; (refine (bin_cop w lo bs v tmp (es) r (⟨x0, x1, x2, x3, x4, x5⟩) 12 (⟨x0, x1, x2, x3, x4, x5⟩) (wordA 1) _ (by first | exact G1.out | exact G1.out.drew | exact G1.out.drew.drew) HL.out.2 (by first | omega | (simp; omega)) ht0 (by omega)).mono ?_); rintro e u2 ⟨rfl, hs2⟩; have G2 := Lib.hid hs2; obtain ⟨p0, p1, p2, p3, p4, p5, pl⟩ := G2.out.cells; have pf : ∀ i, u2.frozen? ⟨r, i, none⟩ = false := (fun i => frozen_of_heap G2.out.box); (try unfold tmpA at p0 p1 p2 p3 p4 p5); dsimp only at p0 p1 p2 p3 p4 p5; unfold tmpA Atom.val; dsimp only; clear hs2))
    all_goals
      go_wp2_with fail
      go_meet
      case rel =>
        have := G2.out.set HL.out.1 (tmpA (tmp + es.length))
        first | exact this | exact this.drew | exact this.drew.drew | (simpa [binTy, tmpA] using this.drew) | (simpa [binTy, tmpA] using this)
  case rest =>
  have H1 := Lib.hid hcut
  obtain ⟨wA1, hwA1⟩ : ∃ wA, wA = wc := ⟨_, rfl⟩
  subst hwA1
  clear hcut H0
  go_upto_region 6 with (fail)
  go_cut [] (fun w' => CopS w lo bs v tmp ((es ++ [⟨4, 32, 12, 0, [⟨x0, x1, x2, x3, x4, x5⟩, wordA 1]⟩]) ++ [⟨4, 32, 8, 0, [tmpA (tmp + es.length), wordA 1]⟩]) r (tmpA (tmp + (es.length + 1 : Nat))) w')
  case first =>
    obtain ⟨q0, q1, q2, q3, q4, q5, ql⟩ := H1.out.cells
    try unfold tmpA at q0 q1 q2 q3 q4 q5
    dsimp only at q0 q1 q2 q3 q4 q5
    go_region_with (first | (go_at_call 68; refine (tword_c 1 _).mono ?_; rintro e u1 ⟨rfl, hb1⟩; have hb1' : New wA1 u1 := (by first | exact hb1 | exact Below.trans ((New.refl wA1).drew) hb1); have G1 := Lib.hid (H1.out.new' hb1'); obtain ⟨p0, p1, p2, p3, p4, p5, pl⟩ := G1.out.cells; (try unfold tmpA at p0 p1 p2 p3 p4 p5); dsimp only at p0 p1 p2 p3 p4 p5; unfold wordA Atom.val; dsimp only; clear hb1 hb1') | (go_at_call 74; (refine (bin_cop w lo bs v tmp ((es ++ [⟨4, 32, 12, 0, [⟨x0, x1, x2, x3, x4, x5⟩, wordA 1]⟩])) r (tmpA (tmp + es.length)) 8 (tmpA (tmp + es.length)) (wordA 1) _ (by first | exact G1.out | exact G1.out.drew | exact G1.out.drew.drew) HL.out.2 (by first | omega | (simp; omega)) ht0 (by omega)).mono ?_); rintro e u2 ⟨rfl, hs2⟩; have G2 := Lib.hid hs2; obtain ⟨p0, p1, p2, p3, p4, p5, pl⟩ := G2.out.cells; have pf : ∀ i, u2.frozen? ⟨r, i, none⟩ = false := (fun i => frozen_of_heap G2.out.box); (try unfold tmpA at p0 p1 p2 p3 p4 p5); dsimp only at p0 p1 p2 p3 p4 p5; unfold tmpA Atom.val; dsimp only; clear hs2))
    all_goals
      go_wp2_with fail
      go_meet
      case rel =>
        have := G2.out.set HL.out.1 (tmpA (tmp + (es.length + 1 : Nat)))
        first | exact this | exact this.drew | exact this.drew.drew | (simpa [binTy, tmpA] using this.drew) | (simpa [binTy, tmpA] using this)
  case rest =>
  have H2 := Lib.hid hcut
  clear hcut
  go_wp2
  go_ret
  exact H2.out.post _
set_option maxRecDepth 100000 in
set_option maxHeartbeats 4000000 in
theorem copied_5 (lo bs : Nat) (v : Value) (tmp : Int) (es : List IExpr) (x0 x1 x2 x3 x4 x5 : Int) (w : World) (hs : SimE w lo bs v tmp es) (hn : es.length ≤ 900) (ht0 : 0 ≤ tmp) (ht1 : tmp ≤ 9000) :
    Calls Try.prog 72 #[.pointer (some ⟨bs, 0, none⟩), .int .i64 5, .agg #[.int .i64 x0, .int .i64 x1, .int .u32 x2, .int .u32 x3, .int .u32 x4, .int .u32 x5]] w (SimPost lo bs v tmp (((es ++ [⟨4, 32, 12, 0, [⟨x0, x1, x2, x3, x4, x5⟩, wordA 1]⟩]) ++ [⟨4, 32, 8, 0, [tmpA (tmp + es.length), wordA 1]⟩]) ++ [⟨4, 32, 10, 0, [tmpA (tmp + (es.length + 1 : Nat)), wordA 1]⟩]) (.bool true) w) := by
  have HS := Lib.hid hs
  have HL := Lib.hid hs.lt
  clear hs
  have hmm := @run_makeMap Try.prog
  have m0 := fun (w : World) r hr => run_mapInsert (P := Try.prog) (T := 55) Try.underlying55 Try.underlying3 #[] 0 4 (.int .u32 1) w r hr rfl
  have m1 := fun (w : World) r hr => run_mapInsert (P := Try.prog) (T := 55) Try.underlying55 Try.underlying3 #[{ key := .int .i64 4, val := .int .u32 1, born := 0 }] 1 2 (.int .u32 2) w r hr rfl
  have m2 := fun (w : World) r hr => run_mapInsert (P := Try.prog) (T := 55) Try.underlying55 Try.underlying3 #[{ key := .int .i64 4, val := .int .u32 1, born := 0 }, { key := .int .i64 2, val := .int .u32 2, born := 1 }] 2 6 (.int .u32 3) w r hr rfl
  have m3 := fun (w : World) r hr => run_mapGet_at (P := Try.prog) (T := 55) Try.underlying55 Try.underlying3 #[{ key := .int .i64 4, val := .int .u32 1, born := 0 }, { key := .int .i64 2, val := .int .u32 2, born := 1 }, { key := .int .i64 6, val := .int .u32 3, born := 2 }] 3 4 0 (.int .u32 1) w r hr rfl false
  have k1 : bits .andNot .i64 5 1 = 4 := by decide +kernel
  have k2 : bits .and .i64 5 1 = 1 := by decide +kernel
  go_enter Try.func72, Try.ntmps72
  go_upto_region 4 with (fail)
  have H0r : CopS w lo bs v tmp es w.heap.size ⟨x0, x1, x2, x3, x4, x5⟩ ((w.alloc (.cells #[.int .i64 x0, .int .i64 x1, .int .u32 x2, .int .u32 x3, .int .u32 x4, .int .u32 x5] 59)).alloc (.map #[{ key := .int .i64 4, val := .int .u32 1, born := 0 }, { key := .int .i64 2, val := .int .u32 2, born := 1 }, { key := .int .i64 6, val := .int .u32 3, born := 2 }] 3)) :=
    ⟨⟨v, (SimR.of HS.out (.cells #[.int .i64 x0, .int .i64 x1, .int .u32 x2, .int .u32 x3, .int .u32 x4, .int .u32 x5] 59) w.heap.size rfl).alloc _, ((Kp.refl _ _ w).alloc _).alloc _, fun g h => .inl h⟩, heap_keep (heap_alloc_at _ _ _ rfl), Nat.le_refl _⟩
  have H0 := Lib.hid H0r
  clear hmm m0 m1 m2 m3 H0r k1
  generalize (w.alloc (.cells #[.int .i64 x0, .int .i64 x1, .int .u32 x2, .int .u32 x3, .int .u32 x4, .int .u32 x5] 59)).alloc (.map #[{ key := .int .i64 4, val := .int .u32 1, born := 0 }, { key := .int .i64 2, val := .int .u32 2, born := 1 }, { key := .int .i64 6, val := .int .u32 3, born := 2 }] 3) = wA0 at *
  obtain ⟨r, hr⟩ : ∃ r, w.heap.size = r := ⟨_, rfl⟩
  have hr' : w.heap.size ≤ r := by omega
  rw [hr] at H0
  rw [hr]
  have HRR := Lib.hid hr
  clear hr
  go_upto_region 5 with (fail)
  go_cut [] (fun w' => CopS w lo bs v tmp (es ++ [⟨4, 32, 12, 0, [⟨x0, x1, x2, x3, x4, x5⟩, wordA 1]⟩]) r (tmpA (tmp + es.length)) w')
  case first =>
    obtain ⟨q0, q1, q2, q3, q4, q5, ql⟩ := H0.out.cells
    try unfold tmpA at q0 q1 q2 q3 q4 q5
    dsimp only at q0 q1 q2 q3 q4 q5
    go_region_with (first | (go_at_call 68; refine (tword_c 1 _).mono ?_; rintro e u1 ⟨rfl, hb1⟩; have hb1' : New wA0 u1 := (by first | exact hb1 | exact Below.trans ((New.refl wA0).drew) hb1); have G1 := Lib.hid (H0.out.new' hb1'); obtain ⟨p0, p1, p2, p3, p4, p5, pl⟩ := G1.out.cells; (try unfold tmpA at p0 p1 p2 p3 p4 p5); dsimp only at p0 p1 p2 p3 p4 p5; unfold wordA Atom.val; dsimp only; clear hb1 hb1') | (go_at_call 74; (refine (bin_cop w lo bs v tmp (es) r (⟨x0, x1, x2, x3, x4, x5⟩) 12 (⟨x0, x1, x2, x3, x4, x5⟩) (wordA 1) _ (by first | exact G1.out | exact G1.out.drew | exact G1.out.drew.drew) HL.out.2 (by first | omega | (simp; omega)) ht0 (by omega)).mono ?_); rintro e u2 ⟨rfl, hs2⟩; have G2 := Lib.hid hs2; obtain ⟨p0, p1, p2, p3, p4, p5, pl⟩ := G2.out.cells; have pf : ∀ i, u2.frozen? ⟨r, i, none⟩ = false := (fun i => frozen_of_heap G2.out.box); (try unfold tmpA at p0 p1 p2 p3 p4 p5); dsimp only at p0 p1 p2 p3 p4 p5; unfold tmpA Atom.val; dsimp only; clear hs2))
    all_goals
      go_wp2_with fail
      go_meet
      case rel =>
        have := G2.out.set HL.out.1 (tmpA (tmp + es.length))
        first | exact this | exact this.drew | exact this.drew.drew | (simpa [binTy, tmpA] using this.drew) | (simpa [binTy, tmpA] using this)
  case rest =>
  have H1 := Lib.hid hcut
  obtain ⟨wA1, hwA1⟩ : ∃ wA, wA = wc := ⟨_, rfl⟩
  subst hwA1
  clear hcut H0
  go_upto_region 6 with (fail)
  go_cut [] (fun w' => CopS w lo bs v tmp ((es ++ [⟨4, 32, 12, 0, [⟨x0, x1, x2, x3, x4, x5⟩, wordA 1]⟩]) ++ [⟨4, 32, 8, 0, [tmpA (tmp + es.length), wordA 1]⟩]) r (tmpA (tmp + (es.length + 1 : Nat))) w')
  case first =>
    obtain ⟨q0, q1, q2, q3, q4, q5, ql⟩ := H1.out.cells
    try unfold tmpA at q0 q1 q2 q3 q4 q5
    dsimp only at q0 q1 q2 q3 q4 q5
    go_region_with (first | (go_at_call 68; refine (tword_c 1 _).mono ?_; rintro e u1 ⟨rfl, hb1⟩; have hb1' : New wA1 u1 := (by first | exact hb1 | exact Below.trans ((New.refl wA1).drew) hb1); have G1 := Lib.hid (H1.out.new' hb1'); obtain ⟨p0, p1, p2, p3, p4, p5, pl⟩ := G1.out.cells; (try unfold tmpA at p0 p1 p2 p3 p4 p5); dsimp only at p0 p1 p2 p3 p4 p5; unfold wordA Atom.val; dsimp only; clear hb1 hb1') | (go_at_call 74; (refine (bin_cop w lo bs v tmp ((es ++ [⟨4, 32, 12, 0, [⟨x0, x1, x2, x3, x4, x5⟩, wordA 1]⟩])) r (tmpA (tmp + es.length)) 8 (tmpA (tmp + es.length)) (wordA 1) _ (by first | exact G1.out | exact G1.out.drew | exact G1.out.drew.drew) HL.out.2 (by first | omega | (simp; omega)) ht0 (by omega)).mono ?_); rintro e u2 ⟨rfl, hs2⟩; have G2 := Lib.hid hs2; obtain ⟨p0, p1, p2, p3, p4, p5, pl⟩ := G2.out.cells; have pf : ∀ i, u2.frozen? ⟨r, i, none⟩ = false := (fun i => frozen_of_heap G2.out.box); (try unfold tmpA at p0 p1 p2 p3 p4 p5); dsimp only at p0 p1 p2 p3 p4 p5; unfold tmpA Atom.val; dsimp only; clear hs2))
    all_goals
      go_wp2_with fail
      go_meet
      case rel =>
        have := G2.out.set HL.out.1 (tmpA (tmp + (es.length + 1 : Nat)))
        first | exact this | exact this.drew | exact this.drew.drew | (simpa [binTy, tmpA] using this.drew) | (simpa [binTy, tmpA] using this)
  case rest =>
  have H2 := Lib.hid hcut
  obtain ⟨wA2, hwA2⟩ : ∃ wA, wA = wc := ⟨_, rfl⟩
  subst hwA2
  clear hcut
  go_upto_region 8 with (fail)
  obtain ⟨q0, q1, q2, q3, q4, q5, ql⟩ := H2.out.cells
  try unfold tmpA at q0 q1 q2 q3 q4 q5
  dsimp only at q0 q1 q2 q3 q4 q5
  go_region_with (first | (go_at_call 68; refine (tword_c 1 _).mono ?_; rintro e u1 ⟨rfl, hb1⟩; have hb1' : New wA2 u1 := (by first | exact hb1 | exact Below.trans ((New.refl wA2).drew) hb1); have G1 := Lib.hid (H2.out.new' hb1'); obtain ⟨p0, p1, p2, p3, p4, p5, pl⟩ := G1.out.cells; (try unfold tmpA at p0 p1 p2 p3 p4 p5); dsimp only at p0 p1 p2 p3 p4 p5; unfold wordA Atom.val; dsimp only; clear hb1 hb1') | (go_at_call 74; (refine (bin_cop w lo bs v tmp (((es ++ [⟨4, 32, 12, 0, [⟨x0, x1, x2, x3, x4, x5⟩, wordA 1]⟩]) ++ [⟨4, 32, 8, 0, [tmpA (tmp + es.length), wordA 1]⟩])) r (tmpA (tmp + (es.length + 1 : Nat))) 10 (tmpA (tmp + (es.length + 1 : Nat))) (wordA 1) _ (by first | exact G1.out | exact G1.out.drew | exact G1.out.drew.drew) HL.out.2 (by first | omega | (simp; omega)) ht0 (by omega)).mono ?_); rintro e u2 ⟨rfl, hs2⟩; have G2 := Lib.hid hs2; obtain ⟨p0, p1, p2, p3, p4, p5, pl⟩ := G2.out.cells; have pf : ∀ i, u2.frozen? ⟨r, i, none⟩ = false := (fun i => frozen_of_heap G2.out.box); (try unfold tmpA at p0 p1 p2 p3 p4 p5); dsimp only at p0 p1 p2 p3 p4 p5; unfold tmpA Atom.val; dsimp only; clear hs2))
  all_goals
    go_wp2
    go_ret
    first | exact G2.out.post _ | exact G2.out.drew.post _
set_option maxRecDepth 100000 in
set_option maxHeartbeats 4000000 in
theorem copied_6 (lo bs : Nat) (v : Value) (tmp : Int) (es : List IExpr) (x0 x1 x2 x3 x4 x5 : Int) (w : World) (hs : SimE w lo bs v tmp es) (hn : es.length ≤ 900) (ht0 : 0 ≤ tmp) (ht1 : tmp ≤ 9000) :
    Calls Try.prog 72 #[.pointer (some ⟨bs, 0, none⟩), .int .i64 6, .agg #[.int .i64 x0, .int .i64 x1, .int .u32 x2, .int .u32 x3, .int .u32 x4, .int .u32 x5]] w (SimPost lo bs v tmp ((es ++ [⟨4, 32, 12, 0, [⟨x0, x1, x2, x3, x4, x5⟩, wordA 3]⟩]) ++ [⟨4, 32, 8, 0, [tmpA (tmp + es.length), wordA 1]⟩]) (.bool true) w) := by
  have HS := Lib.hid hs
  have HL := Lib.hid hs.lt
  clear hs
  have hmm := @run_makeMap Try.prog
  have m0 := fun (w : World) r hr => run_mapInsert (P := Try.prog) (T := 55) Try.underlying55 Try.underlying3 #[] 0 4 (.int .u32 1) w r hr rfl
  have m1 := fun (w : World) r hr => run_mapInsert (P := Try.prog) (T := 55) Try.underlying55 Try.underlying3 #[{ key := .int .i64 4, val := .int .u32 1, born := 0 }] 1 2 (.int .u32 2) w r hr rfl
  have m2 := fun (w : World) r hr => run_mapInsert (P := Try.prog) (T := 55) Try.underlying55 Try.underlying3 #[{ key := .int .i64 4, val := .int .u32 1, born := 0 }, { key := .int .i64 2, val := .int .u32 2, born := 1 }] 2 6 (.int .u32 3) w r hr rfl
  have m3 := fun (w : World) r hr => run_mapGet_at (P := Try.prog) (T := 55) Try.underlying55 Try.underlying3 #[{ key := .int .i64 4, val := .int .u32 1, born := 0 }, { key := .int .i64 2, val := .int .u32 2, born := 1 }, { key := .int .i64 6, val := .int .u32 3, born := 2 }] 3 6 2 (.int .u32 3) w r hr rfl false
  have k1 : bits .andNot .i64 6 1 = 6 := by decide +kernel
  have k2 : bits .and .i64 6 1 = 0 := by decide +kernel
  go_enter Try.func72, Try.ntmps72
  go_upto_region 4 with (fail)
  have H0r : CopS w lo bs v tmp es w.heap.size ⟨x0, x1, x2, x3, x4, x5⟩ ((w.alloc (.cells #[.int .i64 x0, .int .i64 x1, .int .u32 x2, .int .u32 x3, .int .u32 x4, .int .u32 x5] 59)).alloc (.map #[{ key := .int .i64 4, val := .int .u32 1, born := 0 }, { key := .int .i64 2, val := .int .u32 2, born := 1 }, { key := .int .i64 6, val := .int .u32 3, born := 2 }] 3)) :=
    ⟨⟨v, (SimR.of HS.out (.cells #[.int .i64 x0, .int .i64 x1, .int .u32 x2, .int .u32 x3, .int .u32 x4, .int .u32 x5] 59) w.heap.size rfl).alloc _, ((Kp.refl _ _ w).alloc _).alloc _, fun g h => .inl h⟩, heap_keep (heap_alloc_at _ _ _ rfl), Nat.le_refl _⟩
  have H0 := Lib.hid H0r
  clear hmm m0 m1 m2 m3 H0r k1
  generalize (w.alloc (.cells #[.int .i64 x0, .int .i64 x1, .int .u32 x2, .int .u32 x3, .int .u32 x4, .int .u32 x5] 59)).alloc (.map #[{ key := .int .i64 4, val := .int .u32 1, born := 0 }, { key := .int .i64 2, val := .int .u32 2, born := 1 }, { key := .int .i64 6, val := .int .u32 3, born := 2 }] 3) = wA0 at *
  obtain ⟨r, hr⟩ : ∃ r, w.heap.size = r := ⟨_, rfl⟩
  have hr' : w.heap.size ≤ r := by omega
  rw [hr] at H0
  rw [hr]
  have HRR := Lib.hid hr
  clear hr
  go_upto_region 5 with (fail)
  go_cut [] (fun w' => CopS w lo bs v tmp (es ++ [⟨4, 32, 12, 0, [⟨x0, x1, x2, x3, x4, x5⟩, wordA 3]⟩]) r (tmpA (tmp + es.length)) w')
  case first =>
    obtain ⟨q0, q1, q2, q3, q4, q5, ql⟩ := H0.out.cells
    try unfold tmpA at q0 q1 q2 q3 q4 q5
    dsimp only at q0 q1 q2 q3 q4 q5
    go_region_with (first | (go_at_call 68; refine (tword_c 3 _).mono ?_; rintro e u1 ⟨rfl, hb1⟩; have hb1' : New wA0 u1 := (by first | exact hb1 | exact Below.trans ((New.refl wA0).drew) hb1); have G1 := Lib.hid (H0.out.new' hb1'); obtain ⟨p0, p1, p2, p3, p4, p5, pl⟩ := G1.out.cells; (try unfold tmpA at p0 p1 p2 p3 p4 p5); dsimp only at p0 p1 p2 p3 p4 p5; unfold wordA Atom.val; dsimp only; clear hb1 hb1') | (go_at_call 74; (refine (bin_cop w lo bs v tmp (es) r (⟨x0, x1, x2, x3, x4, x5⟩) 12 (⟨x0, x1, x2, x3, x4, x5⟩) (wordA 3) _ (by first | exact G1.out | exact G1.out.drew | exact G1.out.drew.drew) HL.out.2 (by first | omega | (simp; omega)) ht0 (by omega)).mono ?_); rintro e u2 ⟨rfl, hs2⟩; have G2 := Lib.hid hs2; obtain ⟨p0, p1, p2, p3, p4, p5, pl⟩ := G2.out.cells; have pf : ∀ i, u2.frozen? ⟨r, i, none⟩ = false := (fun i => frozen_of_heap G2.out.box); (try unfold tmpA at p0 p1 p2 p3 p4 p5); dsimp only at p0 p1 p2 p3 p4 p5; unfold tmpA Atom.val; dsimp only; clear hs2))
    all_goals
      go_wp2_with fail
      go_meet
      case rel =>
        have := G2.out.set HL.out.1 (tmpA (tmp + es.length))
        first | exact this | exact this.drew | exact this.drew.drew | (simpa [binTy, tmpA] using this.drew) | (simpa [binTy, tmpA] using this)
  case rest =>
  have H1 := Lib.hid hcut
  obtain ⟨wA1, hwA1⟩ : ∃ wA, wA = wc := ⟨_, rfl⟩
  subst hwA1
  clear hcut H0
  go_upto_region 6 with (fail)
  go_cut [] (fun w' => CopS w lo bs v tmp ((es ++ [⟨4, 32, 12, 0, [⟨x0, x1, x2, x3, x4, x5⟩, wordA 3]⟩]) ++ [⟨4, 32, 8, 0, [tmpA (tmp + es.length), wordA 1]⟩]) r (tmpA (tmp + (es.length + 1 : Nat))) w')
  case first =>
    obtain ⟨q0, q1, q2, q3, q4, q5, ql⟩ := H1.out.cells
    try unfold tmpA at q0 q1 q2 q3 q4 q5
    dsimp only at q0 q1 q2 q3 q4 q5
    go_region_with (first | (go_at_call 68; refine (tword_c 1 _).mono ?_; rintro e u1 ⟨rfl, hb1⟩; have hb1' : New wA1 u1 := (by first | exact hb1 | exact Below.trans ((New.refl wA1).drew) hb1); have G1 := Lib.hid (H1.out.new' hb1'); obtain ⟨p0, p1, p2, p3, p4, p5, pl⟩ := G1.out.cells; (try unfold tmpA at p0 p1 p2 p3 p4 p5); dsimp only at p0 p1 p2 p3 p4 p5; unfold wordA Atom.val; dsimp only; clear hb1 hb1') | (go_at_call 74; (refine (bin_cop w lo bs v tmp ((es ++ [⟨4, 32, 12, 0, [⟨x0, x1, x2, x3, x4, x5⟩, wordA 3]⟩])) r (tmpA (tmp + es.length)) 8 (tmpA (tmp + es.length)) (wordA 1) _ (by first | exact G1.out | exact G1.out.drew | exact G1.out.drew.drew) HL.out.2 (by first | omega | (simp; omega)) ht0 (by omega)).mono ?_); rintro e u2 ⟨rfl, hs2⟩; have G2 := Lib.hid hs2; obtain ⟨p0, p1, p2, p3, p4, p5, pl⟩ := G2.out.cells; have pf : ∀ i, u2.frozen? ⟨r, i, none⟩ = false := (fun i => frozen_of_heap G2.out.box); (try unfold tmpA at p0 p1 p2 p3 p4 p5); dsimp only at p0 p1 p2 p3 p4 p5; unfold tmpA Atom.val; dsimp only; clear hs2))
    all_goals
      go_wp2_with fail
      go_meet
      case rel =>
        have := G2.out.set HL.out.1 (tmpA (tmp + (es.length + 1 : Nat)))
        first | exact this | exact this.drew | exact this.drew.drew | (simpa [binTy, tmpA] using this.drew) | (simpa [binTy, tmpA] using this)
  case rest =>
  have H2 := Lib.hid hcut
  clear hcut
  go_wp2
  go_ret
  exact H2.out.post _
set_option maxRecDepth 100000 in
set_option maxHeartbeats 4000000 in
theorem copied_7 (lo bs : Nat) (v : Value) (tmp : Int) (es : List IExpr) (x0 x1 x2 x3 x4 x5 : Int) (w : World) (hs : SimE w lo bs v tmp es) (hn : es.length ≤ 900) (ht0 : 0 ≤ tmp) (ht1 : tmp ≤ 9000) :
    Calls Try.prog 72 #[.pointer (some ⟨bs, 0, none⟩), .int .i64 7, .agg #[.int .i64 x0, .int .i64 x1, .int .u32 x2, .int .u32 x3, .int .u32 x4, .int .u32 x5]] w (SimPost lo bs v tmp (((es ++ [⟨4, 32, 12, 0, [⟨x0, x1, x2, x3, x4, x5⟩, wordA 3]⟩]) ++ [⟨4, 32, 8, 0, [tmpA (tmp + es.length), wordA 1]⟩]) ++ [⟨4, 32, 10, 0, [tmpA (tmp + (es.length + 1 : Nat)), wordA 1]⟩]) (.bool true) w) := by
  have HS := Lib.hid hs
  have HL := Lib.hid hs.lt
  clear hs
  have hmm := @run_makeMap Try.prog
  have m0 := fun (w : World) r hr => run_mapInsert (P := Try.prog) (T := 55) Try.underlying55 Try.underlying3 #[] 0 4 (.int .u32 1) w r hr rfl
  have m1 := fun (w : World) r hr => run_mapInsert (P := Try.prog) (T := 55) Try.underlying55 Try.underlying3 #[{ key := .int .i64 4, val := .int .u32 1, born := 0 }] 1 2 (.int .u32 2) w r hr rfl
  have m2 := fun (w : World) r hr => run_mapInsert (P := Try.prog) (T := 55) Try.underlying55 Try.underlying3 #[{ key := .int .i64 4, val := .int .u32 1, born := 0 }, { key := .int .i64 2, val := .int .u32 2, born := 1 }] 2 6 (.int .u32 3) w r hr rfl
  have m3 := fun (w : World) r hr => run_mapGet_at (P := Try.prog) (T := 55) Try.underlying55 Try.underlying3 #[{ key := .int .i64 4, val := .int .u32 1, born := 0 }, { key := .int .i64 2, val := .int .u32 2, born := 1 }, { key := .int .i64 6, val := .int .u32 3, born := 2 }] 3 6 2 (.int .u32 3) w r hr rfl false
  have k1 : bits .andNot .i64 7 1 = 6 := by decide +kernel
  have k2 : bits .and .i64 7 1 = 1 := by decide +kernel
  go_enter Try.func72, Try.ntmps72
  go_upto_region 4 with (fail)
  have H0r : CopS w lo bs v tmp es w.heap.size ⟨x0, x1, x2, x3, x4, x5⟩ ((w.alloc (.cells #[.int .i64 x0, .int .i64 x1, .int .u32 x2, .int .u32 x3, .int .u32 x4, .int .u32 x5] 59)).alloc (.map #[{ key := .int .i64 4, val := .int .u32 1, born := 0 }, { key := .int .i64 2, val := .int .u32 2, born := 1 }, { key := .int .i64 6, val := .int .u32 3, born := 2 }] 3)) :=
    ⟨⟨v, (SimR.of HS.out (.cells #[.int .i64 x0, .int .i64 x1, .int .u32 x2, .int .u32 x3, .int .u32 x4, .int .u32 x5] 59) w.heap.size rfl).alloc _, ((Kp.refl _ _ w).alloc _).alloc _, fun g h => .inl h⟩, heap_keep (heap_alloc_at _ _ _ rfl), Nat.le_refl _⟩
  have H0 := Lib.hid H0r
  clear hmm m0 m1 m2 m3 H0r k1
  generalize (w.alloc (.cells #[.int .i64 x0, .int .i64 x1, .int .u32 x2, .int .u32 x3, .int .u32 x4, .int .u32 x5] 59)).alloc (.map #[{ key := .int .i64 4, val := .int .u32 1, born := 0 }, { key := .int .i64 2, val := .int .u32 2, born := 1 }, { key := .int .i64 6, val := .int .u32 3, born := 2 }] 3) = wA0 at *
  obtain ⟨r, hr⟩ : ∃ r, w.heap.size = r := ⟨_, rfl⟩
  have hr' : w.heap.size ≤ r := by omega
  rw [hr] at H0
  rw [hr]
  have HRR := Lib.hid hr
  clear hr
  go_upto_region 5 with (fail)
  go_cut [] (fun w' => CopS w lo bs v tmp (es ++ [⟨4, 32, 12, 0, [⟨x0, x1, x2, x3, x4, x5⟩, wordA 3]⟩]) r (tmpA (tmp + es.length)) w')
  case first =>
    obtain ⟨q0, q1, q2, q3, q4, q5, ql⟩ := H0.out.cells
    try unfold tmpA at q0 q1 q2 q3 q4 q5
    dsimp only at q0 q1 q2 q3 q4 q5
    go_region_with (first | (go_at_call 68; refine (tword_c 3 _).mono ?_; rintro e u1 ⟨rfl, hb1⟩; have hb1' : New wA0 u1 := (by first | exact hb1 | exact Below.trans ((New.refl wA0).drew) hb1); have G1 := Lib.hid (H0.out.new' hb1'); obtain ⟨p0, p1, p2, p3, p4, p5, pl⟩ := G1.out.cells; (try unfold tmpA at p0 p1 p2 p3 p4 p5); dsimp only at p0 p1 p2 p3 p4 p5; unfold wordA Atom.val; dsimp only; clear hb1 hb1') | (go_at_call 74; (refine (bin_cop w lo bs v tmp (es) r (⟨x0, x1, x2, x3, x4, x5⟩) 12 (⟨x0, x1, x2, x3, x4, x5⟩) (wordA 3) _ (by first | exact G1.out | exact G1.out.drew | exact G1.out.drew.drew) HL.out.2 (by first | omega | (simp; omega)) ht0 (by omega)).mono ?_); rintro e u2 ⟨rfl, hs2⟩; have G2 := Lib.hid hs2; obtain ⟨p0, p1, p2, p3, p4, p5, pl⟩ := G2.out.cells; have pf : ∀ i, u2.frozen? ⟨r, i, none⟩ = false := (fun i => frozen_of_heap G2.out.box); (try unfold tmpA at p0 p1 p2 p3 p4 p5); dsimp only at p0 p1 p2 p3 p4 p5; unfold tmpA Atom.val; dsimp only; clear hs2))
    all_goals
      go_wp2_with fail
      go_meet
      case rel =>
        have := G2.out.set HL.out.1 (tmpA (tmp + es.length))
        first | exact this | exact this.drew | exact this.drew.drew | (simpa [binTy, tmpA] using this.drew) | (simpa [binTy, tmpA] using this)
  case rest =>
  have H1 := Lib.hid hcut
  obtain ⟨wA1, hwA1⟩ : ∃ wA, wA = wc := ⟨_, rfl⟩
  subst hwA1
  clear hcut H0
  go_upto_region 6 with (fail)
  go_cut [] (fun w' => CopS w lo bs v tmp ((es ++ [⟨4, 32, 12, 0, [⟨x0, x1, x2, x3, x4, x5⟩, wordA 3]⟩]) ++ [⟨4, 32, 8, 0, [tmpA (tmp + es.length), wordA 1]⟩]) r (tmpA (tmp + (es.length + 1 : Nat))) w')
  case first =>
    obtain ⟨q0, q1, q2, q3, q4, q5, ql⟩ := H1.out.cells
    try unfold tmpA at q0 q1 q2 q3 q4 q5
    dsimp only at q0 q1 q2 q3 q4 q5
    go_region_with (first | (go_at_call 68; refine (tword_c 1 _).mono ?_; rintro e u1 ⟨rfl, hb1⟩; have hb1' : New wA1 u1 := (by first | exact hb1 | exact Below.trans ((New.refl wA1).drew) hb1); have G1 := Lib.hid (H1.out.new' hb1'); obtain ⟨p0, p1, p2, p3, p4, p5, pl⟩ := G1.out.cells; (try unfold tmpA at p0 p1 p2 p3 p4 p5); dsimp only at p0 p1 p2 p3 p4 p5; unfold wordA Atom.val; dsimp only; clear hb1 hb1') | (go_at_call 74; (refine (bin_cop w lo bs v tmp ((es ++ [⟨4, 32, 12, 0, [⟨x0, x1, x2, x3, x4, x5⟩, wordA 3]⟩])) r (tmpA (tmp + es.length)) 8 (tmpA (tmp + es.length)) (wordA 1) _ (by first | exact G1.out | exact G1.out.drew | exact G1.out.drew.drew) HL.out.2 (by first | omega | (simp; omega)) ht0 (by omega)).mono ?_); rintro e u2 ⟨rfl, hs2⟩; have G2 := Lib.hid hs2; obtain ⟨p0, p1, p2, p3, p4, p5, pl⟩ := G2.out.cells; have pf : ∀ i, u2.frozen? ⟨r, i, none⟩ = false := (fun i => frozen_of_heap G2.out.box); (try unfold tmpA at p0 p1 p2 p3 p4 p5); dsimp only at p0 p1 p2 p3 p4 p5; unfold tmpA Atom.val; dsimp only; clear hs2))
    all_goals
      go_wp2_with fail
      go_meet
      case rel =>
        have := G2.out.set HL.out.1 (tmpA (tmp + (es.length + 1 : Nat)))
        first | exact this | exact this.drew | exact this.drew.drew | (simpa [binTy, tmpA] using this.drew) | (simpa [binTy, tmpA] using this)
  case rest =>
  have H2 := Lib.hid hcut
  obtain ⟨wA2, hwA2⟩ : ∃ wA, wA = wc := ⟨_, rfl⟩
  subst hwA2
  clear hcut
  go_upto_region 8 with (fail)
  obtain ⟨q0, q1, q2, q3, q4, q5, ql⟩ := H2.out.cells
  try unfold tmpA at q0 q1 q2 q3 q4 q5
  dsimp only at q0 q1 q2 q3 q4 q5
  go_region_with (first | (go_at_call 68; refine (tword_c 1 _).mono ?_; rintro e u1 ⟨rfl, hb1⟩; have hb1' : New wA2 u1 := (by first | exact hb1 | exact Below.trans ((New.refl wA2).drew) hb1); have G1 := Lib.hid (H2.out.new' hb1'); obtain ⟨p0, p1, p2, p3, p4, p5, pl⟩ := G1.out.cells; (try unfold tmpA at p0 p1 p2 p3 p4 p5); dsimp only at p0 p1 p2 p3 p4 p5; unfold wordA Atom.val; dsimp only; clear hb1 hb1') | (go_at_call 74; (refine (bin_cop w lo bs v tmp (((es ++ [⟨4, 32, 12, 0, [⟨x0, x1, x2, x3, x4, x5⟩, wordA 3]⟩]) ++ [⟨4, 32, 8, 0, [tmpA (tmp + es.length), wordA 1]⟩])) r (tmpA (tmp + (es.length + 1 : Nat))) 10 (tmpA (tmp + (es.length + 1 : Nat))) (wordA 1) _ (by first | exact G1.out | exact G1.out.drew | exact G1.out.drew.drew) HL.out.2 (by first | omega | (simp; omega)) ht0 (by omega)).mono ?_); rintro e u2 ⟨rfl, hs2⟩; have G2 := Lib.hid hs2; obtain ⟨p0, p1, p2, p3, p4, p5, pl⟩ := G2.out.cells; have pf : ∀ i, u2.frozen? ⟨r, i, none⟩ = false := (fun i => frozen_of_heap G2.out.box); (try unfold tmpA at p0 p1 p2 p3 p4 p5); dsimp only at p0 p1 p2 p3 p4 p5; unfold tmpA Atom.val; dsimp only; clear hs2))
  all_goals
    go_wp2
    go_ret
    first | exact G2.out.post _ | exact G2.out.drew.post _
/-- The shift ahead of a flag's bit. -/
def copyBy (i : Nat) : Int := if i / 2 = 2 then 1 else if i / 2 = 1 then 2 else if i / 2 = 3 then 3 else 0
def copyE (i : Nat) (x : Atom) (tmp : Int) (n : Nat) : List IExpr :=
  if i / 2 = 0 then (if i % 2 = 1 then [⟨4, 32, 8, 0, [x, wordA 1]⟩, ⟨4, 32, 10, 0, [tmpA (tmp + n), wordA 1]⟩] else [⟨4, 32, 8, 0, [x, wordA 1]⟩])
  else (if i % 2 = 1 then [⟨4, 32, 12, 0, [x, wordA (copyBy i)]⟩, ⟨4, 32, 8, 0, [tmpA (tmp + n), wordA 1]⟩, ⟨4, 32, 10, 0, [tmpA (tmp + (n + 1 : Nat)), wordA 1]⟩] else [⟨4, 32, 12, 0, [x, wordA (copyBy i)]⟩, ⟨4, 32, 8, 0, [tmpA (tmp + n), wordA 1]⟩])
theorem copied_c (lo bs : Nat) (v : Value) (tmp : Int) (es : List IExpr) (i : Nat) (x : Atom) (w : World) (hs : SimE w lo bs v tmp es) (hn : es.length ≤ 900) (ht0 : 0 ≤ tmp) (ht1 : tmp ≤ 9000) (hi : i ≤ 7) :
    Calls Try.prog 72 #[.pointer (some ⟨bs, 0, none⟩), .int .i64 i, x.val] w (SimPost lo bs v tmp (es ++ copyE i x tmp es.length) (.bool true) w) := by
  obtain ⟨x0, x1, x2, x3, x4, x5⟩ := x
  have hx : i = 0 ∨ i = 1 ∨ i = 2 ∨ i = 3 ∨ i = 4 ∨ i = 5 ∨ i = 6 ∨ i = 7 := by omega
  rcases hx with rfl | rfl | rfl | rfl | rfl | rfl | rfl | rfl
  · have h := copied_0 lo bs v tmp es x0 x1 x2 x3 x4 x5 w hs hn ht0 ht1
    try simp only [List.append_assoc, List.singleton_append] at h
    exact h
  · have h := copied_1 lo bs v tmp es x0 x1 x2 x3 x4 x5 w hs hn ht0 ht1
    try simp only [List.append_assoc, List.singleton_append] at h
    exact h
  · have h := copied_2 lo bs v tmp es x0 x1 x2 x3 x4 x5 w hs hn ht0 ht1
    try simp only [List.append_assoc, List.singleton_append] at h
    exact h
  · have h := copied_3 lo bs v tmp es x0 x1 x2 x3 x4 x5 w hs hn ht0 ht1
    try simp only [List.append_assoc, List.singleton_append] at h
    exact h
  · have h := copied_4 lo bs v tmp es x0 x1 x2 x3 x4 x5 w hs hn ht0 ht1
    try simp only [List.append_assoc, List.singleton_append] at h
    exact h
  · have h := copied_5 lo bs v tmp es x0 x1 x2 x3 x4 x5 w hs hn ht0 ht1
    try simp only [List.append_assoc, List.singleton_append] at h
    exact h
  · have h := copied_6 lo bs v tmp es x0 x1 x2 x3 x4 x5 w hs hn ht0 ht1
    try simp only [List.append_assoc, List.singleton_append] at h
    exact h
  · have h := copied_7 lo bs v tmp es x0 x1 x2 x3 x4 x5 w hs hn ht0 ht1
    try simp only [List.append_assoc, List.singleton_append] at h
    exact h
set_option maxHeartbeats 1000000 in
theorem copied_hi (lo bs : Nat) (v : Value) (tmp : Int) (es : List IExpr) (i : Int) (x : Atom) (w : World) (hs : SimE w lo bs v tmp es) (hi : 7 < i) :
    Calls Try.prog 72 #[.pointer (some ⟨bs, 0, none⟩), .int .i64 i, x.val] w (SimPost lo bs v tmp es (.bool false) w) := by
  have HS := Lib.hid hs
  clear hs
  unfold Atom.val
  go_enter Try.func72, Try.ntmps72
  go_wp2
  go_ret
  exact SimPost.refl HS.out (by go_grown) _
end Go.Proofs.Ytmkjgkldbonpnaa
