/- Parts of the proof: WFourEq, WSimA, WSimE. -/
import Derived.Test.YtmkjgkldbonpnaaZ0
import Derived.Test.YtmkjgkldbonpnaaZ3
import Derived.Test.YtmkjgkldbonpnaaZ2
import Derived.Test.YtmkjgkldbonpnaaZ5
/- '==' of thunks of the specification; the normal form's plain laws. -/
namespace Go.Proofs.Ytmkjgkldbonpnaa
open Go Go.RowKit Go.Cd
set_option linter.unusedVariables false

theorem eq_four (d : Nat) (a b : Four) (w : World) :
    (Op.equalIn (d + 2) 34 (four a) (four b)).run Try.prog w = .ok (a.1 == b.1 && (a.2.1 == b.2.1 && (a.2.2.1 == b.2.2.1 && (a.2.2.2 == b.2.2.2 && true)))) w := by
  unfold four
  refine eq_struct Try.underlying34 (by kernel_rfl) ?_
  refine eqF_cons (a := .int .u32 a.1) (b := .int .u32 b.1) (by decide) (by kernel_rfl) (by kernel_rfl) (run_equalIn_int w d _ _ _ _ _ Try.underlying29) ?_
  refine eqF_cons (a := .int .u32 a.2.1) (b := .int .u32 b.2.1) (by decide) (by kernel_rfl) (by kernel_rfl) (run_equalIn_int w d _ _ _ _ _ Try.underlying29) ?_
  refine eqF_cons (a := .int .u32 a.2.2.1) (b := .int .u32 b.2.2.1) (by decide) (by kernel_rfl) (by kernel_rfl) (run_equalIn_int w d _ _ _ _ _ Try.underlying29) ?_
  refine eqF_cons (a := .int .u32 a.2.2.2) (b := .int .u32 b.2.2.2) (by decide) (by kernel_rfl) (by kernel_rfl) (run_equalIn_int w d _ _ _ _ _ Try.underlying29) ?_
  exact eqF_nil
theorem eql_four (a0 a1 a2 a3 b0 b1 b2 b3 : Int) (w : World) :
    (binOp .eql 34 (.agg #[.int .u32 a0, .int .u32 a1, .int .u32 a2, .int .u32 a3]) (.agg #[.int .u32 b0, .int .u32 b1, .int .u32 b2, .int .u32 b3])).run Try.prog w = .ok (.bool (a0 == b0 && (a1 == b1 && (a2 == b2 && (a3 == b3 && true))))) w := by
  have h := eq_four 9998 (a0, a1, a2, a3) (b0, b1, b2, b3) w
  unfold four at h
  dsimp only at h
  rw [run_eql_struct, h]; rfl
theorem neq_four (a0 a1 a2 a3 b0 b1 b2 b3 : Int) (w : World) :
    (binOp .neq 34 (.agg #[.int .u32 a0, .int .u32 a1, .int .u32 a2, .int .u32 a3]) (.agg #[.int .u32 b0, .int .u32 b1, .int .u32 b2, .int .u32 b3])).run Try.prog w = .ok (.bool (!(a0 == b0 && (a1 == b1 && (a2 == b2 && (a3 == b3 && true)))))) w := by
  have h := eq_four 9998 (a0, a1, a2, a3) (b0, b1, b2, b3) w
  unfold four at h
  dsimp only at h
  rw [run_neq_struct, h]; rfl

/-- All four are words. -/
def Bd (t : Four) : Prop := (0 ≤ t.1 ∧ t.1 < 4294967296) ∧ (0 ≤ t.2.1 ∧ t.2.1 < 4294967296) ∧ (0 ≤ t.2.2.1 ∧ t.2.2.1 < 4294967296) ∧ (0 ≤ t.2.2.2 ∧ t.2.2.2 < 4294967296)
theorem norm2_bd (op d1 d2 : Int) (h0 : 0 ≤ op ∧ op < 4294967296) (h1 : 0 ≤ d1 ∧ d1 < 4294967296) (h2 : 0 ≤ d2 ∧ d2 < 4294967296) : Bd (norm2 op d1 d2) := by
  unfold norm2 Bd
  split
  · dsimp only; omega
  · split <;> (dsimp only; omega)
theorem normF_bd (op d1 d2 d3 : Int) (h0 : 0 ≤ op ∧ op < 4294967296) (h1 : 0 ≤ d1 ∧ d1 < 4294967296) (h2 : 0 ≤ d2 ∧ d2 < 4294967296) (h3 : 0 ≤ d3 ∧ d3 < 4294967296) : Bd (normF op d1 d2 d3) := by
  unfold normF
  split
  · unfold Bd; dsimp only; omega
  split
  · split
    · unfold Bd; dsimp only; omega
    · exact norm2_bd _ _ _ (by omega) h1 h2
  split
  · split
    · unfold Bd; dsimp only; omega
    · exact norm2_bd _ _ _ (by omega) h1 h2
  split
  · split <;> (unfold Bd; dsimp only; omega)
  split
  · exact norm2_bd _ _ _ h0 h1 h2
  split <;> (unfold Bd; dsimp only; omega)
theorem four_cells {w : World} {b : Nat} {a0 a1 a2 a3 : Int} {t : TypeId} (h : w.heap[b]? = some (.cells #[.int .u32 a0, .int .u32 a1, .int .u32 a2, .int .u32 a3] t)) :
    w.cell? ⟨b, 0, none⟩ = some (.int .u32 a0) ∧ w.cell? ⟨b, 1, none⟩ = some (.int .u32 a1) ∧ w.cell? ⟨b, 2, none⟩ = some (.int .u32 a2) ∧ w.cell? ⟨b, 3, none⟩ = some (.int .u32 a3) ∧ b < w.heap.size :=
  ⟨cell_of_heap h rfl, cell_of_heap h rfl, cell_of_heap h rfl, cell_of_heap h rfl, lt_of_heap h⟩
theorem keep {w w' : World} {b : Nat} {o : Obj} (hb : New w w') (h : w.heap[b]? = some o) : w'.heap[b]? = some o := (hb.block _ (lt_of_heap h)).trans h
end Go.Proofs.Ytmkjgkldbonpnaa
/- The simplifier's simplified, for all conditions and operations. -/
namespace Go.Proofs.Ytmkjgkldbonpnaa
open Go Go.RowKit Go.Cd
set_option linter.unusedVariables false

/-- The comparison that a condition is behind a subtraction, and of a result with zero; 0: none. -/
def cmpOpS (i : Nat) : Int := [14, 15, 16, 18, 0, 0, 0, 0, 18, 16, 17, 19, 19, 17].getD i 0
def cmpExS (i : Nat) : Bool := [false, false, false, true, false, false, false, false, false, true, false, true, false, true].getD i false
def cmpOpR (i : Nat) : Int := [14, 15, 0, 0, 17, 19, 0, 0, 14, 15, 17, 19, 19, 17].getD i 0
def cmpExR (i : Nat) : Bool := [false, false, false, false, false, true, false, false, false, false, false, true, false, true].getD i false
theorem cmp_tab (i : Nat) (h : i < 14) : cmpS[i * 2]? = some (.int .i64 (cmpOpS i)) ∧ cmpS[i * 2 + 1]? = some (.bool (cmpExS i)) ∧ cmpR[i * 2]? = some (.int .i64 (cmpOpR i)) ∧ cmpR[i * 2 + 1]? = some (.bool (cmpExR i)) := by
  have h' : i = 0 ∨ i = 1 ∨ i = 2 ∨ i = 3 ∨ i = 4 ∨ i = 5 ∨ i = 6 ∨ i = 7 ∨ i = 8 ∨ i = 9 ∨ i = 10 ∨ i = 11 ∨ i = 12 ∨ i = 13 := by omega
  rcases h' with rfl | rfl | rfl | rfl | rfl | rfl | rfl | rfl | rfl | rfl | rfl | rfl | rfl | rfl
  all_goals exact ⟨rfl, rfl, rfl, rfl⟩
/-- What a comparison adds; nothing: there is none. -/
def cmpO (op : Int) (ex : Bool) (x y : Atom) (tmp : Int) (n : Nat) : List IExpr := if op = 0 then [] else cmpE op ex x y tmp n
theorem compared_c (lo bs : Nat) (v : Value) (tmp : Int) (es : List IExpr) (op : Int) (ex : Bool) (x y : Atom) (w : World) (hs : SimE w lo bs v tmp es) (hn : es.length ≤ 900) (ht0 : 0 ≤ tmp) (ht1 : tmp ≤ 10000) :
    Calls Try.prog 71 #[.pointer (some ⟨bs, 0, none⟩), .agg #[.int .i64 op, .bool ex], x.val, y.val] w (SimPost lo bs v tmp (es ++ cmpO op ex x y tmp es.length) (.bool (op != 0)) w) := by
  by_cases h : op = 0
  · subst h
    have e : es ++ cmpO 0 ex x y tmp es.length = es := by simp [cmpO]
    rw [e]
    exact compared_0 lo bs v tmp es ex x y w hs
  · have e : cmpO op ex x y tmp es.length = cmpE op ex x y tmp es.length := by unfold cmpO; rw [if_neg h]
    have e2 : (op != 0) = true := by simpa using h
    rw [e, e2]
    exact compared_e lo bs v tmp es op ex x y w hs hn ht0 ht1 (by simpa using h)
def isSgn (i : Nat) : Bool := i == 4 || i == 5
/-- What a condition that is known adds, for an operation that is known; false: there is nothing. -/
def simpL (i : Nat) (op : Int) (x y : Atom) (tmp : Int) : List IExpr × Bool :=
  if op = 2 ∧ isSgn i = false then (cmpO (cmpOpS i) (cmpExS i) x y tmp 0, cmpOpS i != 0)
  else if op = 3 then (if i = 2 ∨ i = 3 ∨ i = 6 ∨ i = 7 then ([⟨1, 32, 0, 0, [wordA ((i : Int) % 2)]⟩], true) else (cmpO (cmpOpR i) (cmpExR i) x (wordA 0) tmp 0, cmpOpR i != 0))
  else if op = 0 then (if i ≤ 7 then (copyE i x tmp 0, true) else ([], false))
  else if op = 1 ∧ i = 2 then ([⟨4, 32, 1, 0, [x, y]⟩] ++ cmpE 16 false (tmpA tmp) x tmp 1, true)
  else if op = 1 ∧ i = 3 then ([⟨4, 32, 1, 0, [x, y]⟩] ++ cmpE 18 false x (tmpA tmp) tmp 1, true)
  else if i = 0 ∨ i = 1 ∨ i = 4 ∨ i = 5 then (if opB op = 0 then ([], false) else ([⟨4, 32, opB op, 0, [x, y]⟩] ++ cmpO (cmpOpR i) (cmpExR i) (tmpA tmp) (wordA 0) tmp 1, cmpOpR i != 0))
  else ([], false)
attribute [local go_sem] ones_nil ones_int ones_bool st1 st2 ld1 ld2 st1d st2d ld1d ld2d
attribute [local go_sem ↓] ex1 ex2 Go.wp_at_zero Go.wp_at_succ
/-- Behind the tables and the zero. -/
structure SimT (w0 w : World) (bS bR bX bY bZ : Nat) (x y : Atom) : Prop where
  s : w.heap[bS]? = some (.cells cmpS 108)
  r : w.heap[bR]? = some (.cells cmpR 108)
  x : w.heap[bX]? = some (.cells #[.int .i64 x.tmp, .int .i64 x.ty, .int .u32 x.c0, .int .u32 x.c1, .int .u32 x.c2, .int .u32 x.c3] 59)
  y : w.heap[bY]? = some (.cells #[.int .i64 y.tmp, .int .i64 y.ty, .int .u32 y.c0, .int .u32 y.c1, .int .u32 y.c2, .int .u32 y.c3] 59)
  z : w.heap[bZ]? = some (.cells #[.int .i64 (-1), .int .i64 32, .int .u32 0, .int .u32 0, .int .u32 0, .int .u32 0] 59)
  n : New w0 w
theorem SimT.new {w0 w w' : World} {bS bR bX bY bZ : Nat} {x y : Atom} (h : SimT w0 w bS bR bX bY bZ x y) (hb : New w w') : SimT w0 w' bS bR bX bY bZ x y :=
  ⟨keep hb h.s, keep hb h.r, keep hb h.x, keep hb h.y, keep hb h.z, h.n.trans (hb.mono h.n.size)⟩
set_option maxRecDepth 100000 in
set_option maxHeartbeats 8000000 in
theorem simplified_A (lo bs : Nat) (v : Value) (tmp : Int) (i : Nat) (op : Int) (x y : Atom) (w : World) (hs : SimE w lo bs v tmp []) (ht0 : 0 ≤ tmp) (ht1 : tmp ≤ 9000) (hi : i < 14) (hop : 0 ≤ op) (hcase : (op = 2 ∧ isSgn i = false) ∨ op = 3 ∨ op = 0) :
    Calls Try.prog 40 #[.pointer (some ⟨bs, 0, none⟩), .int .i64 i, .int .u32 op, x.val, y.val] w (SimPost lo bs v tmp (simpL i op x y tmp).1 (.bool (simpL i op x y tmp).2) w) := by
  have HS := Lib.hid hs
  have HCASE := Lib.hid hcase
  clear hcase
  have HX := Lib.hid hi
  clear hs
  obtain ⟨x0, x1, x2, x3, x4, x5⟩ := x
  obtain ⟨y0, y1, y2, y3, y4, y5⟩ := y
  unfold Atom.val
  dsimp only
  go_enter Try.func40, Try.ntmps40
  go_wp2_with fail
  refine (comparisons_c _).mono ?_
  rintro e w1 ⟨rfl, hb1⟩
  have hn1 : New w w1 := Below.trans (by go_grown) (hb1.mono (by simp; omega))
  have X1r : w1.heap[w.heap.size]? = some (.cells #[.int .i64 x0, .int .i64 x1, .int .u32 x2, .int .u32 x3, .int .u32 x4, .int .u32 x5] 59) := (hb1.block _ (by simp only [World.size_alloc]; omega)).trans (heap_keep (heap_alloc_at _ _ _ rfl))
  have Y1r : w1.heap[w.heap.size + 1]? = some (.cells #[.int .i64 y0, .int .i64 y1, .int .u32 y2, .int .u32 y3, .int .u32 y4, .int .u32 y5] 59) := (hb1.block _ (by simp only [World.size_alloc]; omega)).trans (heap_alloc_at _ _ _ (by simp))
  have hz1 := hb1.size
  simp only [World.size_alloc] at hz1
  have X1 := Lib.hid X1r
  have Y1 := Lib.hid Y1r
  have HN1 := Lib.hid hn1
  clear hb1 hn1 X1r Y1r
  unfold cmpS cmpR
  go_wp2_with fail
  refine (tword_c 0 _).mono ?_
  rintro e w2 ⟨rfl, hb2⟩
  have hn2 : New w w2 := Below.trans (HN1.out.alloc (by omega) _ |>.alloc (by simp only [World.size_alloc]; omega) _) (hb2.mono (by simp only [World.size_alloc]; omega))
  have hz2 := hb2.size
  simp only [World.size_alloc] at hz2
  have ZB := (New.refl w2).alloc (Nat.le_refl _) (.cells #[.int .i64 (-1), .int .i64 32, .int .u32 0, .int .u32 0, .int .u32 0, .int .u32 0] 59)
  have T3 := Lib.hid (show SimT w (w2.alloc (.cells #[.int .i64 (-1), .int .i64 32, .int .u32 0, .int .u32 0, .int .u32 0, .int .u32 0] 59)) w1.heap.size (w1.heap.size + 1) w.heap.size (w.heap.size + 1) w2.heap.size ⟨x0, x1, x2, x3, x4, x5⟩ ⟨y0, y1, y2, y3, y4, y5⟩ from
    ⟨keep ZB ((hb2.block w1.heap.size (by simp only [World.size_alloc]; omega)).trans (heap_keep (heap_alloc_at _ _ _ rfl))),
     keep ZB ((hb2.block (w1.heap.size + 1) (by simp only [World.size_alloc]; omega)).trans (heap_alloc_at _ _ _ (by simp))),
     keep ZB ((hb2.block _ (by simp only [World.size_alloc]; omega)).trans (heap_keep (heap_keep X1.out))),
     keep ZB ((hb2.block _ (by simp only [World.size_alloc]; omega)).trans (heap_keep (heap_keep Y1.out))),
     heap_alloc_at _ _ _ rfl, hn2.trans (ZB.mono hn2.size)⟩)
  have HS3 := Lib.hid ((HS.out.new hn2).alloc (.cells #[.int .i64 (-1), .int .i64 32, .int .u32 0, .int .u32 0, .int .u32 0, .int .u32 0] 59))
  clear hb2 hn2 ZB X1 Y1 HN1
  unfold wordA Atom.val
  dsimp only
  go_upto_region 3 with (fail)
  generalize w2.alloc (.cells #[.int .i64 (-1), .int .i64 32, .int .u32 0, .int .u32 0, .int .u32 0, .int .u32 0] 59) = w3 at *
  go_cut [14] (fun s w' => s = .bool (isSgn i) ∧ w' = w3)
  case first =>
    by_cases h4 : i = 4
    · subst h4
      go_wp2_with fail
      go_meet
      case rel => exact ⟨rfl, rfl⟩
    · by_cases h5 : i = 5
      · subst h5
        go_wp2_with fail
        go_meet
        case rel => exact ⟨rfl, rfl⟩
      · have b4 : (((i : Nat) : Int) == 4) = false := by simp; omega
        have b5 : (((i : Nat) : Int) == 5) = false := by simp; omega
        go_wp2_with fail
        go_meet
        case rel => exact ⟨congrArg Value.bool (by simp [isSgn, h4, h5]), rfl⟩
  case rest =>
    obtain ⟨rfl, rfl⟩ := hcut
    have TC := T3
    have HC := HS3
    clear T3 HS3
    by_cases o2 : op = 2 ∧ isSgn i = false
    · obtain ⟨rfl, hsg⟩ := o2
      have hres : simpL i 2 ⟨x0, x1, x2, x3, x4, x5⟩ ⟨y0, y1, y2, y3, y4, y5⟩ tmp = (cmpO (cmpOpS i) (cmpExS i) ⟨x0, x1, x2, x3, x4, x5⟩ ⟨y0, y1, y2, y3, y4, y5⟩ tmp 0, cmpOpS i != 0) := by unfold simpL; rw [if_pos ⟨rfl, hsg⟩]
      have HRES := Lib.hid hres
      clear hres
      have hi0 := HX.out
      go_wp2_with fail
      obtain ⟨tS, tR, tX, tY, tZ, tN⟩ := TC.out
      have a0_ : wc.cell? ⟨w1.heap.size, i * 2, none⟩ = some (.int .i64 (cmpOpS i)) := cell_of_heap tS (cmp_tab i hi).1
      have a1_ : wc.cell? ⟨w1.heap.size, i * 2 + 1, none⟩ = some (.bool (cmpExS i)) := cell_of_heap tS (cmp_tab i hi).2.1
      have al_ := lt_of_heap tS
      have hi1 : (0 : Int) ≤ (i : Nat) := by omega
      have hi2 : ((i : Nat) : Int) < 14 := by omega
      have x0_ : wc.cell? ⟨w.heap.size, 0, none⟩ = some (.int .i64 x0) := cell_of_heap tX rfl
      have x1_ : wc.cell? ⟨w.heap.size, 1, none⟩ = some (.int .i64 x1) := cell_of_heap tX rfl
      have x2_ : wc.cell? ⟨w.heap.size, 2, none⟩ = some (.int .u32 x2) := cell_of_heap tX rfl
      have x3_ : wc.cell? ⟨w.heap.size, 3, none⟩ = some (.int .u32 x3) := cell_of_heap tX rfl
      have x4_ : wc.cell? ⟨w.heap.size, 4, none⟩ = some (.int .u32 x4) := cell_of_heap tX rfl
      have x5_ : wc.cell? ⟨w.heap.size, 5, none⟩ = some (.int .u32 x5) := cell_of_heap tX rfl
      have xl_ := lt_of_heap tX
      have y0_ : wc.cell? ⟨w.heap.size + 1, 0, none⟩ = some (.int .i64 y0) := cell_of_heap tY rfl
      have y1_ : wc.cell? ⟨w.heap.size + 1, 1, none⟩ = some (.int .i64 y1) := cell_of_heap tY rfl
      have y2_ : wc.cell? ⟨w.heap.size + 1, 2, none⟩ = some (.int .u32 y2) := cell_of_heap tY rfl
      have y3_ : wc.cell? ⟨w.heap.size + 1, 3, none⟩ = some (.int .u32 y3) := cell_of_heap tY rfl
      have y4_ : wc.cell? ⟨w.heap.size + 1, 4, none⟩ = some (.int .u32 y4) := cell_of_heap tY rfl
      have y5_ : wc.cell? ⟨w.heap.size + 1, 5, none⟩ = some (.int .u32 y5) := cell_of_heap tY rfl
      have yl_ := lt_of_heap tY
      have TD := Lib.hid (TC.out.new ((New.refl wc).drew))
      have HD := Lib.hid (HC.out.new ((New.refl wc).drew))
      clear tS tR tX tY tZ tN
      go_still_tail 6, (by kernel_rfl)
      change wpList _ _ _ _ _ wc.drew
      clear a0_ a1_ al_
      clear x0_ x1_ x2_ x3_ x4_ x5_ xl_
      clear y0_ y1_ y2_ y3_ y4_ y5_ yl_
      generalize wc.drew = wd at *
      go_wp2_with fail
      refine (compared_c lo bs v tmp [] (cmpOpS i) (cmpExS i) ⟨x0, x1, x2, x3, x4, x5⟩ ⟨y0, y1, y2, y3, y4, y5⟩ _ HD.out (by decide) ht0 (by omega)).mono ?_
      rintro e w5 ⟨v1, rfl, k1, k2, k3⟩
      have HP := Lib.hid (SimPost.new (w := w) (r := .bool (cmpOpS i != 0)) TD.out.n ⟨v1, rfl, k1, k2, k3⟩)
      clear k1 k2 k3
      go_wp2
      go_ret
      rw [HRES.out]
      exact HP.out
    · by_cases o3 : op = 3
      · subst o3
        by_cases c : i = 2 ∨ i = 3 ∨ i = 6 ∨ i = 7
        · have hres : simpL i 3 ⟨x0, x1, x2, x3, x4, x5⟩ ⟨y0, y1, y2, y3, y4, y5⟩ tmp = ([⟨1, 32, 0, 0, [wordA ((i : Int) % 2)]⟩], true) := by unfold simpL; rw [if_neg o2, if_pos rfl, if_pos c]
          have HRES := Lib.hid hres
          clear hres o2
          rcases c with rfl | rfl | rfl | rfl
          · have k1 : bits .and .i64 2 1 = 0 := by decide +kernel
            go_wp2_with fail
            refine (fixed_e lo bs v tmp [] 0 _ HC.out (by decide) ht0 (by omega)).mono ?_
            rintro e w5 ⟨v1, rfl, k1, k2, k3⟩
            have HP := Lib.hid (SimPost.new (w := w) (r := .bool true) TC.out.n ⟨v1, rfl, k1, k2, k3⟩)
            clear k1 k2 k3
            go_wp2
            go_ret
            rw [HRES.out]
            exact HP.out
          · have k1 : bits .and .i64 3 1 = 1 := by decide +kernel
            go_wp2_with fail
            refine (fixed_e lo bs v tmp [] 1 _ HC.out (by decide) ht0 (by omega)).mono ?_
            rintro e w5 ⟨v1, rfl, k1, k2, k3⟩
            have HP := Lib.hid (SimPost.new (w := w) (r := .bool true) TC.out.n ⟨v1, rfl, k1, k2, k3⟩)
            clear k1 k2 k3
            go_wp2
            go_ret
            rw [HRES.out]
            exact HP.out
          · have k1 : bits .and .i64 6 1 = 0 := by decide +kernel
            go_wp2_with fail
            refine (fixed_e lo bs v tmp [] 0 _ HC.out (by decide) ht0 (by omega)).mono ?_
            rintro e w5 ⟨v1, rfl, k1, k2, k3⟩
            have HP := Lib.hid (SimPost.new (w := w) (r := .bool true) TC.out.n ⟨v1, rfl, k1, k2, k3⟩)
            clear k1 k2 k3
            go_wp2
            go_ret
            rw [HRES.out]
            exact HP.out
          · have k1 : bits .and .i64 7 1 = 1 := by decide +kernel
            go_wp2_with fail
            refine (fixed_e lo bs v tmp [] 1 _ HC.out (by decide) ht0 (by omega)).mono ?_
            rintro e w5 ⟨v1, rfl, k1, k2, k3⟩
            have HP := Lib.hid (SimPost.new (w := w) (r := .bool true) TC.out.n ⟨v1, rfl, k1, k2, k3⟩)
            clear k1 k2 k3
            go_wp2
            go_ret
            rw [HRES.out]
            exact HP.out
        · have hres : simpL i 3 ⟨x0, x1, x2, x3, x4, x5⟩ ⟨y0, y1, y2, y3, y4, y5⟩ tmp = (cmpO (cmpOpR i) (cmpExR i) ⟨x0, x1, x2, x3, x4, x5⟩ (wordA 0) tmp 0, cmpOpR i != 0) := by unfold simpL; rw [if_neg o2, if_pos rfl, if_neg c]
          have HRES := Lib.hid hres
          clear hres o2
          have nb2 : (((i : Nat) : Int) != 2) = true := by simp; omega
          have nb3 : (((i : Nat) : Int) != 3) = true := by simp; omega
          have nb6 : (((i : Nat) : Int) != 6) = true := by simp; omega
          have nb7 : (((i : Nat) : Int) != 7) = true := by simp; omega
          clear c
          have hi0 := HX.out
          go_wp2_with fail
          obtain ⟨tS, tR, tX, tY, tZ, tN⟩ := TC.out
          have a0_ : wc.cell? ⟨w1.heap.size + 1, i * 2, none⟩ = some (.int .i64 (cmpOpR i)) := cell_of_heap tR (cmp_tab i hi).2.2.1
          have a1_ : wc.cell? ⟨w1.heap.size + 1, i * 2 + 1, none⟩ = some (.bool (cmpExR i)) := cell_of_heap tR (cmp_tab i hi).2.2.2
          have al_ := lt_of_heap tR
          have hi1 : (0 : Int) ≤ (i : Nat) := by omega
          have hi2 : ((i : Nat) : Int) < 14 := by omega
          have x0_ : wc.cell? ⟨w.heap.size, 0, none⟩ = some (.int .i64 x0) := cell_of_heap tX rfl
          have x1_ : wc.cell? ⟨w.heap.size, 1, none⟩ = some (.int .i64 x1) := cell_of_heap tX rfl
          have x2_ : wc.cell? ⟨w.heap.size, 2, none⟩ = some (.int .u32 x2) := cell_of_heap tX rfl
          have x3_ : wc.cell? ⟨w.heap.size, 3, none⟩ = some (.int .u32 x3) := cell_of_heap tX rfl
          have x4_ : wc.cell? ⟨w.heap.size, 4, none⟩ = some (.int .u32 x4) := cell_of_heap tX rfl
          have x5_ : wc.cell? ⟨w.heap.size, 5, none⟩ = some (.int .u32 x5) := cell_of_heap tX rfl
          have xl_ := lt_of_heap tX
          have z0_ : wc.cell? ⟨w2.heap.size, 0, none⟩ = some (.int .i64 (-1)) := cell_of_heap tZ rfl
          have z1_ : wc.cell? ⟨w2.heap.size, 1, none⟩ = some (.int .i64 32) := cell_of_heap tZ rfl
          have z2_ : wc.cell? ⟨w2.heap.size, 2, none⟩ = some (.int .u32 0) := cell_of_heap tZ rfl
          have z3_ : wc.cell? ⟨w2.heap.size, 3, none⟩ = some (.int .u32 0) := cell_of_heap tZ rfl
          have z4_ : wc.cell? ⟨w2.heap.size, 4, none⟩ = some (.int .u32 0) := cell_of_heap tZ rfl
          have z5_ : wc.cell? ⟨w2.heap.size, 5, none⟩ = some (.int .u32 0) := cell_of_heap tZ rfl
          have zl_ := lt_of_heap tZ
          have TD := Lib.hid (TC.out.new ((New.refl wc).drew))
          have HD := Lib.hid (HC.out.new ((New.refl wc).drew))
          clear tS tR tX tY tZ tN
          go_still_tail 6, (by kernel_rfl)
          change wpList _ _ _ _ _ wc.drew
          clear a0_ a1_ al_
          clear x0_ x1_ x2_ x3_ x4_ x5_ xl_
          clear z0_ z1_ z2_ z3_ z4_ z5_ zl_
          generalize wc.drew = wd at *
          go_wp2_with fail
          refine (compared_c lo bs v tmp [] (cmpOpR i) (cmpExR i) ⟨x0, x1, x2, x3, x4, x5⟩ ⟨(-1), 32, 0, 0, 0, 0⟩ _ HD.out (by decide) ht0 (by omega)).mono ?_
          rintro e w5 ⟨v1, rfl, k1, k2, k3⟩
          have HP := Lib.hid (SimPost.new (w := w) (r := .bool (cmpOpR i != 0)) TD.out.n ⟨v1, rfl, k1, k2, k3⟩)
          clear k1 k2 k3
          go_wp2
          go_ret
          rw [HRES.out]
          exact HP.out
      · by_cases o0 : op = 0
        · subst o0
          clear o2 o3
          by_cases c : i ≤ 7
          · have hres : simpL i 0 ⟨x0, x1, x2, x3, x4, x5⟩ ⟨y0, y1, y2, y3, y4, y5⟩ tmp = (copyE i ⟨x0, x1, x2, x3, x4, x5⟩ tmp 0, true) := by unfold simpL; rw [if_neg (fun q => absurd q.1 (by decide)), if_neg (by decide), if_pos rfl, if_pos c]
            have HRES := Lib.hid hres
            clear hres
            obtain ⟨tS, tR, tX, tY, tZ, tN⟩ := TC.out
            have x0_ : wc.cell? ⟨w.heap.size, 0, none⟩ = some (.int .i64 x0) := cell_of_heap tX rfl
            have x1_ : wc.cell? ⟨w.heap.size, 1, none⟩ = some (.int .i64 x1) := cell_of_heap tX rfl
            have x2_ : wc.cell? ⟨w.heap.size, 2, none⟩ = some (.int .u32 x2) := cell_of_heap tX rfl
            have x3_ : wc.cell? ⟨w.heap.size, 3, none⟩ = some (.int .u32 x3) := cell_of_heap tX rfl
            have x4_ : wc.cell? ⟨w.heap.size, 4, none⟩ = some (.int .u32 x4) := cell_of_heap tX rfl
            have x5_ : wc.cell? ⟨w.heap.size, 5, none⟩ = some (.int .u32 x5) := cell_of_heap tX rfl
            have xl_ := lt_of_heap tX
            clear tS tR tX tY tZ tN
            go_wp2_with fail
            refine (copied_c lo bs v tmp [] i ⟨x0, x1, x2, x3, x4, x5⟩ _ HC.out (by decide) ht0 ht1 c).mono ?_
            rintro e w5 ⟨v1, rfl, k1, k2, k3⟩
            have HP := Lib.hid (SimPost.new (w := w) (r := .bool true) TC.out.n ⟨v1, rfl, k1, k2, k3⟩)
            clear k1 k2 k3
            clear x0_ x1_ x2_ x3_ x4_ x5_ xl_
            go_wp2
            go_ret
            rw [HRES.out]
            exact HP.out
          · have hres : simpL i 0 ⟨x0, x1, x2, x3, x4, x5⟩ ⟨y0, y1, y2, y3, y4, y5⟩ tmp = ([], false) := by unfold simpL; rw [if_neg (fun q => absurd q.1 (by decide)), if_neg (by decide), if_pos rfl, if_neg c]
            have HRES := Lib.hid hres
            clear hres
            obtain ⟨tS, tR, tX, tY, tZ, tN⟩ := TC.out
            have x0_ : wc.cell? ⟨w.heap.size, 0, none⟩ = some (.int .i64 x0) := cell_of_heap tX rfl
            have x1_ : wc.cell? ⟨w.heap.size, 1, none⟩ = some (.int .i64 x1) := cell_of_heap tX rfl
            have x2_ : wc.cell? ⟨w.heap.size, 2, none⟩ = some (.int .u32 x2) := cell_of_heap tX rfl
            have x3_ : wc.cell? ⟨w.heap.size, 3, none⟩ = some (.int .u32 x3) := cell_of_heap tX rfl
            have x4_ : wc.cell? ⟨w.heap.size, 4, none⟩ = some (.int .u32 x4) := cell_of_heap tX rfl
            have x5_ : wc.cell? ⟨w.heap.size, 5, none⟩ = some (.int .u32 x5) := cell_of_heap tX rfl
            have xl_ := lt_of_heap tX
            clear tS tR tX tY tZ tN
            go_wp2_with fail
            refine (copied_hi lo bs v tmp [] i ⟨x0, x1, x2, x3, x4, x5⟩ _ HC.out (by omega)).mono ?_
            rintro e w5 ⟨v1, rfl, k1, k2, k3⟩
            have HP := Lib.hid (SimPost.new (w := w) (r := .bool false) TC.out.n ⟨v1, rfl, k1, k2, k3⟩)
            clear k1 k2 k3
            clear x0_ x1_ x2_ x3_ x4_ x5_ xl_
            go_wp2
            go_ret
            rw [HRES.out]
            exact HP.out
        · exact absurd HCASE.out (by simp only [not_or]; exact ⟨o2, o3, o0⟩)
end Go.Proofs.Ytmkjgkldbonpnaa
/- The simplifier's simplified, for all conditions and operations. -/
namespace Go.Proofs.Ytmkjgkldbonpnaa
open Go Go.RowKit Go.Cd
set_option linter.unusedVariables false

attribute [local go_sem] ones_nil ones_int ones_bool st1 st2 ld1 ld2 st1d st2d ld1d ld2d
attribute [local go_sem ↓] ex1 ex2 Go.wp_at_zero Go.wp_at_succ
theorem Kp.undrew {bs : Nat} {row : Option Nat} {w w' : World} (h : Kp bs row w.drew w') : Kp bs row w w' := ⟨h.os, h.tape, h.output, h.size, h.block⟩
theorem SimPost.drewR {lo bs : Nat} {v : Value} {tmp : Int} {es : List IExpr} {r : Value} {w : World} {e : Ending} {w' : World} (h : SimPost lo bs v tmp es r w e w') : SimPost lo bs v tmp es r w e w'.drew := by
  obtain ⟨v', he, hs, hk, hg⟩ := h
  exact ⟨v', he, hs.new ((New.refl w').drew), hk.new ((New.refl w').drew), hg⟩
set_option maxRecDepth 100000 in
set_option maxHeartbeats 8000000 in
theorem simplified_E (lo bs : Nat) (v : Value) (tmp : Int) (i : Nat) (op : Int) (x y : Atom) (w : World) (hs : SimE w lo bs v tmp []) (ht0 : 0 ≤ tmp) (ht1 : tmp ≤ 9000) (hi : i < 14) (hop : 0 ≤ op) (hcase : op = 1 ∧ i = 2) :
    Calls Try.prog 40 #[.pointer (some ⟨bs, 0, none⟩), .int .i64 i, .int .u32 op, x.val, y.val] w (SimPost lo bs v tmp (simpL i op x y tmp).1 (.bool (simpL i op x y tmp).2) w) := by
  have HS := Lib.hid hs
  have HCASE := Lib.hid hcase
  clear hcase
  have HX := Lib.hid hi
  clear hs
  obtain ⟨x0, x1, x2, x3, x4, x5⟩ := x
  obtain ⟨y0, y1, y2, y3, y4, y5⟩ := y
  unfold Atom.val
  dsimp only
  go_enter Try.func40, Try.ntmps40
  go_wp2_with fail
  refine (comparisons_c _).mono ?_
  rintro e w1 ⟨rfl, hb1⟩
  have hn1 : New w w1 := Below.trans (by go_grown) (hb1.mono (by simp; omega))
  have X1r : w1.heap[w.heap.size]? = some (.cells #[.int .i64 x0, .int .i64 x1, .int .u32 x2, .int .u32 x3, .int .u32 x4, .int .u32 x5] 59) := (hb1.block _ (by simp only [World.size_alloc]; omega)).trans (heap_keep (heap_alloc_at _ _ _ rfl))
  have Y1r : w1.heap[w.heap.size + 1]? = some (.cells #[.int .i64 y0, .int .i64 y1, .int .u32 y2, .int .u32 y3, .int .u32 y4, .int .u32 y5] 59) := (hb1.block _ (by simp only [World.size_alloc]; omega)).trans (heap_alloc_at _ _ _ (by simp))
  have hz1 := hb1.size
  simp only [World.size_alloc] at hz1
  have X1 := Lib.hid X1r
  have Y1 := Lib.hid Y1r
  have HN1 := Lib.hid hn1
  clear hb1 hn1 X1r Y1r
  unfold cmpS cmpR
  go_wp2_with fail
  refine (tword_c 0 _).mono ?_
  rintro e w2 ⟨rfl, hb2⟩
  have hn2 : New w w2 := Below.trans (HN1.out.alloc (by omega) _ |>.alloc (by simp only [World.size_alloc]; omega) _) (hb2.mono (by simp only [World.size_alloc]; omega))
  have hz2 := hb2.size
  simp only [World.size_alloc] at hz2
  have ZB := (New.refl w2).alloc (Nat.le_refl _) (.cells #[.int .i64 (-1), .int .i64 32, .int .u32 0, .int .u32 0, .int .u32 0, .int .u32 0] 59)
  have T3 := Lib.hid (show SimT w (w2.alloc (.cells #[.int .i64 (-1), .int .i64 32, .int .u32 0, .int .u32 0, .int .u32 0, .int .u32 0] 59)) w1.heap.size (w1.heap.size + 1) w.heap.size (w.heap.size + 1) w2.heap.size ⟨x0, x1, x2, x3, x4, x5⟩ ⟨y0, y1, y2, y3, y4, y5⟩ from
    ⟨keep ZB ((hb2.block w1.heap.size (by simp only [World.size_alloc]; omega)).trans (heap_keep (heap_alloc_at _ _ _ rfl))),
     keep ZB ((hb2.block (w1.heap.size + 1) (by simp only [World.size_alloc]; omega)).trans (heap_alloc_at _ _ _ (by simp))),
     keep ZB ((hb2.block _ (by simp only [World.size_alloc]; omega)).trans (heap_keep (heap_keep X1.out))),
     keep ZB ((hb2.block _ (by simp only [World.size_alloc]; omega)).trans (heap_keep (heap_keep Y1.out))),
     heap_alloc_at _ _ _ rfl, hn2.trans (ZB.mono hn2.size)⟩)
  have HS3 := Lib.hid ((HS.out.new hn2).alloc (.cells #[.int .i64 (-1), .int .i64 32, .int .u32 0, .int .u32 0, .int .u32 0, .int .u32 0] 59))
  clear hb2 hn2 ZB X1 Y1 HN1
  unfold wordA Atom.val
  dsimp only
  go_upto_region 3 with (fail)
  generalize w2.alloc (.cells #[.int .i64 (-1), .int .i64 32, .int .u32 0, .int .u32 0, .int .u32 0, .int .u32 0] 59) = w3 at *
  go_cut [14] (fun s w' => s = .bool (isSgn i) ∧ w' = w3)
  case first =>
    by_cases h4 : i = 4
    · subst h4
      go_wp2_with fail
      go_meet
      case rel => exact ⟨rfl, rfl⟩
    · by_cases h5 : i = 5
      · subst h5
        go_wp2_with fail
        go_meet
        case rel => exact ⟨rfl, rfl⟩
      · have b4 : (((i : Nat) : Int) == 4) = false := by simp; omega
        have b5 : (((i : Nat) : Int) == 5) = false := by simp; omega
        go_wp2_with fail
        go_meet
        case rel => exact ⟨congrArg Value.bool (by simp [isSgn, h4, h5]), rfl⟩
  case rest =>
    obtain ⟨rfl, rfl⟩ := hcut
    have TC := T3
    have HC := HS3
    clear T3 HS3
    obtain ⟨rfl, rfl⟩   := HCASE.out
    have hres : simpL 2 1 ⟨x0, x1, x2, x3, x4, x5⟩ ⟨y0, y1, y2, y3, y4, y5⟩ tmp = ([⟨4, 32, 1, 0, [⟨x0, x1, x2, x3, x4, x5⟩, ⟨y0, y1, y2, y3, y4, y5⟩]⟩] ++ cmpE 16 false (tmpA tmp) ⟨x0, x1, x2, x3, x4, x5⟩ tmp 1, true) := rfl
    have HRES := Lib.hid hres
    clear hres
    obtain ⟨tS, tR, tX, tY, tZ, tN⟩ := TC.out
    have BX := Lib.hid tX
    have hl0 := HS.out.lt
    have HL := Lib.hid hl0
    clear hl0
    have x0_ : wc.cell? ⟨w.heap.size, 0, none⟩ = some (.int .i64 x0) := cell_of_heap tX rfl
    have x1_ : wc.cell? ⟨w.heap.size, 1, none⟩ = some (.int .i64 x1) := cell_of_heap tX rfl
    have x2_ : wc.cell? ⟨w.heap.size, 2, none⟩ = some (.int .u32 x2) := cell_of_heap tX rfl
    have x3_ : wc.cell? ⟨w.heap.size, 3, none⟩ = some (.int .u32 x3) := cell_of_heap tX rfl
    have x4_ : wc.cell? ⟨w.heap.size, 4, none⟩ = some (.int .u32 x4) := cell_of_heap tX rfl
    have x5_ : wc.cell? ⟨w.heap.size, 5, none⟩ = some (.int .u32 x5) := cell_of_heap tX rfl
    have xl_ := lt_of_heap tX
    have y0_ : wc.cell? ⟨w.heap.size + 1, 0, none⟩ = some (.int .i64 y0) := cell_of_heap tY rfl
    have y1_ : wc.cell? ⟨w.heap.size + 1, 1, none⟩ = some (.int .i64 y1) := cell_of_heap tY rfl
    have y2_ : wc.cell? ⟨w.heap.size + 1, 2, none⟩ = some (.int .u32 y2) := cell_of_heap tY rfl
    have y3_ : wc.cell? ⟨w.heap.size + 1, 3, none⟩ = some (.int .u32 y3) := cell_of_heap tY rfl
    have y4_ : wc.cell? ⟨w.heap.size + 1, 4, none⟩ = some (.int .u32 y4) := cell_of_heap tY rfl
    have y5_ : wc.cell? ⟨w.heap.size + 1, 5, none⟩ = some (.int .u32 y5) := cell_of_heap tY rfl
    have yl_ := lt_of_heap tY
    clear tS tR tX tY tZ tN
    go_wp2_with fail
    go_region_with (first | (go_at_call 74; refine (bin_e lo bs v tmp [] 1 ⟨x0, x1, x2, x3, x4, x5⟩ ⟨y0, y1, y2, y3, y4, y5⟩ _ (by first | exact HC.out | exact HC.out.new ((New.refl wc).drew)) (by decide) ht0 (by omega)).mono ?_; rintro e u2 ⟨v2, rfl, s2, k2, g2⟩; have S2 := Lib.hid s2; have K2 := Lib.hid k2; have G2 := Lib.hid g2; have bx2 := (k2.block w.heap.size (lt_of_heap BX.out) (by have := HL.out.1; omega) (fun q => by have := HL.out.2 _ q.symm; omega)).trans BX.out; have p0_ : u2.cell? ⟨w.heap.size, 0, none⟩ = some (.int .i64 x0) := cell_of_heap bx2 rfl; have p1_ : u2.cell? ⟨w.heap.size, 1, none⟩ = some (.int .i64 x1) := cell_of_heap bx2 rfl; have p2_ : u2.cell? ⟨w.heap.size, 2, none⟩ = some (.int .u32 x2) := cell_of_heap bx2 rfl; have p3_ : u2.cell? ⟨w.heap.size, 3, none⟩ = some (.int .u32 x3) := cell_of_heap bx2 rfl; have p4_ : u2.cell? ⟨w.heap.size, 4, none⟩ = some (.int .u32 x4) := cell_of_heap bx2 rfl; have p5_ : u2.cell? ⟨w.heap.size, 5, none⟩ = some (.int .u32 x5) := cell_of_heap bx2 rfl; have pl_ := lt_of_heap bx2; (try unfold tmpA Atom.val); (try dsimp only); clear bx2 s2 k2 g2) | (go_at_call 73; (refine (is_e lo bs v2 tmp ([] ++ [⟨4, binTy 1, 1, 0, [⟨x0, x1, x2, x3, x4, x5⟩, ⟨y0, y1, y2, y3, y4, y5⟩]⟩]) 16 (tmpA tmp) ⟨x0, x1, x2, x3, x4, x5⟩ _ (by first | exact S2.out | exact S2.out.new ((New.refl u2).drew)) (by simp) ht0 (by omega)).mono ?_); rintro e u3 ⟨v3, rfl, s3, k3, g3⟩; have S3 := Lib.hid s3; have K3 := Lib.hid k3; have G3 := Lib.hid g3; clear s3 k3 g3))
    all_goals
      go_wp2
      go_ret
      rw [HRES.out]
      have HP : SimPost lo bs v tmp ([⟨4, 32, 1, 0, [⟨x0, x1, x2, x3, x4, x5⟩, ⟨y0, y1, y2, y3, y4, y5⟩]⟩] ++ cmpE 16 false (tmpA tmp) ⟨x0, x1, x2, x3, x4, x5⟩ tmp 1) (.bool true) w (.returned (.bool true)) u3 := SimPost.new TC.out.n (SimPost.trans (w1 := u2) (by first | exact K2.out | exact Kp.undrew K2.out) (by first | exact G2.out | exact fun g h => (G2.out g h).imp id (fun h => h)) ⟨v3, rfl, S3.out, by first | exact K3.out | exact Kp.undrew K3.out, by first | exact G3.out | exact fun g h => (G3.out g h).imp id (fun h => h)⟩)
      first | exact HP | exact SimPost.drewR HP
set_option maxRecDepth 100000 in
set_option maxHeartbeats 8000000 in
theorem simplified_F (lo bs : Nat) (v : Value) (tmp : Int) (i : Nat) (op : Int) (x y : Atom) (w : World) (hs : SimE w lo bs v tmp []) (ht0 : 0 ≤ tmp) (ht1 : tmp ≤ 9000) (hi : i < 14) (hop : 0 ≤ op) (hcase : op = 1 ∧ i = 3) :
    Calls Try.prog 40 #[.pointer (some ⟨bs, 0, none⟩), .int .i64 i, .int .u32 op, x.val, y.val] w (SimPost lo bs v tmp (simpL i op x y tmp).1 (.bool (simpL i op x y tmp).2) w) := by
  have HS := Lib.hid hs
  have HCASE := Lib.hid hcase
  clear hcase
  have HX := Lib.hid hi
  clear hs
  obtain ⟨x0, x1, x2, x3, x4, x5⟩ := x
  obtain ⟨y0, y1, y2, y3, y4, y5⟩ := y
  unfold Atom.val
  dsimp only
  go_enter Try.func40, Try.ntmps40
  go_wp2_with fail
  refine (comparisons_c _).mono ?_
  rintro e w1 ⟨rfl, hb1⟩
  have hn1 : New w w1 := Below.trans (by go_grown) (hb1.mono (by simp; omega))
  have X1r : w1.heap[w.heap.size]? = some (.cells #[.int .i64 x0, .int .i64 x1, .int .u32 x2, .int .u32 x3, .int .u32 x4, .int .u32 x5] 59) := (hb1.block _ (by simp only [World.size_alloc]; omega)).trans (heap_keep (heap_alloc_at _ _ _ rfl))
  have Y1r : w1.heap[w.heap.size + 1]? = some (.cells #[.int .i64 y0, .int .i64 y1, .int .u32 y2, .int .u32 y3, .int .u32 y4, .int .u32 y5] 59) := (hb1.block _ (by simp only [World.size_alloc]; omega)).trans (heap_alloc_at _ _ _ (by simp))
  have hz1 := hb1.size
  simp only [World.size_alloc] at hz1
  have X1 := Lib.hid X1r
  have Y1 := Lib.hid Y1r
  have HN1 := Lib.hid hn1
  clear hb1 hn1 X1r Y1r
  unfold cmpS cmpR
  go_wp2_with fail
  refine (tword_c 0 _).mono ?_
  rintro e w2 ⟨rfl, hb2⟩
  have hn2 : New w w2 := Below.trans (HN1.out.alloc (by omega) _ |>.alloc (by simp only [World.size_alloc]; omega) _) (hb2.mono (by simp only [World.size_alloc]; omega))
  have hz2 := hb2.size
  simp only [World.size_alloc] at hz2
  have ZB := (New.refl w2).alloc (Nat.le_refl _) (.cells #[.int .i64 (-1), .int .i64 32, .int .u32 0, .int .u32 0, .int .u32 0, .int .u32 0] 59)
  have T3 := Lib.hid (show SimT w (w2.alloc (.cells #[.int .i64 (-1), .int .i64 32, .int .u32 0, .int .u32 0, .int .u32 0, .int .u32 0] 59)) w1.heap.size (w1.heap.size + 1) w.heap.size (w.heap.size + 1) w2.heap.size ⟨x0, x1, x2, x3, x4, x5⟩ ⟨y0, y1, y2, y3, y4, y5⟩ from
    ⟨keep ZB ((hb2.block w1.heap.size (by simp only [World.size_alloc]; omega)).trans (heap_keep (heap_alloc_at _ _ _ rfl))),
     keep ZB ((hb2.block (w1.heap.size + 1) (by simp only [World.size_alloc]; omega)).trans (heap_alloc_at _ _ _ (by simp))),
     keep ZB ((hb2.block _ (by simp only [World.size_alloc]; omega)).trans (heap_keep (heap_keep X1.out))),
     keep ZB ((hb2.block _ (by simp only [World.size_alloc]; omega)).trans (heap_keep (heap_keep Y1.out))),
     heap_alloc_at _ _ _ rfl, hn2.trans (ZB.mono hn2.size)⟩)
  have HS3 := Lib.hid ((HS.out.new hn2).alloc (.cells #[.int .i64 (-1), .int .i64 32, .int .u32 0, .int .u32 0, .int .u32 0, .int .u32 0] 59))
  clear hb2 hn2 ZB X1 Y1 HN1
  unfold wordA Atom.val
  dsimp only
  go_upto_region 3 with (fail)
  generalize w2.alloc (.cells #[.int .i64 (-1), .int .i64 32, .int .u32 0, .int .u32 0, .int .u32 0, .int .u32 0] 59) = w3 at *
  go_cut [14] (fun s w' => s = .bool (isSgn i) ∧ w' = w3)
  case first =>
    by_cases h4 : i = 4
    · subst h4
      go_wp2_with fail
      go_meet
      case rel => exact ⟨rfl, rfl⟩
    · by_cases h5 : i = 5
      · subst h5
        go_wp2_with fail
        go_meet
        case rel => exact ⟨rfl, rfl⟩
      · have b4 : (((i : Nat) : Int) == 4) = false := by simp; omega
        have b5 : (((i : Nat) : Int) == 5) = false := by simp; omega
        go_wp2_with fail
        go_meet
        case rel => exact ⟨congrArg Value.bool (by simp [isSgn, h4, h5]), rfl⟩
  case rest =>
    obtain ⟨rfl, rfl⟩ := hcut
    have TC := T3
    have HC := HS3
    clear T3 HS3
    obtain ⟨rfl, rfl⟩   := HCASE.out
    have hres : simpL 3 1 ⟨x0, x1, x2, x3, x4, x5⟩ ⟨y0, y1, y2, y3, y4, y5⟩ tmp = ([⟨4, 32, 1, 0, [⟨x0, x1, x2, x3, x4, x5⟩, ⟨y0, y1, y2, y3, y4, y5⟩]⟩] ++ cmpE 18 false ⟨x0, x1, x2, x3, x4, x5⟩ (tmpA tmp) tmp 1, true) := rfl
    have HRES := Lib.hid hres
    clear hres
    obtain ⟨tS, tR, tX, tY, tZ, tN⟩ := TC.out
    have BX := Lib.hid tX
    have hl0 := HS.out.lt
    have HL := Lib.hid hl0
    clear hl0
    have x0_ : wc.cell? ⟨w.heap.size, 0, none⟩ = some (.int .i64 x0) := cell_of_heap tX rfl
    have x1_ : wc.cell? ⟨w.heap.size, 1, none⟩ = some (.int .i64 x1) := cell_of_heap tX rfl
    have x2_ : wc.cell? ⟨w.heap.size, 2, none⟩ = some (.int .u32 x2) := cell_of_heap tX rfl
    have x3_ : wc.cell? ⟨w.heap.size, 3, none⟩ = some (.int .u32 x3) := cell_of_heap tX rfl
    have x4_ : wc.cell? ⟨w.heap.size, 4, none⟩ = some (.int .u32 x4) := cell_of_heap tX rfl
    have x5_ : wc.cell? ⟨w.heap.size, 5, none⟩ = some (.int .u32 x5) := cell_of_heap tX rfl
    have xl_ := lt_of_heap tX
    have y0_ : wc.cell? ⟨w.heap.size + 1, 0, none⟩ = some (.int .i64 y0) := cell_of_heap tY rfl
    have y1_ : wc.cell? ⟨w.heap.size + 1, 1, none⟩ = some (.int .i64 y1) := cell_of_heap tY rfl
    have y2_ : wc.cell? ⟨w.heap.size + 1, 2, none⟩ = some (.int .u32 y2) := cell_of_heap tY rfl
    have y3_ : wc.cell? ⟨w.heap.size + 1, 3, none⟩ = some (.int .u32 y3) := cell_of_heap tY rfl
    have y4_ : wc.cell? ⟨w.heap.size + 1, 4, none⟩ = some (.int .u32 y4) := cell_of_heap tY rfl
    have y5_ : wc.cell? ⟨w.heap.size + 1, 5, none⟩ = some (.int .u32 y5) := cell_of_heap tY rfl
    have yl_ := lt_of_heap tY
    clear tS tR tX tY tZ tN
    go_wp2_with fail
    go_region_with (first | (go_at_call 74; refine (bin_e lo bs v tmp [] 1 ⟨x0, x1, x2, x3, x4, x5⟩ ⟨y0, y1, y2, y3, y4, y5⟩ _ (by first | exact HC.out | exact HC.out.new ((New.refl wc).drew)) (by decide) ht0 (by omega)).mono ?_; rintro e u2 ⟨v2, rfl, s2, k2, g2⟩; have S2 := Lib.hid s2; have K2 := Lib.hid k2; have G2 := Lib.hid g2; have bx2 := (k2.block w.heap.size (lt_of_heap BX.out) (by have := HL.out.1; omega) (fun q => by have := HL.out.2 _ q.symm; omega)).trans BX.out; have p0_ : u2.cell? ⟨w.heap.size, 0, none⟩ = some (.int .i64 x0) := cell_of_heap bx2 rfl; have p1_ : u2.cell? ⟨w.heap.size, 1, none⟩ = some (.int .i64 x1) := cell_of_heap bx2 rfl; have p2_ : u2.cell? ⟨w.heap.size, 2, none⟩ = some (.int .u32 x2) := cell_of_heap bx2 rfl; have p3_ : u2.cell? ⟨w.heap.size, 3, none⟩ = some (.int .u32 x3) := cell_of_heap bx2 rfl; have p4_ : u2.cell? ⟨w.heap.size, 4, none⟩ = some (.int .u32 x4) := cell_of_heap bx2 rfl; have p5_ : u2.cell? ⟨w.heap.size, 5, none⟩ = some (.int .u32 x5) := cell_of_heap bx2 rfl; have pl_ := lt_of_heap bx2; (try unfold tmpA Atom.val); (try dsimp only); clear bx2 s2 k2 g2) | (go_at_call 73; (refine (is_e lo bs v2 tmp ([] ++ [⟨4, binTy 1, 1, 0, [⟨x0, x1, x2, x3, x4, x5⟩, ⟨y0, y1, y2, y3, y4, y5⟩]⟩]) 18 ⟨x0, x1, x2, x3, x4, x5⟩ (tmpA tmp) _ (by first | exact S2.out | exact S2.out.new ((New.refl u2).drew)) (by simp) ht0 (by omega)).mono ?_); rintro e u3 ⟨v3, rfl, s3, k3, g3⟩; have S3 := Lib.hid s3; have K3 := Lib.hid k3; have G3 := Lib.hid g3; clear s3 k3 g3))
    all_goals
      go_wp2
      go_ret
      rw [HRES.out]
      have HP : SimPost lo bs v tmp ([⟨4, 32, 1, 0, [⟨x0, x1, x2, x3, x4, x5⟩, ⟨y0, y1, y2, y3, y4, y5⟩]⟩] ++ cmpE 18 false ⟨x0, x1, x2, x3, x4, x5⟩ (tmpA tmp) tmp 1) (.bool true) w (.returned (.bool true)) u3 := SimPost.new TC.out.n (SimPost.trans (w1 := u2) (by first | exact K2.out | exact Kp.undrew K2.out) (by first | exact G2.out | exact fun g h => (G2.out g h).imp id (fun h => h)) ⟨v3, rfl, S3.out, by first | exact K3.out | exact Kp.undrew K3.out, by first | exact G3.out | exact fun g h => (G3.out g h).imp id (fun h => h)⟩)
      first | exact HP | exact SimPost.drewR HP
end Go.Proofs.Ytmkjgkldbonpnaa
