/- The specification's expressions: binary, wide, constant. -/
import Derived.Test.YtmkjgkldbonpnaaWSame
import Derived.Test.YtmkjgkldbonpnaaWFourEq
namespace Go.Proofs.Ytmkjgkldbonpnaa
open Go Go.RowKit Go.Cd
set_option linter.unusedVariables false

/-- An expression's value, its elements in a block of their own. -/
def exprV (k ty op off : Int) (n bl : Nat) : Value := .agg #[.int .i64 k, .int .i64 ty, .int .i64 op, .int .i64 off, .slice (some ⟨bl, 0, none⟩) n n]
def ExprPost (x : IExpr) (w : World) (e : Ending) (w' : World) : Prop := ∃ bl, e = .returned (exprV x.kind x.ty x.op x.off x.l.length bl) ∧ w'.heap[bl]? = some (.cells (atomsC x.l) 59) ∧ w.heap.size ≤ bl ∧ New w w'
def ExprPost2 (x : IExpr) (w : World) (e : Ending) (w' : World) : Prop := ∃ bl, e = .returned (.tuple #[exprV x.kind x.ty x.op x.off x.l.length bl, .bool true]) ∧ w'.heap[bl]? = some (.cells (atomsC x.l) 59) ∧ w.heap.size ≤ bl ∧ New w w'
/-- A list of expressions that was made anew. -/
def RowsPost (es : List IExpr) (w : World) (e : Ending) (w' : World) : Prop := ∃ g, e = .returned (.slice (some ⟨g, 0, none⟩) es.length es.length) ∧ ERows w' (some ⟨g, 0, none⟩) es ∧ New w w'
theorem erows_1 {w : World} {g : Nat} {t : TypeId} {k ty op off : Int} {l : List Atom} {bl : Nat} (hg : w.heap[g]? = some (.cells #[.int .i64 k, .int .i64 ty, .int .i64 op, .int .i64 off, .slice (some ⟨bl, 0, none⟩) l.length l.length] t)) (hb : w.heap[bl]? = some (.cells (atomsC l) 59)) :
    ERows w (some ⟨g, 0, none⟩) [⟨k, ty, op, off, l⟩] := by
  intro i e hi
  match i with
  | 0 =>
    have : e = ⟨k, ty, op, off, l⟩ := by simpa using hi.symm
    subst this
    exact ⟨g, bl, rfl, fun j u hu => cell_of_heap hg (by simpa [exprC] using hu), lt_of_heap hg, hb⟩
  | n + 1 => simp at hi
theorem erows_2 {w : World} {g : Nat} {t : TypeId} {k ty op off k' ty' op' off' : Int} {l l' : List Atom} {bl bl' : Nat} (hg : w.heap[g]? = some (.cells #[.int .i64 k, .int .i64 ty, .int .i64 op, .int .i64 off, .slice (some ⟨bl, 0, none⟩) l.length l.length, .int .i64 k', .int .i64 ty', .int .i64 op', .int .i64 off', .slice (some ⟨bl', 0, none⟩) l'.length l'.length] t))
    (hb : w.heap[bl]? = some (.cells (atomsC l) 59)) (hb' : w.heap[bl']? = some (.cells (atomsC l') 59)) : ERows w (some ⟨g, 0, none⟩) [⟨k, ty, op, off, l⟩, ⟨k', ty', op', off', l'⟩] := by
  intro i e hi
  match i with
  | 0 =>
    have : e = ⟨k, ty, op, off, l⟩ := by simpa using hi.symm
    subst this
    refine ⟨g, bl, rfl, fun j u hu => ?_, lt_of_heap hg, hb⟩
    match j, hu with
    | 0, hu | 1, hu | 2, hu | 3, hu | 4, hu => exact cell_of_heap hg hu
  | 1 =>
    have : e = ⟨k', ty', op', off', l'⟩ := by simpa using hi.symm
    subst this
    refine ⟨g, bl', rfl, fun j u hu => ?_, lt_of_heap hg, hb'⟩
    match j, hu with
    | 0, hu | 1, hu | 2, hu | 3, hu | 4, hu => exact cell_of_heap hg hu
  | n + 2 => simp at hi
theorem erows_3 {w : World} {g : Nat} {t : TypeId} {k ty op off k' ty' op' off' k'' ty'' op'' off'' : Int} {l l' l'' : List Atom} {bl bl' bl'' : Nat}
    (hg : w.heap[g]? = some (.cells #[.int .i64 k, .int .i64 ty, .int .i64 op, .int .i64 off, .slice (some ⟨bl, 0, none⟩) l.length l.length, .int .i64 k', .int .i64 ty', .int .i64 op', .int .i64 off', .slice (some ⟨bl', 0, none⟩) l'.length l'.length, .int .i64 k'', .int .i64 ty'', .int .i64 op'', .int .i64 off'', .slice (some ⟨bl'', 0, none⟩) l''.length l''.length] t))
    (hb : w.heap[bl]? = some (.cells (atomsC l) 59)) (hb' : w.heap[bl']? = some (.cells (atomsC l') 59)) (hb'' : w.heap[bl'']? = some (.cells (atomsC l'') 59)) : ERows w (some ⟨g, 0, none⟩) [⟨k, ty, op, off, l⟩, ⟨k', ty', op', off', l'⟩, ⟨k'', ty'', op'', off'', l''⟩] := by
  intro i e hi
  match i with
  | 0 =>
    have : e = ⟨k, ty, op, off, l⟩ := by simpa using hi.symm
    subst this
    refine ⟨g, bl, rfl, fun j u hu => ?_, lt_of_heap hg, hb⟩
    match j, hu with
    | 0, hu | 1, hu | 2, hu | 3, hu | 4, hu => exact cell_of_heap hg hu
  | 1 =>
    have : e = ⟨k', ty', op', off', l'⟩ := by simpa using hi.symm
    subst this
    refine ⟨g, bl', rfl, fun j u hu => ?_, lt_of_heap hg, hb'⟩
    match j, hu with
    | 0, hu | 1, hu | 2, hu | 3, hu | 4, hu => exact cell_of_heap hg hu
  | 2 =>
    have : e = ⟨k'', ty'', op'', off'', l''⟩ := by simpa using hi.symm
    subst this
    refine ⟨g, bl'', rfl, fun j u hu => ?_, lt_of_heap hg, hb''⟩
    match j, hu with
    | 0, hu | 1, hu | 2, hu | 3, hu | 4, hu => exact cell_of_heap hg hu
  | n + 3 => simp at hi
attribute [local go_sem ↓] Go.wp_at_zero Go.wp_at_succ
set_option maxHeartbeats 1000000 in
theorem binary_c (op ty : Int) (x y : Atom) (w : World) : Calls Try.prog 47 #[.int .i64 op, .int .i64 ty, x.val, y.val] w (ExprPost ⟨4, ty, op, 0, [x, y]⟩ w) := by
  obtain ⟨x0, x1, x2, x3, x4, x5⟩ := x
  obtain ⟨y0, y1, y2, y3, y4, y5⟩ := y
  unfold Atom.val
  dsimp only
  go_enter Try.func47, Try.ntmps47
  go_wp2
  refine bodyPost_ret (v := exprV 4 ty op 0 2 (w.heap.size + 1 + 1 + 1)) (by simp [results, Try.results47, go_sem, exprV]) rfl ⟨w.heap.size + 1 + 1 + 1, rfl, ?_, by omega, by go_grown⟩
  exact heap_alloc_at _ _ _ (by simp)
set_option maxHeartbeats 1000000 in
theorem wide_c (t : Int) (w : World) : Calls Try.prog 44 #[.int .i64 t] w (ExprPost ⟨3, 32, 2, 0, [tmpA t]⟩ w) := by
  go_enter Try.func44, Try.ntmps44
  go_wp2
  refine bodyPost_ret (v := exprV 3 32 2 0 1 (w.heap.size + 1)) (by simp [results, Try.results44, go_sem, exprV]) rfl ⟨w.heap.size + 1, rfl, ?_, by omega, by go_grown⟩
  exact heap_alloc_at _ _ _ (by simp)
set_option maxHeartbeats 1000000 in
theorem constant_c (q : Bool) (w : World) : Calls Try.prog 42 #[.bool q] w (RowsPost [⟨1, 32, 0, 0, [wordA (if q then 1 else 0)]⟩] w) := by
  cases q
  · go_enter Try.func42, Try.ntmps42
    go_wp2_with fail
    refine (rword_c 0 _).mono ?_
    rintro e w1 ⟨rfl, hb1⟩
    have N1 := Lib.hid hb1
    clear hb1
    unfold wordA Atom.val
    dsimp only
    go_wp2
    go_ret
    have hz := N1.out.size
    refine ⟨w1.heap.size + 1 + 1, rfl, erows_1 (l := [wordA 0]) (heap_alloc_at _ _ _ (by simp)) (heap_keep (heap_alloc_at _ _ _ (by simp))), ?_⟩
    exact ((N1.out.alloc hz _).alloc (by simp; omega) _).alloc (by simp; omega) _
  · go_enter Try.func42, Try.ntmps42
    go_wp2_with fail
    refine (rword_c 0 _).mono ?_
    rintro e w1 ⟨rfl, hb1⟩
    have N1 := Lib.hid hb1
    clear hb1
    unfold wordA Atom.val
    dsimp only
    go_wp2_with fail
    refine (rword_c 1 _).mono ?_
    rintro e w2 ⟨rfl, hb2⟩
    have NA := N1.out.alloc N1.out.size (.cells #[.int .i64 (-1), .int .i64 32, .int .u32 0, .int .u32 0, .int .u32 0, .int .u32 0] 59)
    have hR := keep hb2 (heap_alloc_at w1 (.cells #[.int .i64 (-1), .int .i64 32, .int .u32 0, .int .u32 0, .int .u32 0, .int .u32 0] 59) _ rfl)
    have N2 := Lib.hid (NA.trans (hb2.mono NA.size))
    have d0 : w2.cell? ⟨w1.heap.size, 0, none⟩ = some (.int .i64 (-1)) := cell_of_heap hR rfl
    have d1 : w2.cell? ⟨w1.heap.size, 1, none⟩ = some (.int .i64 32) := cell_of_heap hR rfl
    have d2 : w2.cell? ⟨w1.heap.size, 2, none⟩ = some (.int .u32 0) := cell_of_heap hR rfl
    have d3 : w2.cell? ⟨w1.heap.size, 3, none⟩ = some (.int .u32 0) := cell_of_heap hR rfl
    have d4 : w2.cell? ⟨w1.heap.size, 4, none⟩ = some (.int .u32 0) := cell_of_heap hR rfl
    have d5 : w2.cell? ⟨w1.heap.size, 5, none⟩ = some (.int .u32 0) := cell_of_heap hR rfl
    have df : ∀ i, w2.frozen? ⟨w1.heap.size, i, none⟩ = false := fun i => frozen_of_heap hR
    have S6 := Lib.hid (set6 w2 w1.heap.size (.int .i64 (-1)) (.int .i64 32) (.int .u32 1) (.int .u32 0) (.int .u32 0) (.int .u32 0) _ _ _ _ _ _ _ hR)
    have hz1 := N1.out.size
    clear hR hb2 NA
    unfold wordA Atom.val
    dsimp only
    go_upto_region 4 with (fail)
    obtain ⟨HO, HR⟩ := S6.out
    have HN3 := Lib.hid (show New w _ from ⟨HO.os.trans N2.out.os, HO.tape.trans N2.out.tape, HO.output.trans N2.out.output, by rw [HO.size]; exact N2.out.size, fun k hk => (HO.block k (by omega)).trans (N2.out.block k hk)⟩)
    clear S6 HO d0 d1 d2 d3 d4 d5 df
    generalize ((((((w2.setCell ⟨w1.heap.size, 0, none⟩ (.int .i64 (-1))).setCell ⟨w1.heap.size, 1, none⟩ (.int .i64 32)).setCell ⟨w1.heap.size, 2, none⟩ (.int .u32 1)).setCell ⟨w1.heap.size, 3, none⟩ (.int .u32 0)).setCell ⟨w1.heap.size, 4, none⟩ (.int .u32 0)).setCell ⟨w1.heap.size, 5, none⟩ (.int .u32 0)) = w3 at *
    have d0 : w3.cell? ⟨w1.heap.size, 0, none⟩ = some (.int .i64 (-1)) := cell_of_heap HR rfl
    have d1 : w3.cell? ⟨w1.heap.size, 1, none⟩ = some (.int .i64 32) := cell_of_heap HR rfl
    have d2 : w3.cell? ⟨w1.heap.size, 2, none⟩ = some (.int .u32 1) := cell_of_heap HR rfl
    have d3 : w3.cell? ⟨w1.heap.size, 3, none⟩ = some (.int .u32 0) := cell_of_heap HR rfl
    have d4 : w3.cell? ⟨w1.heap.size, 4, none⟩ = some (.int .u32 0) := cell_of_heap HR rfl
    have d5 : w3.cell? ⟨w1.heap.size, 5, none⟩ = some (.int .u32 0) := cell_of_heap HR rfl
    clear HR
    go_wp2
    go_ret
    have hz := HN3.out.size
    refine ⟨w3.heap.size + 1, rfl, erows_1 (l := [wordA 1]) (heap_alloc_at _ _ _ (by simp)) (heap_keep (heap_alloc_at _ _ _ rfl)), ?_⟩
    exact (HN3.out.alloc hz _).alloc (by simp; omega) _
end Go.Proofs.Ytmkjgkldbonpnaa
