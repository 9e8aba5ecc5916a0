/- The simplifier's compared, and its simplified behind a subtraction. -/
import Derived.Test.YtmkjgkldbonpnaaWIs
import Derived.Test.YtmkjgkldbonpnaaWComp
namespace Go.Proofs.Ytmkjgkldbonpnaa
open Go Go.RowKit Go.Cd
set_option linter.unusedVariables false

/-- The expressions that a comparison adds. -/
def cmpE (op : Int) (ex : Bool) (x y : Atom) (tmp : Int) (n : Nat) : List IExpr := [⟨4, binTy op, op, 0, if ex then [y, x] else [x, y]⟩, ⟨3, 32, 2, 0, [tmpA (tmp + n)]⟩]
theorem SimPost.refl {lo bs : Nat} {v : Value} {tmp : Int} {es : List IExpr} {w w' : World} (hs : SimE w lo bs v tmp es) (hb : New w w') (r : Value) : SimPost lo bs v tmp es r w (.returned r) w' :=
  ⟨v, rfl, hs.new hb, (Kp.refl _ _ _).new hb, fun _ h => .inl h⟩
/-- Behind new blocks. -/
theorem SimPost.new {lo bs : Nat} {v : Value} {tmp : Int} {es : List IExpr} {r : Value} {w w1 : World} {e : Ending} {w' : World} (hb : New w w1) (h : SimPost lo bs v tmp es r w1 e w') : SimPost lo bs v tmp es r w e w' :=
  SimPost.trans ((Kp.refl _ _ _).new hb) (fun _ h => .inl h) h
set_option maxHeartbeats 1000000 in
theorem compared_0 (lo bs : Nat) (v : Value) (tmp : Int) (es : List IExpr) (ex : Bool) (x y : Atom) (w : World) (hs : SimE w lo bs v tmp es) :
    Calls Try.prog 71 #[.pointer (some ⟨bs, 0, none⟩), .agg #[.int .i64 0, .bool ex], x.val, y.val] w (SimPost lo bs v tmp es (.bool false) w) := by
  have HS := Lib.hid hs
  clear hs
  unfold Atom.val
  go_enter Try.func71, Try.ntmps71
  go_wp2
  go_ret
  exact SimPost.refl HS.out (by go_grown) _
set_option maxHeartbeats 1000000 in
theorem compared_e (lo bs : Nat) (v : Value) (tmp : Int) (es : List IExpr) (op : Int) (ex : Bool) (x y : Atom) (w : World) (hs : SimE w lo bs v tmp es) (hn : es.length ≤ 900) (ht0 : 0 ≤ tmp) (ht1 : tmp ≤ 10000) (ho : (op == 0) = false) :
    Calls Try.prog 71 #[.pointer (some ⟨bs, 0, none⟩), .agg #[.int .i64 op, .bool ex], x.val, y.val] w (SimPost lo bs v tmp (es ++ cmpE op ex x y tmp es.length) (.bool true) w) := by
  have HS := Lib.hid hs
  clear hs
  obtain ⟨x0, x1, x2, x3, x4, x5⟩ := x
  obtain ⟨y0, y1, y2, y3, y4, y5⟩ := y
  unfold Atom.val
  dsimp only
  cases ex
  · go_enter Try.func71, Try.ntmps71
    go_wp2_with fail
    refine (is_e lo bs v tmp es op ⟨x0, x1, x2, x3, x4, x5⟩ ⟨y0, y1, y2, y3, y4, y5⟩ _ (((HS.out.alloc _).alloc _).alloc _) hn ht0 ht1).mono ?_
    rintro e w1 hp
    obtain ⟨v1, rfl, h1, h2, h3⟩ := hp
    have HP := Lib.hid (SimPost.new (w := w) (r := .bool true) (by go_grown) ⟨v1, rfl, h1, h2, h3⟩)
    clear h1 h2 h3
    go_wp2
    go_ret
    have := HP.out
    simpa [cmpE] using this
  · go_enter Try.func71, Try.ntmps71
    go_wp2_with fail
    refine (is_e lo bs v tmp es op ⟨y0, y1, y2, y3, y4, y5⟩ ⟨x0, x1, x2, x3, x4, x5⟩ _ (((HS.out.alloc _).alloc _).alloc _) hn ht0 ht1).mono ?_
    rintro e w1 hp
    obtain ⟨v1, rfl, h1, h2, h3⟩ := hp
    have HP := Lib.hid (SimPost.new (w := w) (r := .bool true) (by go_grown) ⟨v1, rfl, h1, h2, h3⟩)
    clear h1 h2 h3
    go_wp2
    go_ret
    have := HP.out
    simpa [cmpE] using this
attribute [local go_sem] ones_nil ones_int ones_bool st1 st2 ld1 ld2 st1d st2d ld1d ld2d
attribute [local go_sem ↓] ex1 ex2 Go.wp_at_zero Go.wp_at_succ
set_option maxRecDepth 100000 in
set_option maxHeartbeats 2000000 in
theorem simplified_sub (lo bs : Nat) (v : Value) (tmp : Int) (es : List IExpr) (cd : Int) (x y : Atom) (w : World) (hs : SimE w lo bs v tmp es) (hn : es.length ≤ 900) (ht0 : 0 ≤ tmp) (ht1 : tmp ≤ 10000) :
    Calls Try.prog 40 #[.pointer (some ⟨bs, 0, none⟩), .int .i64 10, .int .u32 2, x.val, y.val] w (SimPost lo bs v tmp (es ++ cmpE 17 false x y tmp es.length) (.bool true) w) := by
  have HS := Lib.hid hs
  clear hs
  obtain ⟨x0, x1, x2, x3, x4, x5⟩ := x
  obtain ⟨y0, y1, y2, y3, y4, y5⟩ := y
  unfold Atom.val
  dsimp only
  go_enter Try.func40, Try.ntmps40
  go_wp2_with fail
  refine (comparisons_c _).mono ?_
  rintro e w1 ⟨rfl, hb1⟩
  have hn1 : New w w1 := Below.trans (by go_grown) (hb1.mono (by simp; omega))
  obtain ⟨hc1, hf1, hz1⟩ := bcell3 hb1
  simp only [World.size_alloc] at hc1 hf1 hz1
  have X1r : w1.heap[w.heap.size]? = some (.cells #[.int .i64 x0, .int .i64 x1, .int .u32 x2, .int .u32 x3, .int .u32 x4, .int .u32 x5] 59) := (hb1.block _ (by simp only [World.size_alloc]; omega)).trans (heap_keep (heap_alloc_at _ _ _ rfl))
  have Y1r : w1.heap[w.heap.size + 1]? = some (.cells #[.int .i64 y0, .int .i64 y1, .int .u32 y2, .int .u32 y3, .int .u32 y4, .int .u32 y5] 59) := (hb1.block _ (by simp only [World.size_alloc]; omega)).trans (heap_alloc_at _ _ _ (by simp))
  have X1 := Lib.hid X1r
  have Y1 := Lib.hid Y1r
  have HN1 := Lib.hid hn1
  clear hb1 hn1 hc1 hf1 X1r Y1r
  unfold cmpS cmpR
  go_wp2_with fail
  refine (tword_c 0 _).mono ?_
  rintro e w2 ⟨rfl, hb2⟩
  have X2 := (hb2.block _ (by simp only [World.size_alloc]; omega)).trans (heap_keep (heap_keep X1.out))
  have Y2 := (hb2.block _ (by simp only [World.size_alloc]; omega)).trans (heap_keep (heap_keep Y1.out))
  have S2 := (hb2.block w1.heap.size (by simp only [World.size_alloc]; omega)).trans (heap_keep (heap_alloc_at _ _ _ rfl))
  have hz2 := hb2.size
  simp only [World.size_alloc] at hz2
  have hn2 : New w w2 := Below.trans (HN1.out.alloc (by omega) _ |>.alloc (by simp only [World.size_alloc]; omega) _) (hb2.mono (by simp only [World.size_alloc]; omega))
  have HN2 := Lib.hid hn2
  have X3 := Lib.hid (heap_keep (o := (.cells #[.int .i64 (-1), .int .i64 32, .int .u32 0, .int .u32 0, .int .u32 0, .int .u32 0] 59)) X2)
  have Y3 := Lib.hid (heap_keep (o := (.cells #[.int .i64 (-1), .int .i64 32, .int .u32 0, .int .u32 0, .int .u32 0, .int .u32 0] 59)) Y2)
  have S3 := Lib.hid (heap_keep (o := (.cells #[.int .i64 (-1), .int .i64 32, .int .u32 0, .int .u32 0, .int .u32 0, .int .u32 0] 59)) S2)
  have HS3 := Lib.hid ((HS.out.new hn2).alloc (.cells #[.int .i64 (-1), .int .i64 32, .int .u32 0, .int .u32 0, .int .u32 0, .int .u32 0] 59))
  have HN3 := Lib.hid (hn2.alloc (by omega) (.cells #[.int .i64 (-1), .int .i64 32, .int .u32 0, .int .u32 0, .int .u32 0, .int .u32 0] 59))
  have hz3 : w2.heap.size ≤ (w2.alloc (.cells #[.int .i64 (-1), .int .i64 32, .int .u32 0, .int .u32 0, .int .u32 0, .int .u32 0] 59)).heap.size := by simp
  have HZ3 := Lib.hid hz3
  clear X2 Y2 S2 hb2 hn2 hz3
  unfold wordA Atom.val
  dsimp only
  go_wp2_with fail
  generalize w2.alloc (.cells #[.int .i64 (-1), .int .i64 32, .int .u32 0, .int .u32 0, .int .u32 0, .int .u32 0] 59) = w3 at *
  have a0 : w3.cell? ⟨w1.heap.size, 20, none⟩ = some (.int .i64 17) := cell_of_heap S3.out rfl
  have a1 : w3.cell? ⟨w1.heap.size, 21, none⟩ = some (.bool false) := cell_of_heap S3.out rfl
  have b0 : w3.cell? ⟨w.heap.size, 0, none⟩ = some (.int .i64 x0) := cell_of_heap X3.out rfl
  have b1 : w3.cell? ⟨w.heap.size, 1, none⟩ = some (.int .i64 x1) := cell_of_heap X3.out rfl
  have b2 : w3.cell? ⟨w.heap.size, 2, none⟩ = some (.int .u32 x2) := cell_of_heap X3.out rfl
  have b3 : w3.cell? ⟨w.heap.size, 3, none⟩ = some (.int .u32 x3) := cell_of_heap X3.out rfl
  have b4 : w3.cell? ⟨w.heap.size, 4, none⟩ = some (.int .u32 x4) := cell_of_heap X3.out rfl
  have b5 : w3.cell? ⟨w.heap.size, 5, none⟩ = some (.int .u32 x5) := cell_of_heap X3.out rfl
  have c0 : w3.cell? ⟨w.heap.size + 1, 0, none⟩ = some (.int .i64 y0) := cell_of_heap Y3.out rfl
  have c1 : w3.cell? ⟨w.heap.size + 1, 1, none⟩ = some (.int .i64 y1) := cell_of_heap Y3.out rfl
  have c2 : w3.cell? ⟨w.heap.size + 1, 2, none⟩ = some (.int .u32 y2) := cell_of_heap Y3.out rfl
  have c3 : w3.cell? ⟨w.heap.size + 1, 3, none⟩ = some (.int .u32 y3) := cell_of_heap Y3.out rfl
  have c4 : w3.cell? ⟨w.heap.size + 1, 4, none⟩ = some (.int .u32 y4) := cell_of_heap Y3.out rfl
  have c5 : w3.cell? ⟨w.heap.size + 1, 5, none⟩ = some (.int .u32 y5) := cell_of_heap Y3.out rfl
  have hz3 := HZ3.out
  have hq0 : w.heap.size < w3.heap.size := by omega
  have hq1 : w.heap.size + 1 < w3.heap.size := by omega
  have hq2 : w1.heap.size < w3.heap.size := by omega
  go_still_tail 6, (by kernel_rfl)
  change wpList _ _ _ _ _ w3.drew
  have hd : New w3 w3.drew := (Below.refl _ _).drew
  have HS4 := Lib.hid (HS3.out.new hd)
  have HN4 := Lib.hid (Below.trans HN3.out (hd.mono (by omega)))
  clear a0 a1 b0 b1 b2 b3 b4 b5 c0 c1 c2 c3 c4 c5 hd
  generalize w3.drew = w4 at *
  go_wp2_with fail
  refine (compared_e lo bs v tmp es 17 false ⟨x0, x1, x2, x3, x4, x5⟩ ⟨y0, y1, y2, y3, y4, y5⟩ _ HS4.out hn ht0 ht1 rfl).mono ?_
  rintro e w5 hp
  obtain ⟨v1, rfl, h1, h2, h3⟩ := hp
  have HP := Lib.hid (SimPost.new (w := w) (r := .bool true) HN4.out ⟨v1, rfl, h1, h2, h3⟩)
  clear h1 h2 h3
  go_wp2
  go_ret
  exact HP.out
end Go.Proofs.Ytmkjgkldbonpnaa
