/- The simplifier's simplified, for all conditions and operations. -/
import Derived.Test.YtmkjgkldbonpnaaWSimA
namespace Go.Proofs.Ytmkjgkldbonpnaa
open Go Go.RowKit Go.Cd
set_option linter.unusedVariables false

attribute [local go_sem] ones_nil ones_int ones_bool st1 st2 ld1 ld2 st1d st2d ld1d ld2d
attribute [local go_sem ↓] ex1 ex2 Go.wp_at_zero Go.wp_at_succ
theorem Kp.undrew {bs : Nat} {row : Option Nat} {w w' : World} (h : Kp bs row w.drew w') : Kp bs row w w' := ⟨h.os, h.tape, h.output, h.size, h.block⟩
theorem SimPost.drewR {lo bs : Nat} {v : Value} {tmp : Int} {es : List IExpr} {r : Value} {w : World} {e : Ending} {w' : World} (h : SimPost lo bs v tmp es r w e w') : SimPost lo bs v tmp es r w e w'.drew := by
  obtain ⟨v', he, hs, hk, hg⟩ := h
  exact ⟨v', he, hs.new ((New.refl w').drew), hk.new ((New.refl w').drew), hg⟩
set_option maxRecDepth 100000 in
set_option maxHeartbeats 8000000 in
theorem simplified_E (lo bs : Nat) (v : Value) (tmp : Int) (i : Nat) (op : Int) (x y : Atom) (w : World) (hs : SimE w lo bs v tmp []) (ht0 : 0 ≤ tmp) (ht1 : tmp ≤ 9000) (hi : i < 14) (hop : 0 ≤ op) (hcase : op = 1 ∧ i = 2) :
    Calls Try.prog 40 #[.pointer (some ⟨bs, 0, none⟩), .int .i64 i, .int .u32 op, x.val, y.val] w (SimPost lo bs v tmp (simpL i op x y tmp).1 (.bool (simpL i op x y tmp).2) w) := by
  have HS := Lib.hid hs
  have HCASE := Lib.hid hcase
  clear hcase
  have HX := Lib.hid hi
  clear hs
  obtain ⟨x0, x1, x2, x3, x4, x5⟩ := x
  obtain ⟨y0, y1, y2, y3, y4, y5⟩ := y
  unfold Atom.val
  dsimp only
  go_enter Try.func40, Try.ntmps40
  go_wp2_with fail
  refine (comparisons_c _).mono ?_
  rintro e w1 ⟨rfl, hb1⟩
  have hn1 : New w w1 := Below.trans (by go_grown) (hb1.mono (by simp; omega))
  have X1r : w1.heap[w.heap.size]? = some (.cells #[.int .i64 x0, .int .i64 x1, .int .u32 x2, .int .u32 x3, .int .u32 x4, .int .u32 x5] 59) := (hb1.block _ (by simp only [World.size_alloc]; omega)).trans (heap_keep (heap_alloc_at _ _ _ rfl))
  have Y1r : w1.heap[w.heap.size + 1]? = some (.cells #[.int .i64 y0, .int .i64 y1, .int .u32 y2, .int .u32 y3, .int .u32 y4, .int .u32 y5] 59) := (hb1.block _ (by simp only [World.size_alloc]; omega)).trans (heap_alloc_at _ _ _ (by simp))
  have hz1 := hb1.size
  simp only [World.size_alloc] at hz1
  have X1 := Lib.hid X1r
  have Y1 := Lib.hid Y1r
  have HN1 := Lib.hid hn1
  clear hb1 hn1 X1r Y1r
  unfold cmpS cmpR
  go_wp2_with fail
  refine (tword_c 0 _).mono ?_
  rintro e w2 ⟨rfl, hb2⟩
  have hn2 : New w w2 := Below.trans (HN1.out.alloc (by omega) _ |>.alloc (by simp only [World.size_alloc]; omega) _) (hb2.mono (by simp only [World.size_alloc]; omega))
  have hz2 := hb2.size
  simp only [World.size_alloc] at hz2
  have ZB := (New.refl w2).alloc (Nat.le_refl _) (.cells #[.int .i64 (-1), .int .i64 32, .int .u32 0, .int .u32 0, .int .u32 0, .int .u32 0] 59)
  have T3 := Lib.hid (show SimT w (w2.alloc (.cells #[.int .i64 (-1), .int .i64 32, .int .u32 0, .int .u32 0, .int .u32 0, .int .u32 0] 59)) w1.heap.size (w1.heap.size + 1) w.heap.size (w.heap.size + 1) w2.heap.size ⟨x0, x1, x2, x3, x4, x5⟩ ⟨y0, y1, y2, y3, y4, y5⟩ from
    ⟨keep ZB ((hb2.block w1.heap.size (by simp only [World.size_alloc]; omega)).trans (heap_keep (heap_alloc_at _ _ _ rfl))),
     keep ZB ((hb2.block (w1.heap.size + 1) (by simp only [World.size_alloc]; omega)).trans (heap_alloc_at _ _ _ (by simp))),
     keep ZB ((hb2.block _ (by simp only [World.size_alloc]; omega)).trans (heap_keep (heap_keep X1.out))),
     keep ZB ((hb2.block _ (by simp only [World.size_alloc]; omega)).trans (heap_keep (heap_keep Y1.out))),
     heap_alloc_at _ _ _ rfl, hn2.trans (ZB.mono hn2.size)⟩)
  have HS3 := Lib.hid ((HS.out.new hn2).alloc (.cells #[.int .i64 (-1), .int .i64 32, .int .u32 0, .int .u32 0, .int .u32 0, .int .u32 0] 59))
  clear hb2 hn2 ZB X1 Y1 HN1
  unfold wordA Atom.val
  dsimp only
  go_upto_region 3 with (fail)
  generalize w2.alloc (.cells #[.int .i64 (-1), .int .i64 32, .int .u32 0, .int .u32 0, .int .u32 0, .int .u32 0] 59) = w3 at *
  go_cut [14] (fun s w' => s = .bool (isSgn i) ∧ w' = w3)
  case first =>
    by_cases h4 : i = 4
    · subst h4
      go_wp2_with fail
      go_meet
      case rel => exact ⟨rfl, rfl⟩
    · by_cases h5 : i = 5
      · subst h5
        go_wp2_with fail
        go_meet
        case rel => exact ⟨rfl, rfl⟩
      · have b4 : (((i : Nat) : Int) == 4) = false := by simp; omega
        have b5 : (((i : Nat) : Int) == 5) = false := by simp; omega
        go_wp2_with fail
        go_meet
        case rel => exact ⟨congrArg Value.bool (by simp [isSgn, h4, h5]), rfl⟩
  case rest =>
    obtain ⟨rfl, rfl⟩ := hcut
    have TC := T3
    have HC := HS3
    clear T3 HS3
    obtain ⟨rfl, rfl⟩   := HCASE.out
    have hres : simpL 2 1 ⟨x0, x1, x2, x3, x4, x5⟩ ⟨y0, y1, y2, y3, y4, y5⟩ tmp = ([⟨4, 32, 1, 0, [⟨x0, x1, x2, x3, x4, x5⟩, ⟨y0, y1, y2, y3, y4, y5⟩]⟩] ++ cmpE 16 false (tmpA tmp) ⟨x0, x1, x2, x3, x4, x5⟩ tmp 1, true) := rfl
    have HRES := Lib.hid hres
    clear hres
    obtain ⟨tS, tR, tX, tY, tZ, tN⟩ := TC.out
    have BX := Lib.hid tX
    have hl0 := HS.out.lt
    have HL := Lib.hid hl0
    clear hl0
    have x0_ : wc.cell? ⟨w.heap.size, 0, none⟩ = some (.int .i64 x0) := cell_of_heap tX rfl
    have x1_ : wc.cell? ⟨w.heap.size, 1, none⟩ = some (.int .i64 x1) := cell_of_heap tX rfl
    have x2_ : wc.cell? ⟨w.heap.size, 2, none⟩ = some (.int .u32 x2) := cell_of_heap tX rfl
    have x3_ : wc.cell? ⟨w.heap.size, 3, none⟩ = some (.int .u32 x3) := cell_of_heap tX rfl
    have x4_ : wc.cell? ⟨w.heap.size, 4, none⟩ = some (.int .u32 x4) := cell_of_heap tX rfl
    have x5_ : wc.cell? ⟨w.heap.size, 5, none⟩ = some (.int .u32 x5) := cell_of_heap tX rfl
    have xl_ := lt_of_heap tX
    have y0_ : wc.cell? ⟨w.heap.size + 1, 0, none⟩ = some (.int .i64 y0) := cell_of_heap tY rfl
    have y1_ : wc.cell? ⟨w.heap.size + 1, 1, none⟩ = some (.int .i64 y1) := cell_of_heap tY rfl
    have y2_ : wc.cell? ⟨w.heap.size + 1, 2, none⟩ = some (.int .u32 y2) := cell_of_heap tY rfl
    have y3_ : wc.cell? ⟨w.heap.size + 1, 3, none⟩ = some (.int .u32 y3) := cell_of_heap tY rfl
    have y4_ : wc.cell? ⟨w.heap.size + 1, 4, none⟩ = some (.int .u32 y4) := cell_of_heap tY rfl
    have y5_ : wc.cell? ⟨w.heap.size + 1, 5, none⟩ = some (.int .u32 y5) := cell_of_heap tY rfl
    have yl_ := lt_of_heap tY
    clear tS tR tX tY tZ tN
    go_wp2_with fail
    go_region_with (first | (go_at_call 74; refine (bin_e lo bs v tmp [] 1 ⟨x0, x1, x2, x3, x4, x5⟩ ⟨y0, y1, y2, y3, y4, y5⟩ _ (by first | exact HC.out | exact HC.out.new ((New.refl wc).drew)) (by decide) ht0 (by omega)).mono ?_; rintro e u2 ⟨v2, rfl, s2, k2, g2⟩; have S2 := Lib.hid s2; have K2 := Lib.hid k2; have G2 := Lib.hid g2; have bx2 := (k2.block w.heap.size (lt_of_heap BX.out) (by have := HL.out.1; omega) (fun q => by have := HL.out.2 _ q.symm; omega)).trans BX.out; have p0_ : u2.cell? ⟨w.heap.size, 0, none⟩ = some (.int .i64 x0) := cell_of_heap bx2 rfl; have p1_ : u2.cell? ⟨w.heap.size, 1, none⟩ = some (.int .i64 x1) := cell_of_heap bx2 rfl; have p2_ : u2.cell? ⟨w.heap.size, 2, none⟩ = some (.int .u32 x2) := cell_of_heap bx2 rfl; have p3_ : u2.cell? ⟨w.heap.size, 3, none⟩ = some (.int .u32 x3) := cell_of_heap bx2 rfl; have p4_ : u2.cell? ⟨w.heap.size, 4, none⟩ = some (.int .u32 x4) := cell_of_heap bx2 rfl; have p5_ : u2.cell? ⟨w.heap.size, 5, none⟩ = some (.int .u32 x5) := cell_of_heap bx2 rfl; have pl_ := lt_of_heap bx2; (try unfold tmpA Atom.val); (try dsimp only); clear bx2 s2 k2 g2) | (go_at_call 73; (refine (is_e lo bs v2 tmp ([] ++ [⟨4, binTy 1, 1, 0, [⟨x0, x1, x2, x3, x4, x5⟩, ⟨y0, y1, y2, y3, y4, y5⟩]⟩]) 16 (tmpA tmp) ⟨x0, x1, x2, x3, x4, x5⟩ _ (by first | exact S2.out | exact S2.out.new ((New.refl u2).drew)) (by simp) ht0 (by omega)).mono ?_); rintro e u3 ⟨v3, rfl, s3, k3, g3⟩; have S3 := Lib.hid s3; have K3 := Lib.hid k3; have G3 := Lib.hid g3; clear s3 k3 g3))
    all_goals
      go_wp2
      go_ret
      rw [HRES.out]
      have HP : SimPost lo bs v tmp ([⟨4, 32, 1, 0, [⟨x0, x1, x2, x3, x4, x5⟩, ⟨y0, y1, y2, y3, y4, y5⟩]⟩] ++ cmpE 16 false (tmpA tmp) ⟨x0, x1, x2, x3, x4, x5⟩ tmp 1) (.bool true) w (.returned (.bool true)) u3 := SimPost.new TC.out.n (SimPost.trans (w1 := u2) (by first | exact K2.out | exact Kp.undrew K2.out) (by first | exact G2.out | exact fun g h => (G2.out g h).imp id (fun h => h)) ⟨v3, rfl, S3.out, by first | exact K3.out | exact Kp.undrew K3.out, by first | exact G3.out | exact fun g h => (G3.out g h).imp id (fun h => h)⟩)
      first | exact HP | exact SimPost.drewR HP
set_option maxRecDepth 100000 in
set_option maxHeartbeats 8000000 in
theorem simplified_F (lo bs : Nat) (v : Value) (tmp : Int) (i : Nat) (op : Int) (x y : Atom) (w : World) (hs : SimE w lo bs v tmp []) (ht0 : 0 ≤ tmp) (ht1 : tmp ≤ 9000) (hi : i < 14) (hop : 0 ≤ op) (hcase : op = 1 ∧ i = 3) :
    Calls Try.prog 40 #[.pointer (some ⟨bs, 0, none⟩), .int .i64 i, .int .u32 op, x.val, y.val] w (SimPost lo bs v tmp (simpL i op x y tmp).1 (.bool (simpL i op x y tmp).2) w) := by
  have HS := Lib.hid hs
  have HCASE := Lib.hid hcase
  clear hcase
  have HX := Lib.hid hi
  clear hs
  obtain ⟨x0, x1, x2, x3, x4, x5⟩ := x
  obtain ⟨y0, y1, y2, y3, y4, y5⟩ := y
  unfold Atom.val
  dsimp only
  go_enter Try.func40, Try.ntmps40
  go_wp2_with fail
  refine (comparisons_c _).mono ?_
  rintro e w1 ⟨rfl, hb1⟩
  have hn1 : New w w1 := Below.trans (by go_grown) (hb1.mono (by simp; omega))
  have X1r : w1.heap[w.heap.size]? = some (.cells #[.int .i64 x0, .int .i64 x1, .int .u32 x2, .int .u32 x3, .int .u32 x4, .int .u32 x5] 59) := (hb1.block _ (by simp only [World.size_alloc]; omega)).trans (heap_keep (heap_alloc_at _ _ _ rfl))
  have Y1r : w1.heap[w.heap.size + 1]? = some (.cells #[.int .i64 y0, .int .i64 y1, .int .u32 y2, .int .u32 y3, .int .u32 y4, .int .u32 y5] 59) := (hb1.block _ (by simp only [World.size_alloc]; omega)).trans (heap_alloc_at _ _ _ (by simp))
  have hz1 := hb1.size
  simp only [World.size_alloc] at hz1
  have X1 := Lib.hid X1r
  have Y1 := Lib.hid Y1r
  have HN1 := Lib.hid hn1
  clear hb1 hn1 X1r Y1r
  unfold cmpS cmpR
  go_wp2_with fail
  refine (tword_c 0 _).mono ?_
  rintro e w2 ⟨rfl, hb2⟩
  have hn2 : New w w2 := Below.trans (HN1.out.alloc (by omega) _ |>.alloc (by simp only [World.size_alloc]; omega) _) (hb2.mono (by simp only [World.size_alloc]; omega))
  have hz2 := hb2.size
  simp only [World.size_alloc] at hz2
  have ZB := (New.refl w2).alloc (Nat.le_refl _) (.cells #[.int .i64 (-1), .int .i64 32, .int .u32 0, .int .u32 0, .int .u32 0, .int .u32 0] 59)
  have T3 := Lib.hid (show SimT w (w2.alloc (.cells #[.int .i64 (-1), .int .i64 32, .int .u32 0, .int .u32 0, .int .u32 0, .int .u32 0] 59)) w1.heap.size (w1.heap.size + 1) w.heap.size (w.heap.size + 1) w2.heap.size ⟨x0, x1, x2, x3, x4, x5⟩ ⟨y0, y1, y2, y3, y4, y5⟩ from
    ⟨keep ZB ((hb2.block w1.heap.size (by simp only [World.size_alloc]; omega)).trans (heap_keep (heap_alloc_at _ _ _ rfl))),
     keep ZB ((hb2.block (w1.heap.size + 1) (by simp only [World.size_alloc]; omega)).trans (heap_alloc_at _ _ _ (by simp))),
     keep ZB ((hb2.block _ (by simp only [World.size_alloc]; omega)).trans (heap_keep (heap_keep X1.out))),
     keep ZB ((hb2.block _ (by simp only [World.size_alloc]; omega)).trans (heap_keep (heap_keep Y1.out))),
     heap_alloc_at _ _ _ rfl, hn2.trans (ZB.mono hn2.size)⟩)
  have HS3 := Lib.hid ((HS.out.new hn2).alloc (.cells #[.int .i64 (-1), .int .i64 32, .int .u32 0, .int .u32 0, .int .u32 0, .int .u32 0] 59))
  clear hb2 hn2 ZB X1 Y1 HN1
  unfold wordA Atom.val
  dsimp only
  go_upto_region 3 with (fail)
  generalize w2.alloc (.cells #[.int .i64 (-1), .int .i64 32, .int .u32 0, .int .u32 0, .int .u32 0, .int .u32 0] 59) = w3 at *
  go_cut [14] (fun s w' => s = .bool (isSgn i) ∧ w' = w3)
  case first =>
    by_cases h4 : i = 4
    · subst h4
      go_wp2_with fail
      go_meet
      case rel => exact ⟨rfl, rfl⟩
    · by_cases h5 : i = 5
      · subst h5
        go_wp2_with fail
        go_meet
        case rel => exact ⟨rfl, rfl⟩
      · have b4 : (((i : Nat) : Int) == 4) = false := by simp; omega
        have b5 : (((i : Nat) : Int) == 5) = false := by simp; omega
        go_wp2_with fail
        go_meet
        case rel => exact ⟨congrArg Value.bool (by simp [isSgn, h4, h5]), rfl⟩
  case rest =>
    obtain ⟨rfl, rfl⟩ := hcut
    have TC := T3
    have HC := HS3
    clear T3 HS3
    obtain ⟨rfl, rfl⟩   := HCASE.out
    have hres : simpL 3 1 ⟨x0, x1, x2, x3, x4, x5⟩ ⟨y0, y1, y2, y3, y4, y5⟩ tmp = ([⟨4, 32, 1, 0, [⟨x0, x1, x2, x3, x4, x5⟩, ⟨y0, y1, y2, y3, y4, y5⟩]⟩] ++ cmpE 18 false ⟨x0, x1, x2, x3, x4, x5⟩ (tmpA tmp) tmp 1, true) := rfl
    have HRES := Lib.hid hres
    clear hres
    obtain ⟨tS, tR, tX, tY, tZ, tN⟩ := TC.out
    have BX := Lib.hid tX
    have hl0 := HS.out.lt
    have HL := Lib.hid hl0
    clear hl0
    have x0_ : wc.cell? ⟨w.heap.size, 0, none⟩ = some (.int .i64 x0) := cell_of_heap tX rfl
    have x1_ : wc.cell? ⟨w.heap.size, 1, none⟩ = some (.int .i64 x1) := cell_of_heap tX rfl
    have x2_ : wc.cell? ⟨w.heap.size, 2, none⟩ = some (.int .u32 x2) := cell_of_heap tX rfl
    have x3_ : wc.cell? ⟨w.heap.size, 3, none⟩ = some (.int .u32 x3) := cell_of_heap tX rfl
    have x4_ : wc.cell? ⟨w.heap.size, 4, none⟩ = some (.int .u32 x4) := cell_of_heap tX rfl
    have x5_ : wc.cell? ⟨w.heap.size, 5, none⟩ = some (.int .u32 x5) := cell_of_heap tX rfl
    have xl_ := lt_of_heap tX
    have y0_ : wc.cell? ⟨w.heap.size + 1, 0, none⟩ = some (.int .i64 y0) := cell_of_heap tY rfl
    have y1_ : wc.cell? ⟨w.heap.size + 1, 1, none⟩ = some (.int .i64 y1) := cell_of_heap tY rfl
    have y2_ : wc.cell? ⟨w.heap.size + 1, 2, none⟩ = some (.int .u32 y2) := cell_of_heap tY rfl
    have y3_ : wc.cell? ⟨w.heap.size + 1, 3, none⟩ = some (.int .u32 y3) := cell_of_heap tY rfl
    have y4_ : wc.cell? ⟨w.heap.size + 1, 4, none⟩ = some (.int .u32 y4) := cell_of_heap tY rfl
    have y5_ : wc.cell? ⟨w.heap.size + 1, 5, none⟩ = some (.int .u32 y5) := cell_of_heap tY rfl
    have yl_ := lt_of_heap tY
    clear tS tR tX tY tZ tN
    go_wp2_with fail
    go_region_with (first | (go_at_call 74; refine (bin_e lo bs v tmp [] 1 ⟨x0, x1, x2, x3, x4, x5⟩ ⟨y0, y1, y2, y3, y4, y5⟩ _ (by first | exact HC.out | exact HC.out.new ((New.refl wc).drew)) (by decide) ht0 (by omega)).mono ?_; rintro e u2 ⟨v2, rfl, s2, k2, g2⟩; have S2 := Lib.hid s2; have K2 := Lib.hid k2; have G2 := Lib.hid g2; have bx2 := (k2.block w.heap.size (lt_of_heap BX.out) (by have := HL.out.1; omega) (fun q => by have := HL.out.2 _ q.symm; omega)).trans BX.out; have p0_ : u2.cell? ⟨w.heap.size, 0, none⟩ = some (.int .i64 x0) := cell_of_heap bx2 rfl; have p1_ : u2.cell? ⟨w.heap.size, 1, none⟩ = some (.int .i64 x1) := cell_of_heap bx2 rfl; have p2_ : u2.cell? ⟨w.heap.size, 2, none⟩ = some (.int .u32 x2) := cell_of_heap bx2 rfl; have p3_ : u2.cell? ⟨w.heap.size, 3, none⟩ = some (.int .u32 x3) := cell_of_heap bx2 rfl; have p4_ : u2.cell? ⟨w.heap.size, 4, none⟩ = some (.int .u32 x4) := cell_of_heap bx2 rfl; have p5_ : u2.cell? ⟨w.heap.size, 5, none⟩ = some (.int .u32 x5) := cell_of_heap bx2 rfl; have pl_ := lt_of_heap bx2; (try unfold tmpA Atom.val); (try dsimp only); clear bx2 s2 k2 g2) | (go_at_call 73; (refine (is_e lo bs v2 tmp ([] ++ [⟨4, binTy 1, 1, 0, [⟨x0, x1, x2, x3, x4, x5⟩, ⟨y0, y1, y2, y3, y4, y5⟩]⟩]) 18 ⟨x0, x1, x2, x3, x4, x5⟩ (tmpA tmp) _ (by first | exact S2.out | exact S2.out.new ((New.refl u2).drew)) (by simp) ht0 (by omega)).mono ?_); rintro e u3 ⟨v3, rfl, s3, k3, g3⟩; have S3 := Lib.hid s3; have K3 := Lib.hid k3; have G3 := Lib.hid g3; clear s3 k3 g3))
    all_goals
      go_wp2
      go_ret
      rw [HRES.out]
      have HP : SimPost lo bs v tmp ([⟨4, 32, 1, 0, [⟨x0, x1, x2, x3, x4, x5⟩, ⟨y0, y1, y2, y3, y4, y5⟩]⟩] ++ cmpE 18 false ⟨x0, x1, x2, x3, x4, x5⟩ (tmpA tmp) tmp 1) (.bool true) w (.returned (.bool true)) u3 := SimPost.new TC.out.n (SimPost.trans (w1 := u2) (by first | exact K2.out | exact Kp.undrew K2.out) (by first | exact G2.out | exact fun g h => (G2.out g h).imp id (fun h => h)) ⟨v3, rfl, S3.out, by first | exact K3.out | exact Kp.undrew K3.out, by first | exact G3.out | exact fun g h => (G3.out g h).imp id (fun h => h)⟩)
      first | exact HP | exact SimPost.drewR HP
end Go.Proofs.Ytmkjgkldbonpnaa
