/- The simplifier's simplified, for all conditions and operations. -/
import Derived.Test.YtmkjgkldbonpnaaWSimE
namespace Go.Proofs.Ytmkjgkldbonpnaa
open Go Go.RowKit Go.Cd
set_option linter.unusedVariables false

attribute [local go_sem] ones_nil ones_int ones_bool st1 st2 ld1 ld2 st1d st2d ld1d ld2d
attribute [local go_sem ↓] ex1 ex2 Go.wp_at_zero Go.wp_at_succ
theorem SimPost.newR {lo bs : Nat} {v : Value} {tmp : Int} {es : List IExpr} {r r' : Value} {w : World} {w' w'' : World} (h : SimPost lo bs v tmp es r w (.returned r') w') (hb : New w' w'') : SimPost lo bs v tmp es r w (.returned r) w'' := by
  obtain ⟨v', he, hs, hk, hg⟩ := h
  exact ⟨v', rfl, hs.new hb, hk.new hb, hg⟩
set_option maxRecDepth 100000 in
set_option maxHeartbeats 8000000 in
theorem simplified_G (lo bs : Nat) (v : Value) (tmp : Int) (i : Nat) (op : Int) (x y : Atom) (w : World) (hs : SimE w lo bs v tmp []) (ht0 : 0 ≤ tmp) (ht1 : tmp ≤ 9000) (hi : i < 14) (hop : 0 ≤ op) (hcase : (i = 0 ∨ i = 1 ∨ i = 4 ∨ i = 5) ∧ op ≠ 3 ∧ op ≠ 0 ∧ ¬ (op = 2 ∧ isSgn i = false)) :
    Calls Try.prog 40 #[.pointer (some ⟨bs, 0, none⟩), .int .i64 i, .int .u32 op, x.val, y.val] w (SimPost lo bs v tmp (simpL i op x y tmp).1 (.bool (simpL i op x y tmp).2) w) := by
  have HS := Lib.hid hs
  have HCASE := Lib.hid hcase
  clear hcase
  have HX := Lib.hid hi
  clear hs
  obtain ⟨x0, x1, x2, x3, x4, x5⟩ := x
  obtain ⟨y0, y1, y2, y3, y4, y5⟩ := y
  unfold Atom.val
  dsimp only
  go_enter Try.func40, Try.ntmps40
  go_wp2_with fail
  refine (comparisons_c _).mono ?_
  rintro e w1 ⟨rfl, hb1⟩
  have hn1 : New w w1 := Below.trans (by go_grown) (hb1.mono (by simp; omega))
  have X1r : w1.heap[w.heap.size]? = some (.cells #[.int .i64 x0, .int .i64 x1, .int .u32 x2, .int .u32 x3, .int .u32 x4, .int .u32 x5] 59) := (hb1.block _ (by simp only [World.size_alloc]; omega)).trans (heap_keep (heap_alloc_at _ _ _ rfl))
  have Y1r : w1.heap[w.heap.size + 1]? = some (.cells #[.int .i64 y0, .int .i64 y1, .int .u32 y2, .int .u32 y3, .int .u32 y4, .int .u32 y5] 59) := (hb1.block _ (by simp only [World.size_alloc]; omega)).trans (heap_alloc_at _ _ _ (by simp))
  have hz1 := hb1.size
  simp only [World.size_alloc] at hz1
  have X1 := Lib.hid X1r
  have Y1 := Lib.hid Y1r
  have HN1 := Lib.hid hn1
  clear hb1 hn1 X1r Y1r
  unfold cmpS cmpR
  go_wp2_with fail
  refine (tword_c 0 _).mono ?_
  rintro e w2 ⟨rfl, hb2⟩
  have hn2 : New w w2 := Below.trans (HN1.out.alloc (by omega) _ |>.alloc (by simp only [World.size_alloc]; omega) _) (hb2.mono (by simp only [World.size_alloc]; omega))
  have hz2 := hb2.size
  simp only [World.size_alloc] at hz2
  have ZB := (New.refl w2).alloc (Nat.le_refl _) (.cells #[.int .i64 (-1), .int .i64 32, .int .u32 0, .int .u32 0, .int .u32 0, .int .u32 0] 59)
  have T3 := Lib.hid (show SimT w (w2.alloc (.cells #[.int .i64 (-1), .int .i64 32, .int .u32 0, .int .u32 0, .int .u32 0, .int .u32 0] 59)) w1.heap.size (w1.heap.size + 1) w.heap.size (w.heap.size + 1) w2.heap.size ⟨x0, x1, x2, x3, x4, x5⟩ ⟨y0, y1, y2, y3, y4, y5⟩ from
    ⟨keep ZB ((hb2.block w1.heap.size (by simp only [World.size_alloc]; omega)).trans (heap_keep (heap_alloc_at _ _ _ rfl))),
     keep ZB ((hb2.block (w1.heap.size + 1) (by simp only [World.size_alloc]; omega)).trans (heap_alloc_at _ _ _ (by simp))),
     keep ZB ((hb2.block _ (by simp only [World.size_alloc]; omega)).trans (heap_keep (heap_keep X1.out))),
     keep ZB ((hb2.block _ (by simp only [World.size_alloc]; omega)).trans (heap_keep (heap_keep Y1.out))),
     heap_alloc_at _ _ _ rfl, hn2.trans (ZB.mono hn2.size)⟩)
  have HS3 := Lib.hid ((HS.out.new hn2).alloc (.cells #[.int .i64 (-1), .int .i64 32, .int .u32 0, .int .u32 0, .int .u32 0, .int .u32 0] 59))
  clear hb2 hn2 ZB X1 Y1 HN1
  unfold wordA Atom.val
  dsimp only
  go_upto_region 3 with (fail)
  generalize w2.alloc (.cells #[.int .i64 (-1), .int .i64 32, .int .u32 0, .int .u32 0, .int .u32 0, .int .u32 0] 59) = w3 at *
  go_cut [14] (fun s w' => s = .bool (isSgn i) ∧ w' = w3)
  case first =>
    by_cases h4 : i = 4
    · subst h4
      go_wp2_with fail
      go_meet
      case rel => exact ⟨rfl, rfl⟩
    · by_cases h5 : i = 5
      · subst h5
        go_wp2_with fail
        go_meet
        case rel => exact ⟨rfl, rfl⟩
      · have b4 : (((i : Nat) : Int) == 4) = false := by simp; omega
        have b5 : (((i : Nat) : Int) == 5) = false := by simp; omega
        go_wp2_with fail
        go_meet
        case rel => exact ⟨congrArg Value.bool (by simp [isSgn, h4, h5]), rfl⟩
  case rest =>
    obtain ⟨rfl, rfl⟩ := hcut
    have TC := T3
    have HC := HS3
    clear T3 HS3
    have hi0 := HX.out
    go_upto_region 4 with (fail)
    go_cut [28] (fun v w' => v = .bool false ∧ w' = wc)
    case first =>
      by_cases c2 : op = 2
      · have bo2 : (op == 2) = true := by simp; omega
        have hsg : isSgn i = true := (by
          have h := HCASE.out.2.2.2
          cases hh : isSgn i
          · exact absurd ⟨c2, hh⟩ h
          · rfl)
        clear c2
        go_wp2_with fail
        go_meet
        case rel => exact ⟨rfl, rfl⟩
      · have bo2 : (op == 2) = false := by simp; omega
        clear c2
        go_wp2_with fail
        go_meet
        case rel => exact ⟨rfl, rfl⟩
    case rest =>
    obtain ⟨rfl, rfl⟩ := hcut
    have bo3 : (op == 3) = false := by have := HCASE.out; simp; omega
    have bo0 : (op == 0) = false := by have := HCASE.out; simp; omega
    go_upto_region 12 with (fail)
    go_cut [83] (fun v w' => v = .bool false ∧ w' = wc)
    case first =>
      by_cases c1 : op = 1
      · have bo1 : (op == 1) = true := by simp; omega
        have bi2 : (((i : Nat) : Int) == 2) = false := by have := HCASE.out; simp; omega
        clear c1
        go_wp2_with fail
        go_meet
        case rel => exact ⟨rfl, rfl⟩
      · have bo1 : (op == 1) = false := by simp; omega
        clear c1
        go_wp2_with fail
        go_meet
        case rel => exact ⟨rfl, rfl⟩
    case rest =>
    obtain ⟨rfl, rfl⟩ := hcut
    go_upto_region 14 with (fail)
    go_cut [97] (fun v w' => v = .bool false ∧ w' = wc)
    case first =>
      by_cases c1 : op = 1
      · have bo1 : (op == 1) = true := by simp; omega
        have bi3 : (((i : Nat) : Int) == 3) = false := by have := HCASE.out; simp; omega
        clear c1
        go_wp2_with fail
        go_meet
        case rel => exact ⟨rfl, rfl⟩
      · have bo1 : (op == 1) = false := by simp; omega
        clear c1
        go_wp2_with fail
        go_meet
        case rel => exact ⟨rfl, rfl⟩
    case rest =>
    obtain ⟨rfl, rfl⟩ := hcut
    go_upto_region 16 with (fail)
    go_cut [14, 111] (fun _ v w' => v = .bool true ∧ w' = wc)
    case first =>
      by_cases hsg : isSgn i = true
      · go_wp2_with fail
        go_meet
        case rel => exact ⟨rfl, rfl⟩
      · have hsg2 : isSgn i = false := by simpa using hsg
        clear hsg
        by_cases c0 : i = 0
        · have bi0 : (((i : Nat) : Int) == 0) = true := by simp; omega
          clear c0
          go_wp2_with fail
          go_meet
          case rel => exact ⟨rfl, rfl⟩
        · have bi0 : (((i : Nat) : Int) == 0) = false := by simp; omega
          have bi1 : (((i : Nat) : Int) == 1) = true := by
            have := HCASE.out
            have h45 : i ≠ 4 ∧ i ≠ 5 := by constructor <;> (intro q; subst q; cases hsg2)
            simp; omega
          clear c0
          go_wp2_with fail
          go_meet
          case rel => exact ⟨rfl, rfl⟩
    case rest =>
    obtain ⟨rfl, rfl⟩ := hcut
    obtain ⟨tS, tR, tX, tY, tZ, tN⟩ := TC.out
    have BR := Lib.hid tR
    have BZ := Lib.hid tZ
    have hl0 := HS.out.lt
    have HL := Lib.hid hl0
    clear hl0
    have x0_ : wc.cell? ⟨w.heap.size, 0, none⟩ = some (.int .i64 x0) := cell_of_heap tX rfl
    have x1_ : wc.cell? ⟨w.heap.size, 1, none⟩ = some (.int .i64 x1) := cell_of_heap tX rfl
    have x2_ : wc.cell? ⟨w.heap.size, 2, none⟩ = some (.int .u32 x2) := cell_of_heap tX rfl
    have x3_ : wc.cell? ⟨w.heap.size, 3, none⟩ = some (.int .u32 x3) := cell_of_heap tX rfl
    have x4_ : wc.cell? ⟨w.heap.size, 4, none⟩ = some (.int .u32 x4) := cell_of_heap tX rfl
    have x5_ : wc.cell? ⟨w.heap.size, 5, none⟩ = some (.int .u32 x5) := cell_of_heap tX rfl
    have xl_ := lt_of_heap tX
    have y0_ : wc.cell? ⟨w.heap.size + 1, 0, none⟩ = some (.int .i64 y0) := cell_of_heap tY rfl
    have y1_ : wc.cell? ⟨w.heap.size + 1, 1, none⟩ = some (.int .i64 y1) := cell_of_heap tY rfl
    have y2_ : wc.cell? ⟨w.heap.size + 1, 2, none⟩ = some (.int .u32 y2) := cell_of_heap tY rfl
    have y3_ : wc.cell? ⟨w.heap.size + 1, 3, none⟩ = some (.int .u32 y3) := cell_of_heap tY rfl
    have y4_ : wc.cell? ⟨w.heap.size + 1, 4, none⟩ = some (.int .u32 y4) := cell_of_heap tY rfl
    have y5_ : wc.cell? ⟨w.heap.size + 1, 5, none⟩ = some (.int .u32 y5) := cell_of_heap tY rfl
    have yl_ := lt_of_heap tY
    clear tS tR tX tY tZ tN
    go_wp2_with fail
    rcases opB_of op with ⟨idx, bi, hf, hB, hne⟩ | ⟨hf, hB⟩
    · have hres : simpL i op ⟨x0, x1, x2, x3, x4, x5⟩ ⟨y0, y1, y2, y3, y4, y5⟩ tmp = ([⟨4, 32, bi, 0, [⟨x0, x1, x2, x3, x4, x5⟩, ⟨y0, y1, y2, y3, y4, y5⟩]⟩] ++ cmpO (cmpOpR i) (cmpExR i) (tmpA tmp) (wordA 0) tmp 1, cmpOpR i != 0) := by
        have hc := HCASE.out
        unfold simpL
        rw [if_neg hc.2.2.2, if_neg hc.2.1, if_neg hc.2.2.1, if_neg (by omega), if_neg (by omega), if_pos hc.1, if_neg (by rw [hB]; exact hne), hB]
      have HRES := Lib.hid hres
      clear hres
      have hty : binTy bi = 32 := by rw [← hB]; unfold opB binTy; (repeat' split) <;> first | rfl | omega
      have HTY := Lib.hid hty
      clear hty hB
      refine (operation_some lo bs v tmp [] op bi idx ⟨x0, x1, x2, x3, x4, x5⟩ ⟨y0, y1, y2, y3, y4, y5⟩ _ HC.out (by decide) ht0 (by omega) hf).mono ?_
      rintro e u1 ⟨v1, rfl, s1, k1, g1⟩
      have hR1 := (k1.block (w1.heap.size + 1) (lt_of_heap BR.out) (by have := HL.out.1; omega) (fun q => by have := HL.out.2 _ q.symm; omega)).trans BR.out
      have hZ1 := (k1.block w2.heap.size (lt_of_heap BZ.out) (by have := HL.out.1; omega) (fun q => by have := HL.out.2 _ q.symm; omega)).trans BZ.out
      have S1 := Lib.hid s1
      have K1 := Lib.hid k1
      have G1 := Lib.hid g1
      clear s1 k1 g1 hf
      clear x0_ x1_ x2_ x3_ x4_ x5_ xl_
      clear y0_ y1_ y2_ y3_ y4_ y5_ yl_
      have R2 := Lib.hid (heap_keep (o := (.cells #[.int .i64 tmp, .int .i64 0, .int .u32 0, .int .u32 0, .int .u32 0, .int .u32 0] 59)) hR1)
      have Z2 := Lib.hid (heap_keep (o := (.cells #[.int .i64 tmp, .int .i64 0, .int .u32 0, .int .u32 0, .int .u32 0, .int .u32 0] 59)) hZ1)
      have O2 := Lib.hid (heap_alloc_at u1 (.cells #[.int .i64 tmp, .int .i64 0, .int .u32 0, .int .u32 0, .int .u32 0, .int .u32 0] 59) _ rfl)
      have S2 := Lib.hid (S1.out.alloc (.cells #[.int .i64 tmp, .int .i64 0, .int .u32 0, .int .u32 0, .int .u32 0, .int .u32 0] 59))
      have K2 := Lib.hid (K1.out.alloc (.cells #[.int .i64 tmp, .int .i64 0, .int .u32 0, .int .u32 0, .int .u32 0, .int .u32 0] 59))
      clear hR1 hZ1
      unfold tmpA Atom.val
      dsimp only
      go_upto_region 18 with (fail)
      generalize hu2 : u1.alloc (.cells #[.int .i64 tmp, .int .i64 0, .int .u32 0, .int .u32 0, .int .u32 0, .int .u32 0] 59) = u2 at *
      clear hu2
      have tR := R2.out
      have tZ := Z2.out
      have tO := O2.out
      have a0_ : u2.cell? ⟨w1.heap.size + 1, i * 2, none⟩ = some (.int .i64 (cmpOpR i)) := cell_of_heap tR (cmp_tab i hi).2.2.1
      have a1_ : u2.cell? ⟨w1.heap.size + 1, i * 2 + 1, none⟩ = some (.bool (cmpExR i)) := cell_of_heap tR (cmp_tab i hi).2.2.2
      have al_ := lt_of_heap tR
      have hi1 : (0 : Int) ≤ (i : Nat) := by omega
      have hi2 : ((i : Nat) : Int) < 14 := by omega
      have o0_ : u2.cell? ⟨u1.heap.size, 0, none⟩ = some (.int .i64 tmp) := cell_of_heap tO rfl
      have o1_ : u2.cell? ⟨u1.heap.size, 1, none⟩ = some (.int .i64 0) := cell_of_heap tO rfl
      have o2_ : u2.cell? ⟨u1.heap.size, 2, none⟩ = some (.int .u32 0) := cell_of_heap tO rfl
      have o3_ : u2.cell? ⟨u1.heap.size, 3, none⟩ = some (.int .u32 0) := cell_of_heap tO rfl
      have o4_ : u2.cell? ⟨u1.heap.size, 4, none⟩ = some (.int .u32 0) := cell_of_heap tO rfl
      have o5_ : u2.cell? ⟨u1.heap.size, 5, none⟩ = some (.int .u32 0) := cell_of_heap tO rfl
      have ol_ := lt_of_heap tO
      have z0_ : u2.cell? ⟨w2.heap.size, 0, none⟩ = some (.int .i64 (-1)) := cell_of_heap tZ rfl
      have z1_ : u2.cell? ⟨w2.heap.size, 1, none⟩ = some (.int .i64 32) := cell_of_heap tZ rfl
      have z2_ : u2.cell? ⟨w2.heap.size, 2, none⟩ = some (.int .u32 0) := cell_of_heap tZ rfl
      have z3_ : u2.cell? ⟨w2.heap.size, 3, none⟩ = some (.int .u32 0) := cell_of_heap tZ rfl
      have z4_ : u2.cell? ⟨w2.heap.size, 4, none⟩ = some (.int .u32 0) := cell_of_heap tZ rfl
      have z5_ : u2.cell? ⟨w2.heap.size, 5, none⟩ = some (.int .u32 0) := cell_of_heap tZ rfl
      have zl_ := lt_of_heap tZ
      clear tR tZ tO
      have HD := Lib.hid (S2.out.new ((New.refl u2).drew))
      have KD := Lib.hid (K2.out.new ((New.refl u2).drew))
      go_still_tail 8, (by kernel_rfl)
      change wpList _ _ _ _ _ u2.drew
      clear a0_ a1_ al_
      clear o0_ o1_ o2_ o3_ o4_ o5_ ol_
      clear z0_ z1_ z2_ z3_ z4_ z5_ zl_
      generalize u2.drew = u3 at *
      go_wp2_with fail
      refine (compared_c lo bs v1 tmp ([] ++ [⟨4, binTy bi, bi, 0, [⟨x0, x1, x2, x3, x4, x5⟩, ⟨y0, y1, y2, y3, y4, y5⟩]⟩]) (cmpOpR i) (cmpExR i) (tmpA tmp) (wordA 0) _ HD.out (by simp) ht0 (by omega)).mono ?_
      rintro e w5 ⟨v5, rfl, k1, k2, k3⟩
      have HP := Lib.hid (SimPost.new (w := w) TC.out.n (SimPost.trans (r := .bool (cmpOpR i != 0)) (w1 := u3) KD.out G1.out ⟨v5, rfl, k1, k2, k3⟩))
      clear k1 k2 k3
      go_wp2
      go_ret
      rw [HRES.out]
      have := HP.out
      rw [HTY.out] at this
      exact this
    · have hres : simpL i op ⟨x0, x1, x2, x3, x4, x5⟩ ⟨y0, y1, y2, y3, y4, y5⟩ tmp = ([], false) := by
        have hc := HCASE.out
        unfold simpL
        rw [if_neg hc.2.2.2, if_neg hc.2.1, if_neg hc.2.2.1, if_neg (by omega), if_neg (by omega), if_pos hc.1, if_pos hB]
      have HRES := Lib.hid hres
      clear hres hB
      refine (operation_none lo bs v tmp [] op ⟨x0, x1, x2, x3, x4, x5⟩ ⟨y0, y1, y2, y3, y4, y5⟩ _ HC.out hf).mono ?_
      rintro e u1 ⟨v1, rfl, s1, k1, g1⟩
      have HP := Lib.hid (SimPost.new (w := w) (r := .bool false) TC.out.n ⟨v1, rfl, s1, k1, g1⟩)
      clear s1 k1 g1 hf
      clear x0_ x1_ x2_ x3_ x4_ x5_ xl_
      clear y0_ y1_ y2_ y3_ y4_ y5_ yl_
      have HA := Lib.hid (SimPost.newR HP.out ((New.refl u1).alloc (Nat.le_refl _) (.cells #[.int .i64 0, .int .i64 0, .int .u32 0, .int .u32 0, .int .u32 0, .int .u32 0] 59)))
      unfold tmpA Atom.val
      dsimp only
      go_upto_region 18 with (fail)
      go_quiet (fail)
      go_wp2
      go_ret
      rw [HRES.out]
      exact SimPost.newR HA.out (below_drewN (New.refl _) _)
set_option maxRecDepth 100000 in
set_option maxHeartbeats 8000000 in
theorem simplified_H (lo bs : Nat) (v : Value) (tmp : Int) (i : Nat) (op : Int) (x y : Atom) (w : World) (hs : SimE w lo bs v tmp []) (ht0 : 0 ≤ tmp) (ht1 : tmp ≤ 9000) (hi : i < 14) (hop : 0 ≤ op) (hcase : ¬ (i = 0 ∨ i = 1 ∨ i = 4 ∨ i = 5) ∧ op ≠ 3 ∧ op ≠ 0 ∧ op ≠ 2 ∧ ¬ (op = 1 ∧ i = 2) ∧ ¬ (op = 1 ∧ i = 3)) :
    Calls Try.prog 40 #[.pointer (some ⟨bs, 0, none⟩), .int .i64 i, .int .u32 op, x.val, y.val] w (SimPost lo bs v tmp (simpL i op x y tmp).1 (.bool (simpL i op x y tmp).2) w) := by
  have HS := Lib.hid hs
  have HCASE := Lib.hid hcase
  clear hcase
  have HX := Lib.hid hi
  clear hs
  obtain ⟨x0, x1, x2, x3, x4, x5⟩ := x
  obtain ⟨y0, y1, y2, y3, y4, y5⟩ := y
  unfold Atom.val
  dsimp only
  go_enter Try.func40, Try.ntmps40
  go_wp2_with fail
  refine (comparisons_c _).mono ?_
  rintro e w1 ⟨rfl, hb1⟩
  have hn1 : New w w1 := Below.trans (by go_grown) (hb1.mono (by simp; omega))
  have X1r : w1.heap[w.heap.size]? = some (.cells #[.int .i64 x0, .int .i64 x1, .int .u32 x2, .int .u32 x3, .int .u32 x4, .int .u32 x5] 59) := (hb1.block _ (by simp only [World.size_alloc]; omega)).trans (heap_keep (heap_alloc_at _ _ _ rfl))
  have Y1r : w1.heap[w.heap.size + 1]? = some (.cells #[.int .i64 y0, .int .i64 y1, .int .u32 y2, .int .u32 y3, .int .u32 y4, .int .u32 y5] 59) := (hb1.block _ (by simp only [World.size_alloc]; omega)).trans (heap_alloc_at _ _ _ (by simp))
  have hz1 := hb1.size
  simp only [World.size_alloc] at hz1
  have X1 := Lib.hid X1r
  have Y1 := Lib.hid Y1r
  have HN1 := Lib.hid hn1
  clear hb1 hn1 X1r Y1r
  unfold cmpS cmpR
  go_wp2_with fail
  refine (tword_c 0 _).mono ?_
  rintro e w2 ⟨rfl, hb2⟩
  have hn2 : New w w2 := Below.trans (HN1.out.alloc (by omega) _ |>.alloc (by simp only [World.size_alloc]; omega) _) (hb2.mono (by simp only [World.size_alloc]; omega))
  have hz2 := hb2.size
  simp only [World.size_alloc] at hz2
  have ZB := (New.refl w2).alloc (Nat.le_refl _) (.cells #[.int .i64 (-1), .int .i64 32, .int .u32 0, .int .u32 0, .int .u32 0, .int .u32 0] 59)
  have T3 := Lib.hid (show SimT w (w2.alloc (.cells #[.int .i64 (-1), .int .i64 32, .int .u32 0, .int .u32 0, .int .u32 0, .int .u32 0] 59)) w1.heap.size (w1.heap.size + 1) w.heap.size (w.heap.size + 1) w2.heap.size ⟨x0, x1, x2, x3, x4, x5⟩ ⟨y0, y1, y2, y3, y4, y5⟩ from
    ⟨keep ZB ((hb2.block w1.heap.size (by simp only [World.size_alloc]; omega)).trans (heap_keep (heap_alloc_at _ _ _ rfl))),
     keep ZB ((hb2.block (w1.heap.size + 1) (by simp only [World.size_alloc]; omega)).trans (heap_alloc_at _ _ _ (by simp))),
     keep ZB ((hb2.block _ (by simp only [World.size_alloc]; omega)).trans (heap_keep (heap_keep X1.out))),
     keep ZB ((hb2.block _ (by simp only [World.size_alloc]; omega)).trans (heap_keep (heap_keep Y1.out))),
     heap_alloc_at _ _ _ rfl, hn2.trans (ZB.mono hn2.size)⟩)
  have HS3 := Lib.hid ((HS.out.new hn2).alloc (.cells #[.int .i64 (-1), .int .i64 32, .int .u32 0, .int .u32 0, .int .u32 0, .int .u32 0] 59))
  clear hb2 hn2 ZB X1 Y1 HN1
  unfold wordA Atom.val
  dsimp only
  go_upto_region 3 with (fail)
  generalize w2.alloc (.cells #[.int .i64 (-1), .int .i64 32, .int .u32 0, .int .u32 0, .int .u32 0, .int .u32 0] 59) = w3 at *
  go_cut [14] (fun s w' => s = .bool (isSgn i) ∧ w' = w3)
  case first =>
    by_cases h4 : i = 4
    · subst h4
      go_wp2_with fail
      go_meet
      case rel => exact ⟨rfl, rfl⟩
    · by_cases h5 : i = 5
      · subst h5
        go_wp2_with fail
        go_meet
        case rel => exact ⟨rfl, rfl⟩
      · have b4 : (((i : Nat) : Int) == 4) = false := by simp; omega
        have b5 : (((i : Nat) : Int) == 5) = false := by simp; omega
        go_wp2_with fail
        go_meet
        case rel => exact ⟨congrArg Value.bool (by simp [isSgn, h4, h5]), rfl⟩
  case rest =>
    obtain ⟨rfl, rfl⟩ := hcut
    have TC := T3
    have HC := HS3
    clear T3 HS3
    have hi0 := HX.out
    have bo3 : (op == 3) = false := by have := HCASE.out; simp; omega
    have bo0 : (op == 0) = false := by have := HCASE.out; simp; omega
    have bo2 : (op == 2) = false := by have := HCASE.out; simp; omega
    go_upto_region 12 with (fail)
    go_cut [83] (fun v w' => v = .bool false ∧ w' = wc)
    case first =>
      by_cases c1 : op = 1
      · have bo1 : (op == 1) = true := by simp; omega
        have bi2 : (((i : Nat) : Int) == 2) = false := by have := HCASE.out; simp; omega
        clear c1
        go_wp2_with fail
        go_meet
        case rel => exact ⟨rfl, rfl⟩
      · have bo1 : (op == 1) = false := by simp; omega
        clear c1
        go_wp2_with fail
        go_meet
        case rel => exact ⟨rfl, rfl⟩
    case rest =>
    obtain ⟨rfl, rfl⟩ := hcut
    go_upto_region 14 with (fail)
    go_cut [97] (fun v w' => v = .bool false ∧ w' = wc)
    case first =>
      by_cases c1 : op = 1
      · have bo1 : (op == 1) = true := by simp; omega
        have bi3 : (((i : Nat) : Int) == 3) = false := by have := HCASE.out; simp; omega
        clear c1
        go_wp2_with fail
        go_meet
        case rel => exact ⟨rfl, rfl⟩
      · have bo1 : (op == 1) = false := by simp; omega
        clear c1
        go_wp2_with fail
        go_meet
        case rel => exact ⟨rfl, rfl⟩
    case rest =>
    obtain ⟨rfl, rfl⟩ := hcut
    have bi0 : (((i : Nat) : Int) == 0) = false := by have := HCASE.out; simp; omega
    have bi1 : (((i : Nat) : Int) == 1) = false := by have := HCASE.out; simp; omega
    have hsg : isSgn i = false := by have := HCASE.out; simp [isSgn]; omega
    have hres : simpL i op ⟨x0, x1, x2, x3, x4, x5⟩ ⟨y0, y1, y2, y3, y4, y5⟩ tmp = ([], false) := by
      have hc := HCASE.out
      unfold simpL
      rw [if_neg (fun q => by omega), if_neg (by omega), if_neg (by omega), if_neg (by omega), if_neg (by omega), if_neg (by omega)]
    have HRES := Lib.hid hres
    clear hres
    go_wp2
    go_ret
    rw [HRES.out]
    exact SimPost.new TC.out.n (SimPost.refl HC.out (New.refl _) _)
/-- simplified, for all conditions below 14 and all operations. -/
theorem simplified_c (lo bs : Nat) (v : Value) (tmp : Int) (i : Nat) (op : Int) (x y : Atom) (w : World) (hs : SimE w lo bs v tmp []) (ht0 : 0 ≤ tmp) (ht1 : tmp ≤ 9000) (hi : i < 14) (hop : 0 ≤ op) :
    Calls Try.prog 40 #[.pointer (some ⟨bs, 0, none⟩), .int .i64 i, .int .u32 op, x.val, y.val] w (SimPost lo bs v tmp (simpL i op x y tmp).1 (.bool (simpL i op x y tmp).2) w) := by
  by_cases hA : (op = 2 ∧ isSgn i = false) ∨ op = 3 ∨ op = 0
  · exact simplified_A lo bs v tmp i op x y w hs ht0 ht1 hi hop hA
  simp only [not_or] at hA
  by_cases hE : op = 1 ∧ i = 2
  · exact simplified_E lo bs v tmp i op x y w hs ht0 ht1 hi hop hE
  by_cases hF : op = 1 ∧ i = 3
  · exact simplified_F lo bs v tmp i op x y w hs ht0 ht1 hi hop hF
  by_cases hG : i = 0 ∨ i = 1 ∨ i = 4 ∨ i = 5
  · exact simplified_G lo bs v tmp i op x y w hs ht0 ht1 hi hop ⟨hG, hA.2.1, hA.2.2, hA.1⟩
  · have hsg : isSgn i = false := by simp [isSgn]; omega
    exact simplified_H lo bs v tmp i op x y w hs ht0 ht1 hi hop ⟨hG, hA.2.1, hA.2.2, fun q => hA.1 ⟨q, hsg⟩, hE, hF⟩
end Go.Proofs.Ytmkjgkldbonpnaa
