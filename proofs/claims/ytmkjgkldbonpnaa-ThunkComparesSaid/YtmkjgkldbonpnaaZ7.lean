/- Parts of the proof: WSimG, WSimplify. -/
import Derived.Test.YtmkjgkldbonpnaaZ6
import Derived.Test.YtmkjgkldbonpnaaZ2
/- The simplifier's simplified, for all conditions and operations. -/
namespace Go.Proofs.Ytmkjgkldbonpnaa
open Go Go.RowKit Go.Cd
set_option linter.unusedVariables false

attribute [local go_sem] ones_nil ones_int ones_bool st1 st2 ld1 ld2 st1d st2d ld1d ld2d
attribute [local go_sem ↓] ex1 ex2 Go.wp_at_zero Go.wp_at_succ
theorem SimPost.newR {lo bs : Nat} {v : Value} {tmp : Int} {es : List IExpr} {r r' : Value} {w : World} {w' w'' : World} (h : SimPost lo bs v tmp es r w (.returned r') w') (hb : New w' w'') : SimPost lo bs v tmp es r w (.returned r) w'' := by
  obtain ⟨v', he, hs, hk, hg⟩ := h
  exact ⟨v', rfl, hs.new hb, hk.new hb, hg⟩
set_option maxRecDepth 100000 in
set_option maxHeartbeats 8000000 in
theorem simplified_G (lo bs : Nat) (v : Value) (tmp : Int) (i : Nat) (op : Int) (x y : Atom) (w : World) (hs : SimE w lo bs v tmp []) (ht0 : 0 ≤ tmp) (ht1 : tmp ≤ 9000) (hi : i < 14) (hop : 0 ≤ op) (hcase : (i = 0 ∨ i = 1 ∨ i = 4 ∨ i = 5) ∧ op ≠ 3 ∧ op ≠ 0 ∧ ¬ (op = 2 ∧ isSgn i = false)) :
    Calls Try.prog 40 #[.pointer (some ⟨bs, 0, none⟩), .int .i64 i, .int .u32 op, x.val, y.val] w (SimPost lo bs v tmp (simpL i op x y tmp).1 (.bool (simpL i op x y tmp).2) w) := by
  have HS := Lib.hid hs
  have HCASE := Lib.hid hcase
  clear hcase
  have HX := Lib.hid hi
  clear hs
  obtain ⟨x0, x1, x2, x3, x4, x5⟩ := x
  obtain ⟨y0, y1, y2, y3, y4, y5⟩ := y
  unfold Atom.val
  dsimp only
  go_enter Try.func40, Try.ntmps40
  go_wp2_with fail
  refine (comparisons_c _).mono ?_
  rintro e w1 ⟨rfl, hb1⟩
  have hn1 : New w w1 := Below.trans (by go_grown) (hb1.mono (by simp; omega))
  have X1r : w1.heap[w.heap.size]? = some (.cells #[.int .i64 x0, .int .i64 x1, .int .u32 x2, .int .u32 x3, .int .u32 x4, .int .u32 x5] 59) := (hb1.block _ (by simp only [World.size_alloc]; omega)).trans (heap_keep (heap_alloc_at _ _ _ rfl))
  have Y1r : w1.heap[w.heap.size + 1]? = some (.cells #[.int .i64 y0, .int .i64 y1, .int .u32 y2, .int .u32 y3, .int .u32 y4, .int .u32 y5] 59) := (hb1.block _ (by simp only [World.size_alloc]; omega)).trans (heap_alloc_at _ _ _ (by simp))
  have hz1 := hb1.size
  simp only [World.size_alloc] at hz1
  have X1 := Lib.hid X1r
  have Y1 := Lib.hid Y1r
  have HN1 := Lib.hid hn1
  clear hb1 hn1 X1r Y1r
  unfold cmpS cmpR
  go_wp2_with fail
  refine (tword_c 0 _).mono ?_
  rintro e w2 ⟨rfl, hb2⟩
  have hn2 : New w w2 := Below.trans (HN1.out.alloc (by omega) _ |>.alloc (by simp only [World.size_alloc]; omega) _) (hb2.mono (by simp only [World.size_alloc]; omega))
  have hz2 := hb2.size
  simp only [World.size_alloc] at hz2
  have ZB := (New.refl w2).alloc (Nat.le_refl _) (.cells #[.int .i64 (-1), .int .i64 32, .int .u32 0, .int .u32 0, .int .u32 0, .int .u32 0] 59)
  have T3 := Lib.hid (show SimT w (w2.alloc (.cells #[.int .i64 (-1), .int .i64 32, .int .u32 0, .int .u32 0, .int .u32 0, .int .u32 0] 59)) w1.heap.size (w1.heap.size + 1) w.heap.size (w.heap.size + 1) w2.heap.size ⟨x0, x1, x2, x3, x4, x5⟩ ⟨y0, y1, y2, y3, y4, y5⟩ from
    ⟨keep ZB ((hb2.block w1.heap.size (by simp only [World.size_alloc]; omega)).trans (heap_keep (heap_alloc_at _ _ _ rfl))),
     keep ZB ((hb2.block (w1.heap.size + 1) (by simp only [World.size_alloc]; omega)).trans (heap_alloc_at _ _ _ (by simp))),
     keep ZB ((hb2.block _ (by simp only [World.size_alloc]; omega)).trans (heap_keep (heap_keep X1.out))),
     keep ZB ((hb2.block _ (by simp only [World.size_alloc]; omega)).trans (heap_keep (heap_keep Y1.out))),
     heap_alloc_at _ _ _ rfl, hn2.trans (ZB.mono hn2.size)⟩)
  have HS3 := Lib.hid ((HS.out.new hn2).alloc (.cells #[.int .i64 (-1), .int .i64 32, .int .u32 0, .int .u32 0, .int .u32 0, .int .u32 0] 59))
  clear hb2 hn2 ZB X1 Y1 HN1
  unfold wordA Atom.val
  dsimp only
  go_upto_region 3 with (fail)
  generalize w2.alloc (.cells #[.int .i64 (-1), .int .i64 32, .int .u32 0, .int .u32 0, .int .u32 0, .int .u32 0] 59) = w3 at *
  go_cut [14] (fun s w' => s = .bool (isSgn i) ∧ w' = w3)
  case first =>
    by_cases h4 : i = 4
    · subst h4
      go_wp2_with fail
      go_meet
      case rel => exact ⟨rfl, rfl⟩
    · by_cases h5 : i = 5
      · subst h5
        go_wp2_with fail
        go_meet
        case rel => exact ⟨rfl, rfl⟩
      · have b4 : (((i : Nat) : Int) == 4) = false := by simp; omega
        have b5 : (((i : Nat) : Int) == 5) = false := by simp; omega
        go_wp2_with fail
        go_meet
        case rel => exact ⟨congrArg Value.bool (by simp [isSgn, h4, h5]), rfl⟩
  case rest =>
    obtain ⟨rfl, rfl⟩ := hcut
    have TC := T3
    have HC := HS3
    clear T3 HS3
    have hi0 := HX.out
    go_upto_region 4 with (fail)
    go_cut [28] (fun v w' => v = .bool false ∧ w' = wc)
    case first =>
      by_cases c2 : op = 2
      · have bo2 : (op == 2) = true := by simp; omega
        have hsg : isSgn i = true := (by
          have h := HCASE.out.2.2.2
          cases hh : isSgn i
          · exact absurd ⟨c2, hh⟩ h
          · rfl)
        clear c2
        go_wp2_with fail
        go_meet
        case rel => exact ⟨rfl, rfl⟩
      · have bo2 : (op == 2) = false := by simp; omega
        clear c2
        go_wp2_with fail
        go_meet
        case rel => exact ⟨rfl, rfl⟩
    case rest =>
    obtain ⟨rfl, rfl⟩ := hcut
    have bo3 : (op == 3) = false := by have := HCASE.out; simp; omega
    have bo0 : (op == 0) = false := by have := HCASE.out; simp; omega
    go_upto_region 12 with (fail)
    go_cut [83] (fun v w' => v = .bool false ∧ w' = wc)
    case first =>
      by_cases c1 : op = 1
      · have bo1 : (op == 1) = true := by simp; omega
        have bi2 : (((i : Nat) : Int) == 2) = false := by have := HCASE.out; simp; omega
        clear c1
        go_wp2_with fail
        go_meet
        case rel => exact ⟨rfl, rfl⟩
      · have bo1 : (op == 1) = false := by simp; omega
        clear c1
        go_wp2_with fail
        go_meet
        case rel => exact ⟨rfl, rfl⟩
    case rest =>
    obtain ⟨rfl, rfl⟩ := hcut
    go_upto_region 14 with (fail)
    go_cut [97] (fun v w' => v = .bool false ∧ w' = wc)
    case first =>
      by_cases c1 : op = 1
      · have bo1 : (op == 1) = true := by simp; omega
        have bi3 : (((i : Nat) : Int) == 3) = false := by have := HCASE.out; simp; omega
        clear c1
        go_wp2_with fail
        go_meet
        case rel => exact ⟨rfl, rfl⟩
      · have bo1 : (op == 1) = false := by simp; omega
        clear c1
        go_wp2_with fail
        go_meet
        case rel => exact ⟨rfl, rfl⟩
    case rest =>
    obtain ⟨rfl, rfl⟩ := hcut
    go_upto_region 16 with (fail)
    go_cut [14, 111] (fun _ v w' => v = .bool true ∧ w' = wc)
    case first =>
      by_cases hsg : isSgn i = true
      · go_wp2_with fail
        go_meet
        case rel => exact ⟨rfl, rfl⟩
      · have hsg2 : isSgn i = false := by simpa using hsg
        clear hsg
        by_cases c0 : i = 0
        · have bi0 : (((i : Nat) : Int) == 0) = true := by simp; omega
          clear c0
          go_wp2_with fail
          go_meet
          case rel => exact ⟨rfl, rfl⟩
        · have bi0 : (((i : Nat) : Int) == 0) = false := by simp; omega
          have bi1 : (((i : Nat) : Int) == 1) = true := by
            have := HCASE.out
            have h45 : i ≠ 4 ∧ i ≠ 5 := by constructor <;> (intro q; subst q; cases hsg2)
            simp; omega
          clear c0
          go_wp2_with fail
          go_meet
          case rel => exact ⟨rfl, rfl⟩
    case rest =>
    obtain ⟨rfl, rfl⟩ := hcut
    obtain ⟨tS, tR, tX, tY, tZ, tN⟩ := TC.out
    have BR := Lib.hid tR
    have BZ := Lib.hid tZ
    have hl0 := HS.out.lt
    have HL := Lib.hid hl0
    clear hl0
    have x0_ : wc.cell? ⟨w.heap.size, 0, none⟩ = some (.int .i64 x0) := cell_of_heap tX rfl
    have x1_ : wc.cell? ⟨w.heap.size, 1, none⟩ = some (.int .i64 x1) := cell_of_heap tX rfl
    have x2_ : wc.cell? ⟨w.heap.size, 2, none⟩ = some (.int .u32 x2) := cell_of_heap tX rfl
    have x3_ : wc.cell? ⟨w.heap.size, 3, none⟩ = some (.int .u32 x3) := cell_of_heap tX rfl
    have x4_ : wc.cell? ⟨w.heap.size, 4, none⟩ = some (.int .u32 x4) := cell_of_heap tX rfl
    have x5_ : wc.cell? ⟨w.heap.size, 5, none⟩ = some (.int .u32 x5) := cell_of_heap tX rfl
    have xl_ := lt_of_heap tX
    have y0_ : wc.cell? ⟨w.heap.size + 1, 0, none⟩ = some (.int .i64 y0) := cell_of_heap tY rfl
    have y1_ : wc.cell? ⟨w.heap.size + 1, 1, none⟩ = some (.int .i64 y1) := cell_of_heap tY rfl
    have y2_ : wc.cell? ⟨w.heap.size + 1, 2, none⟩ = some (.int .u32 y2) := cell_of_heap tY rfl
    have y3_ : wc.cell? ⟨w.heap.size + 1, 3, none⟩ = some (.int .u32 y3) := cell_of_heap tY rfl
    have y4_ : wc.cell? ⟨w.heap.size + 1, 4, none⟩ = some (.int .u32 y4) := cell_of_heap tY rfl
    have y5_ : wc.cell? ⟨w.heap.size + 1, 5, none⟩ = some (.int .u32 y5) := cell_of_heap tY rfl
    have yl_ := lt_of_heap tY
    clear tS tR tX tY tZ tN
    go_wp2_with fail
    rcases opB_of op with ⟨idx, bi, hf, hB, hne⟩ | ⟨hf, hB⟩
    · have hres : simpL i op ⟨x0, x1, x2, x3, x4, x5⟩ ⟨y0, y1, y2, y3, y4, y5⟩ tmp = ([⟨4, 32, bi, 0, [⟨x0, x1, x2, x3, x4, x5⟩, ⟨y0, y1, y2, y3, y4, y5⟩]⟩] ++ cmpO (cmpOpR i) (cmpExR i) (tmpA tmp) (wordA 0) tmp 1, cmpOpR i != 0) := by
        have hc := HCASE.out
        unfold simpL
        rw [if_neg hc.2.2.2, if_neg hc.2.1, if_neg hc.2.2.1, if_neg (by omega), if_neg (by omega), if_pos hc.1, if_neg (by rw [hB]; exact hne), hB]
      have HRES := Lib.hid hres
      clear hres
      have hty : binTy bi = 32 := by rw [← hB]; unfold opB binTy; (repeat' split) <;> first | rfl | omega
      have HTY := Lib.hid hty
      clear hty hB
      refine (operation_some lo bs v tmp [] op bi idx ⟨x0, x1, x2, x3, x4, x5⟩ ⟨y0, y1, y2, y3, y4, y5⟩ _ HC.out (by decide) ht0 (by omega) hf).mono ?_
      rintro e u1 ⟨v1, rfl, s1, k1, g1⟩
      have hR1 := (k1.block (w1.heap.size + 1) (lt_of_heap BR.out) (by have := HL.out.1; omega) (fun q => by have := HL.out.2 _ q.symm; omega)).trans BR.out
      have hZ1 := (k1.block w2.heap.size (lt_of_heap BZ.out) (by have := HL.out.1; omega) (fun q => by have := HL.out.2 _ q.symm; omega)).trans BZ.out
      have S1 := Lib.hid s1
      have K1 := Lib.hid k1
      have G1 := Lib.hid g1
      clear s1 k1 g1 hf
      clear x0_ x1_ x2_ x3_ x4_ x5_ xl_
      clear y0_ y1_ y2_ y3_ y4_ y5_ yl_
      have R2 := Lib.hid (heap_keep (o := (.cells #[.int .i64 tmp, .int .i64 0, .int .u32 0, .int .u32 0, .int .u32 0, .int .u32 0] 59)) hR1)
      have Z2 := Lib.hid (heap_keep (o := (.cells #[.int .i64 tmp, .int .i64 0, .int .u32 0, .int .u32 0, .int .u32 0, .int .u32 0] 59)) hZ1)
      have O2 := Lib.hid (heap_alloc_at u1 (.cells #[.int .i64 tmp, .int .i64 0, .int .u32 0, .int .u32 0, .int .u32 0, .int .u32 0] 59) _ rfl)
      have S2 := Lib.hid (S1.out.alloc (.cells #[.int .i64 tmp, .int .i64 0, .int .u32 0, .int .u32 0, .int .u32 0, .int .u32 0] 59))
      have K2 := Lib.hid (K1.out.alloc (.cells #[.int .i64 tmp, .int .i64 0, .int .u32 0, .int .u32 0, .int .u32 0, .int .u32 0] 59))
      clear hR1 hZ1
      unfold tmpA Atom.val
      dsimp only
      go_upto_region 18 with (fail)
      generalize hu2 : u1.alloc (.cells #[.int .i64 tmp, .int .i64 0, .int .u32 0, .int .u32 0, .int .u32 0, .int .u32 0] 59) = u2 at *
      clear hu2
      have tR := R2.out
      have tZ := Z2.out
      have tO := O2.out
      have a0_ : u2.cell? ⟨w1.heap.size + 1, i * 2, none⟩ = some (.int .i64 (cmpOpR i)) := cell_of_heap tR (cmp_tab i hi).2.2.1
      have a1_ : u2.cell? ⟨w1.heap.size + 1, i * 2 + 1, none⟩ = some (.bool (cmpExR i)) := cell_of_heap tR (cmp_tab i hi).2.2.2
      have al_ := lt_of_heap tR
      have hi1 : (0 : Int) ≤ (i : Nat) := by omega
      have hi2 : ((i : Nat) : Int) < 14 := by omega
      have o0_ : u2.cell? ⟨u1.heap.size, 0, none⟩ = some (.int .i64 tmp) := cell_of_heap tO rfl
      have o1_ : u2.cell? ⟨u1.heap.size, 1, none⟩ = some (.int .i64 0) := cell_of_heap tO rfl
      have o2_ : u2.cell? ⟨u1.heap.size, 2, none⟩ = some (.int .u32 0) := cell_of_heap tO rfl
      have o3_ : u2.cell? ⟨u1.heap.size, 3, none⟩ = some (.int .u32 0) := cell_of_heap tO rfl
      have o4_ : u2.cell? ⟨u1.heap.size, 4, none⟩ = some (.int .u32 0) := cell_of_heap tO rfl
      have o5_ : u2.cell? ⟨u1.heap.size, 5, none⟩ = some (.int .u32 0) := cell_of_heap tO rfl
      have ol_ := lt_of_heap tO
      have z0_ : u2.cell? ⟨w2.heap.size, 0, none⟩ = some (.int .i64 (-1)) := cell_of_heap tZ rfl
      have z1_ : u2.cell? ⟨w2.heap.size, 1, none⟩ = some (.int .i64 32) := cell_of_heap tZ rfl
      have z2_ : u2.cell? ⟨w2.heap.size, 2, none⟩ = some (.int .u32 0) := cell_of_heap tZ rfl
      have z3_ : u2.cell? ⟨w2.heap.size, 3, none⟩ = some (.int .u32 0) := cell_of_heap tZ rfl
      have z4_ : u2.cell? ⟨w2.heap.size, 4, none⟩ = some (.int .u32 0) := cell_of_heap tZ rfl
      have z5_ : u2.cell? ⟨w2.heap.size, 5, none⟩ = some (.int .u32 0) := cell_of_heap tZ rfl
      have zl_ := lt_of_heap tZ
      clear tR tZ tO
      have HD := Lib.hid (S2.out.new ((New.refl u2).drew))
      have KD := Lib.hid (K2.out.new ((New.refl u2).drew))
      go_still_tail 8, (by kernel_rfl)
      change wpList _ _ _ _ _ u2.drew
      clear a0_ a1_ al_
      clear o0_ o1_ o2_ o3_ o4_ o5_ ol_
      clear z0_ z1_ z2_ z3_ z4_ z5_ zl_
      generalize u2.drew = u3 at *
      go_wp2_with fail
      refine (compared_c lo bs v1 tmp ([] ++ [⟨4, binTy bi, bi, 0, [⟨x0, x1, x2, x3, x4, x5⟩, ⟨y0, y1, y2, y3, y4, y5⟩]⟩]) (cmpOpR i) (cmpExR i) (tmpA tmp) (wordA 0) _ HD.out (by simp) ht0 (by omega)).mono ?_
      rintro e w5 ⟨v5, rfl, k1, k2, k3⟩
      have HP := Lib.hid (SimPost.new (w := w) TC.out.n (SimPost.trans (r := .bool (cmpOpR i != 0)) (w1 := u3) KD.out G1.out ⟨v5, rfl, k1, k2, k3⟩))
      clear k1 k2 k3
      go_wp2
      go_ret
      rw [HRES.out]
      have := HP.out
      rw [HTY.out] at this
      exact this
    · have hres : simpL i op ⟨x0, x1, x2, x3, x4, x5⟩ ⟨y0, y1, y2, y3, y4, y5⟩ tmp = ([], false) := by
        have hc := HCASE.out
        unfold simpL
        rw [if_neg hc.2.2.2, if_neg hc.2.1, if_neg hc.2.2.1, if_neg (by omega), if_neg (by omega), if_pos hc.1, if_pos hB]
      have HRES := Lib.hid hres
      clear hres hB
      refine (operation_none lo bs v tmp [] op ⟨x0, x1, x2, x3, x4, x5⟩ ⟨y0, y1, y2, y3, y4, y5⟩ _ HC.out hf).mono ?_
      rintro e u1 ⟨v1, rfl, s1, k1, g1⟩
      have HP := Lib.hid (SimPost.new (w := w) (r := .bool false) TC.out.n ⟨v1, rfl, s1, k1, g1⟩)
      clear s1 k1 g1 hf
      clear x0_ x1_ x2_ x3_ x4_ x5_ xl_
      clear y0_ y1_ y2_ y3_ y4_ y5_ yl_
      have HA := Lib.hid (SimPost.newR HP.out ((New.refl u1).alloc (Nat.le_refl _) (.cells #[.int .i64 0, .int .i64 0, .int .u32 0, .int .u32 0, .int .u32 0, .int .u32 0] 59)))
      unfold tmpA Atom.val
      dsimp only
      go_upto_region 18 with (fail)
      go_quiet (fail)
      go_wp2
      go_ret
      rw [HRES.out]
      exact SimPost.newR HA.out (below_drewN (New.refl _) _)
set_option maxRecDepth 100000 in
set_option maxHeartbeats 8000000 in
theorem simplified_H (lo bs : Nat) (v : Value) (tmp : Int) (i : Nat) (op : Int) (x y : Atom) (w : World) (hs : SimE w lo bs v tmp []) (ht0 : 0 ≤ tmp) (ht1 : tmp ≤ 9000) (hi : i < 14) (hop : 0 ≤ op) (hcase : ¬ (i = 0 ∨ i = 1 ∨ i = 4 ∨ i = 5) ∧ op ≠ 3 ∧ op ≠ 0 ∧ op ≠ 2 ∧ ¬ (op = 1 ∧ i = 2) ∧ ¬ (op = 1 ∧ i = 3)) :
    Calls Try.prog 40 #[.pointer (some ⟨bs, 0, none⟩), .int .i64 i, .int .u32 op, x.val, y.val] w (SimPost lo bs v tmp (simpL i op x y tmp).1 (.bool (simpL i op x y tmp).2) w) := by
  have HS := Lib.hid hs
  have HCASE := Lib.hid hcase
  clear hcase
  have HX := Lib.hid hi
  clear hs
  obtain ⟨x0, x1, x2, x3, x4, x5⟩ := x
  obtain ⟨y0, y1, y2, y3, y4, y5⟩ := y
  unfold Atom.val
  dsimp only
  go_enter Try.func40, Try.ntmps40
  go_wp2_with fail
  refine (comparisons_c _).mono ?_
  rintro e w1 ⟨rfl, hb1⟩
  have hn1 : New w w1 := Below.trans (by go_grown) (hb1.mono (by simp; omega))
  have X1r : w1.heap[w.heap.size]? = some (.cells #[.int .i64 x0, .int .i64 x1, .int .u32 x2, .int .u32 x3, .int .u32 x4, .int .u32 x5] 59) := (hb1.block _ (by simp only [World.size_alloc]; omega)).trans (heap_keep (heap_alloc_at _ _ _ rfl))
  have Y1r : w1.heap[w.heap.size + 1]? = some (.cells #[.int .i64 y0, .int .i64 y1, .int .u32 y2, .int .u32 y3, .int .u32 y4, .int .u32 y5] 59) := (hb1.block _ (by simp only [World.size_alloc]; omega)).trans (heap_alloc_at _ _ _ (by simp))
  have hz1 := hb1.size
  simp only [World.size_alloc] at hz1
  have X1 := Lib.hid X1r
  have Y1 := Lib.hid Y1r
  have HN1 := Lib.hid hn1
  clear hb1 hn1 X1r Y1r
  unfold cmpS cmpR
  go_wp2_with fail
  refine (tword_c 0 _).mono ?_
  rintro e w2 ⟨rfl, hb2⟩
  have hn2 : New w w2 := Below.trans (HN1.out.alloc (by omega) _ |>.alloc (by simp only [World.size_alloc]; omega) _) (hb2.mono (by simp only [World.size_alloc]; omega))
  have hz2 := hb2.size
  simp only [World.size_alloc] at hz2
  have ZB := (New.refl w2).alloc (Nat.le_refl _) (.cells #[.int .i64 (-1), .int .i64 32, .int .u32 0, .int .u32 0, .int .u32 0, .int .u32 0] 59)
  have T3 := Lib.hid (show SimT w (w2.alloc (.cells #[.int .i64 (-1), .int .i64 32, .int .u32 0, .int .u32 0, .int .u32 0, .int .u32 0] 59)) w1.heap.size (w1.heap.size + 1) w.heap.size (w.heap.size + 1) w2.heap.size ⟨x0, x1, x2, x3, x4, x5⟩ ⟨y0, y1, y2, y3, y4, y5⟩ from
    ⟨keep ZB ((hb2.block w1.heap.size (by simp only [World.size_alloc]; omega)).trans (heap_keep (heap_alloc_at _ _ _ rfl))),
     keep ZB ((hb2.block (w1.heap.size + 1) (by simp only [World.size_alloc]; omega)).trans (heap_alloc_at _ _ _ (by simp))),
     keep ZB ((hb2.block _ (by simp only [World.size_alloc]; omega)).trans (heap_keep (heap_keep X1.out))),
     keep ZB ((hb2.block _ (by simp only [World.size_alloc]; omega)).trans (heap_keep (heap_keep Y1.out))),
     heap_alloc_at _ _ _ rfl, hn2.trans (ZB.mono hn2.size)⟩)
  have HS3 := Lib.hid ((HS.out.new hn2).alloc (.cells #[.int .i64 (-1), .int .i64 32, .int .u32 0, .int .u32 0, .int .u32 0, .int .u32 0] 59))
  clear hb2 hn2 ZB X1 Y1 HN1
  unfold wordA Atom.val
  dsimp only
  go_upto_region 3 with (fail)
  generalize w2.alloc (.cells #[.int .i64 (-1), .int .i64 32, .int .u32 0, .int .u32 0, .int .u32 0, .int .u32 0] 59) = w3 at *
  go_cut [14] (fun s w' => s = .bool (isSgn i) ∧ w' = w3)
  case first =>
    by_cases h4 : i = 4
    · subst h4
      go_wp2_with fail
      go_meet
      case rel => exact ⟨rfl, rfl⟩
    · by_cases h5 : i = 5
      · subst h5
        go_wp2_with fail
        go_meet
        case rel => exact ⟨rfl, rfl⟩
      · have b4 : (((i : Nat) : Int) == 4) = false := by simp; omega
        have b5 : (((i : Nat) : Int) == 5) = false := by simp; omega
        go_wp2_with fail
        go_meet
        case rel => exact ⟨congrArg Value.bool (by simp [isSgn, h4, h5]), rfl⟩
  case rest =>
    obtain ⟨rfl, rfl⟩ := hcut
    have TC := T3
    have HC := HS3
    clear T3 HS3
    have hi0 := HX.out
    have bo3 : (op == 3) = false := by have := HCASE.out; simp; omega
    have bo0 : (op == 0) = false := by have := HCASE.out; simp; omega
    have bo2 : (op == 2) = false := by have := HCASE.out; simp; omega
    go_upto_region 12 with (fail)
    go_cut [83] (fun v w' => v = .bool false ∧ w' = wc)
    case first =>
      by_cases c1 : op = 1
      · have bo1 : (op == 1) = true := by simp; omega
        have bi2 : (((i : Nat) : Int) == 2) = false := by have := HCASE.out; simp; omega
        clear c1
        go_wp2_with fail
        go_meet
        case rel => exact ⟨rfl, rfl⟩
      · have bo1 : (op == 1) = false := by simp; omega
        clear c1
        go_wp2_with fail
        go_meet
        case rel => exact ⟨rfl, rfl⟩
    case rest =>
    obtain ⟨rfl, rfl⟩ := hcut
    go_upto_region 14 with (fail)
    go_cut [97] (fun v w' => v = .bool false ∧ w' = wc)
    case first =>
      by_cases c1 : op = 1
      · have bo1 : (op == 1) = true := by simp; omega
        have bi3 : (((i : Nat) : Int) == 3) = false := by have := HCASE.out; simp; omega
        clear c1
        go_wp2_with fail
        go_meet
        case rel => exact ⟨rfl, rfl⟩
      · have bo1 : (op == 1) = false := by simp; omega
        clear c1
        go_wp2_with fail
        go_meet
        case rel => exact ⟨rfl, rfl⟩
    case rest =>
    obtain ⟨rfl, rfl⟩ := hcut
    have bi0 : (((i : Nat) : Int) == 0) = false := by have := HCASE.out; simp; omega
    have bi1 : (((i : Nat) : Int) == 1) = false := by have := HCASE.out; simp; omega
    have hsg : isSgn i = false := by have := HCASE.out; simp [isSgn]; omega
    have hres : simpL i op ⟨x0, x1, x2, x3, x4, x5⟩ ⟨y0, y1, y2, y3, y4, y5⟩ tmp = ([], false) := by
      have hc := HCASE.out
      unfold simpL
      rw [if_neg (fun q => by omega), if_neg (by omega), if_neg (by omega), if_neg (by omega), if_neg (by omega), if_neg (by omega)]
    have HRES := Lib.hid hres
    clear hres
    go_wp2
    go_ret
    rw [HRES.out]
    exact SimPost.new TC.out.n (SimPost.refl HC.out (New.refl _) _)
/-- simplified, for all conditions below 14 and all operations. -/
theorem simplified_c (lo bs : Nat) (v : Value) (tmp : Int) (i : Nat) (op : Int) (x y : Atom) (w : World) (hs : SimE w lo bs v tmp []) (ht0 : 0 ≤ tmp) (ht1 : tmp ≤ 9000) (hi : i < 14) (hop : 0 ≤ op) :
    Calls Try.prog 40 #[.pointer (some ⟨bs, 0, none⟩), .int .i64 i, .int .u32 op, x.val, y.val] w (SimPost lo bs v tmp (simpL i op x y tmp).1 (.bool (simpL i op x y tmp).2) w) := by
  by_cases hA : (op = 2 ∧ isSgn i = false) ∨ op = 3 ∨ op = 0
  · exact simplified_A lo bs v tmp i op x y w hs ht0 ht1 hi hop hA
  simp only [not_or] at hA
  by_cases hE : op = 1 ∧ i = 2
  · exact simplified_E lo bs v tmp i op x y w hs ht0 ht1 hi hop hE
  by_cases hF : op = 1 ∧ i = 3
  · exact simplified_F lo bs v tmp i op x y w hs ht0 ht1 hi hop hF
  by_cases hG : i = 0 ∨ i = 1 ∨ i = 4 ∨ i = 5
  · exact simplified_G lo bs v tmp i op x y w hs ht0 ht1 hi hop ⟨hG, hA.2.1, hA.2.2, hA.1⟩
  · have hsg : isSgn i = false := by simp [isSgn]; omega
    exact simplified_H lo bs v tmp i op x y w hs ht0 ht1 hi hop ⟨hG, hA.2.1, hA.2.2, fun q => hA.1 ⟨q, hsg⟩, hE, hF⟩
end Go.Proofs.Ytmkjgkldbonpnaa
/- thunk.Simplify, for all lists of atoms. -/
namespace Go.Proofs.Ytmkjgkldbonpnaa
open Go Go.RowKit Go.Cd
set_option linter.unusedVariables false

/-- Atoms lie in a block from a place on. -/
def AtomsIn (w : World) (b off : Nat) (l : List Atom) : Prop := ∀ k a, l[k]? = some a → ∀ j u, a.cells[j]? = some u → w.cell? ⟨b, off + k * 6 + j, none⟩ = some u
theorem AtomsIn.new {w w' : World} {b off : Nat} {l : List Atom} (h : AtomsIn w b off l) (hb : b < w.heap.size) (hn : New w w') : AtomsIn w' b off l := fun k a ha j u hu =>
  (hn.cell (p := ⟨b, off + k * 6 + j, none⟩) hb).trans (h k a ha j u hu)
/-- Their numbers are numbers of their kinds. -/
def Atom.ok (a : Atom) : Prop := 0 ≤ a.c0 ∧ a.c0 < 4294967296
def negs (l : List Atom) : Nat := (l.filter fun a => decide (a.tmp < 0)).length
theorem negs_snoc (l : List Atom) (a : Atom) : negs (l ++ [a]) = negs l + if a.tmp < 0 then 1 else 0 := by
  unfold negs
  rw [List.filter_append, List.length_append]
  by_cases h : a.tmp < 0 <;> simp [h]
theorem negs_le (l : List Atom) : negs l ≤ l.length := List.length_filter_le _ _
theorem negs_five (c o a b d : Atom) : negs [c, o, a, b, d] = 5 ↔ c.tmp < 0 ∧ o.tmp < 0 ∧ a.tmp < 0 ∧ b.tmp < 0 ∧ d.tmp < 0 := by
  unfold negs
  by_cases h0 : c.tmp < 0 <;> by_cases h1 : o.tmp < 0 <;> by_cases h2 : a.tmp < 0 <;> by_cases h3 : b.tmp < 0 <;> by_cases h4 : d.tmp < 0 <;> simp [h0, h1, h2, h3, h4]
theorem sim_start2 (tmp : Int) (w : World) (lo : Nat) (hl : lo ≤ w.heap.size) : SimE (w.alloc (.cells #[.slice none 0 0, .int .i64 tmp] 76)) lo w.heap.size (.slice none 0 0) tmp [] :=
  ⟨⟨[], ⟨heap_alloc_at _ _ _ rfl, World.ownsRow_nil _ _ _ _, by simp; omega, by simp [Value.ownBlock]⟩, .nil⟩, hl⟩
/-- What Simplify makes of five atoms. -/
def simp5 (c o a b d : Atom) (tmp : Int) : List IExpr × Bool :=
  if c.tmp < 0 ∧ o.tmp < 0 ∧ a.tmp < 0 ∧ b.tmp < 0 ∧ d.tmp < 0 then ([⟨1, 32, 0, 0, [wordA (if c.c0 ≤ 15 ∧ condF c.c0 o.c0 a.c0 b.c0 d.c0 = true then 1 else 0)]⟩], true)
  else if ¬ (c.tmp < 0 ∧ c.c0 ≤ 15) then ([], false)
  else if 14 ≤ c.c0 then ([⟨1, 32, 0, 0, [wordA (if c.c0 = 14 then 1 else 0)]⟩], true)
  else if 0 ≤ o.tmp then ([], false)
  else if (simpL c.c0.toNat o.c0 a b tmp).2 = true then simpL c.c0.toNat o.c0 a b tmp else ([], false)
def simpF (l : List Atom) (tmp : Int) : List IExpr × Bool :=
  match l with
  | [c, o, a, b, d] => if tmp < 0 ∨ 4000 < tmp ∨ ¬ (∀ x ∈ l, isW x = true) then ([], false) else simp5 c o a b d tmp
  | _ => ([], false)
/-- What Simplify leaves. -/
def SfPost (L : List IExpr × Bool) (w : World) (e : Ending) (w' : World) : Prop := ∃ v, e = .returned (.tuple #[v, .bool L.2]) ∧ (L.2 = true → ExprsAt w' w.heap.size v L.1) ∧ (L.2 = false → v = .slice none 0 0) ∧ New w w'
attribute [local go_sem ↓] Go.wp_at_zero Go.wp_at_succ
set_option maxRecDepth 100000 in
set_option maxHeartbeats 4000000 in
theorem simplify_5 (b off cap : Nat) (a0 a1 a2 a3 a4 : Atom) (tmp : Int) (w : World) (hc : AtomsIn w b off [a0, a1, a2, a3, a4]) (hb : b < w.heap.size) (hok : ∀ a ∈ [a0, a1, a2, a3, a4], a.ok) (ht0 : 0 ≤ tmp) (ht1 : tmp ≤ 4000) :
    Calls Try.prog 13 #[.slice (some ⟨b, off, none⟩) 5 cap, .int .i64 tmp] w (SfPost (simpF [a0, a1, a2, a3, a4] tmp) w) := by
  have HC := Lib.hid hc
  have HOK := Lib.hid hok
  obtain ⟨l, hl⟩ : ∃ l, [a0, a1, a2, a3, a4] = l := ⟨_, rfl⟩
  rw [hl] at HC
  have hlen : l.length = 5 := by rw [← hl]; rfl
  have HLEN := Lib.hid hlen
  have HL := Lib.hid hl
  clear hc hok hlen hl
  go_enter Try.func13, Try.ntmps13
  go_wp2_with fail
  go_loopg [6, 27] 5 (fun g f i w' => ∃ k : Nat, f = .int .i64 (negs (l.take k)) ∧ i = .int .i64 k ∧ k + g = 5 ∧ (∀ a ∈ l.take k, isW a = true) ∧ New w w')
  case atStart => exact ⟨0, rfl, rfl, rfl, by simp, New.refl w⟩
  case round =>
    obtain ⟨k, rfl, rfl, hkg, hall, hN⟩ := hrel
    have HN := Lib.hid hN
    have HALL := Lib.hid hall
    have HKG := Lib.hid hkg
    clear hN hall hkg
    have hk5 : k ≤ 5 := by have := HKG.out; omega
    have hng : negs (l.take k) ≤ k := Nat.le_trans (negs_le _) (List.length_take_le _ _)
    by_cases hlt : k < 5
    · obtain ⟨x, hx⟩ : ∃ x, l[k]? = some x := ⟨_, List.getElem?_eq_getElem (by rw [HLEN.out]; exact hlt)⟩
      have HX := Lib.hid hx
      have hts : l.take (k + 1) = l.take k ++ [x] := by rw [List.take_add_one, hx]; rfl
      have HTS := Lib.hid hts
      have hsn := negs_snoc (l.take k) x
      have HSN := Lib.hid hsn
      have hcx := (HC.out.new hb HN.out) k x hx
      clear hx hts hsn
      obtain ⟨x0, x1, x2, x3, x4, x5⟩ := x
      have q0 : wr.cell? ⟨b, off + k * 6, none⟩ = some (.int .i64 x0) := hcx 0 _ rfl
      have q1 : wr.cell? ⟨b, off + k * 6 + 1, none⟩ = some (.int .i64 x1) := hcx 1 _ rfl
      have q2 : wr.cell? ⟨b, off + k * 6 + 2, none⟩ = some (.int .u32 x2) := hcx 2 _ rfl
      have q3 : wr.cell? ⟨b, off + k * 6 + 3, none⟩ = some (.int .u32 x3) := hcx 3 _ rfl
      have q4 : wr.cell? ⟨b, off + k * 6 + 4, none⟩ = some (.int .u32 x4) := hcx 4 _ rfl
      have q5 : wr.cell? ⟨b, off + k * 6 + 5, none⟩ = some (.int .u32 x5) := hcx 5 _ rfl
      have hz := HN.out.size
      have hbz : b < wr.heap.size := by omega
      have hk0 : (0 : Int) ≤ (k : Nat) := by omega
      have hk1 : ((k : Nat) : Int) < 5 := by omega
      clear hcx
      go_wp2_with fail
      have HB := Lib.hid (HN.out.alloc HN.out.size (.cells #[.int .i64 x0, .int .i64 x1, .int .u32 x2, .int .u32 x3, .int .u32 x4, .int .u32 x5] 59))
      have TX := Lib.hid (heap_alloc_at wr (.cells #[.int .i64 x0, .int .i64 x1, .int .u32 x2, .int .u32 x3, .int .u32 x4, .int .u32 x5] 59) _ rfl)
      refine (isword_c ⟨x0, x1, x2, x3, x4, x5⟩ _).mono ?_
      rintro e w1 ⟨rfl, hb1⟩
      have N1 := Lib.hid (HB.out.trans (hb1.mono HB.out.size))
      have T1 := keep hb1 TX.out
      have y0 : w1.cell? ⟨wr.heap.size, 0, none⟩ = some (.int .i64 x0) := cell_of_heap T1 rfl
      have yl := lt_of_heap T1
      clear hb1 T1 q0 q1 q2 q3 q4 q5
      by_cases hw : isW ⟨x0, x1, x2, x3, x4, x5⟩ = true
      · by_cases hneg : x0 < 0
        · go_wp2
          go_roundg (gk - 1)
          case measure => have := HKG.out; omega
          case rel =>
            refine ⟨k + 1, ?_, by go_num, by have := HKG.out; omega, ?_, N1.out⟩
            · have h2 := HSN.out
              rw [if_pos hneg] at h2
              rw [HTS.out, h2]; go_num
            · rw [HTS.out]
              intro a ha
              rcases List.mem_append.1 ha with ha | ha
              · exact HALL.out a ha
              · rw [List.mem_singleton.1 ha]; exact hw
        · have hge : 0 ≤ x0 := by omega
          go_wp2
          go_roundg (gk - 1)
          case measure => have := HKG.out; omega
          case rel =>
            refine ⟨k + 1, ?_, by go_num, by have := HKG.out; omega, ?_, N1.out⟩
            · have h2 := HSN.out
              rw [if_neg (by omega)] at h2
              rw [HTS.out, h2]; rfl
            · rw [HTS.out]
              intro a ha
              rcases List.mem_append.1 ha with ha | ha
              · exact HALL.out a ha
              · rw [List.mem_singleton.1 ha]; exact hw
      · have hw2 : isW ⟨x0, x1, x2, x3, x4, x5⟩ = false := by simpa using hw
        have hF : simpF [a0, a1, a2, a3, a4] tmp = ([], false) := by
          unfold simpF
          dsimp only
          have hno : ¬ ∀ x ∈ [a0, a1, a2, a3, a4], isW x = true := fun q => hw (q ⟨x0, x1, x2, x3, x4, x5⟩ (by rw [HL.out]; exact List.mem_of_getElem? HX.out))
          rw [if_pos (.inr (.inr hno))]
        have HF := Lib.hid hF
        clear hF hw
        go_wp2
        refine bodyPost_ret (v := .tuple #[.slice none 0 0, .bool false]) (by simp [results, Try.results13, go_sem]) rfl ?_
        rw [HF.out]
        exact ⟨_, rfl, (fun h => nomatch h), fun _ => rfl, N1.out⟩
    · have hk : k = 5 := by omega
      subst hk
      have hall : ∀ a ∈ l, isW a = true := fun a ha => HALL.out a (by rw [List.take_of_length_le (by rw [HLEN.out]; exact Nat.le_refl _)]; exact ha)
      have hnl : l.take 5 = l := List.take_of_length_le (by rw [HLEN.out]; exact Nat.le_refl _)
      rw [hnl]
      have HW := Lib.hid hall
      clear HALL hall hnl hng
      obtain ⟨c0, c1, c2, c3, c4, c5⟩ := a0
      obtain ⟨o0, o1, o2, o3, o4, o5⟩ := a1
      obtain ⟨x0, x1, x2, x3, x4, x5⟩ := a2
      obtain ⟨y0, y1, y2, y3, y4, y5⟩ := a3
      obtain ⟨z0, z1, z2, z3, z4, z5⟩ := a4
      have hs5 : simpF [⟨c0, c1, c2, c3, c4, c5⟩, ⟨o0, o1, o2, o3, o4, o5⟩, ⟨x0, x1, x2, x3, x4, x5⟩, ⟨y0, y1, y2, y3, y4, y5⟩, ⟨z0, z1, z2, z3, z4, z5⟩] tmp = simp5 ⟨c0, c1, c2, c3, c4, c5⟩ ⟨o0, o1, o2, o3, o4, o5⟩ ⟨x0, x1, x2, x3, x4, x5⟩ ⟨y0, y1, y2, y3, y4, y5⟩ ⟨z0, z1, z2, z3, z4, z5⟩ tmp := by
        unfold simpF
        dsimp only
        have hno : ¬ (tmp < 0 ∨ 4000 < tmp ∨ ¬ ∀ x ∈ [⟨c0, c1, c2, c3, c4, c5⟩, ⟨o0, o1, o2, o3, o4, o5⟩, ⟨x0, x1, x2, x3, x4, x5⟩, ⟨y0, y1, y2, y3, y4, y5⟩, ⟨z0, z1, z2, z3, z4, z5⟩], isW x = true) := fun q => by
          rcases q with q | q | q
          · omega
          · omega
          · exact q (by rw [HL.out]; exact HW.out)
        rw [if_neg hno]
      have HS5 := Lib.hid hs5
      clear hs5
      have hok := HOK.out
      obtain ⟨kc0, kc1⟩ := hok ⟨c0, c1, c2, c3, c4, c5⟩ (by simp)
      obtain ⟨ko0, ko1⟩ := hok ⟨o0, o1, o2, o3, o4, o5⟩ (by simp)
      obtain ⟨ka0, ka1⟩ := hok ⟨x0, x1, x2, x3, x4, x5⟩ (by simp)
      obtain ⟨kb0, kb1⟩ := hok ⟨y0, y1, y2, y3, y4, y5⟩ (by simp)
      obtain ⟨kd0, kd1⟩ := hok ⟨z0, z1, z2, z3, z4, z5⟩ (by simp)
      dsimp only at kc0 kc1 ko0 ko1 ka0 ka1 kb0 kb1 kd0 kd1
      clear hok
      have h5 : negs l = 5 ↔ c0 < 0 ∧ o0 < 0 ∧ x0 < 0 ∧ y0 < 0 ∧ z0 < 0 := by rw [← HL.out]; exact negs_five ⟨c0, c1, c2, c3, c4, c5⟩ ⟨o0, o1, o2, o3, o4, o5⟩ ⟨x0, x1, x2, x3, x4, x5⟩ ⟨y0, y1, y2, y3, y4, y5⟩ ⟨z0, z1, z2, z3, z4, z5⟩
      have H5 := Lib.hid h5
      clear h5
      have SA := Lib.hid (sim_start2 tmp wr w.heap.size HN.out.size)
      have NA := Lib.hid (HN.out.alloc HN.out.size (.cells #[.slice none 0 0, .int .i64 tmp] 76))
      have hbs : w.heap.size ≤ wr.heap.size := HN.out.size
      go_wp2_with fail
      generalize wr.alloc (.cells #[.slice none 0 0, .int .i64 tmp] 76) = wA at *
      generalize wr.heap.size = bs at *
      have hcA := HC.out.new hb NA.out
      rw [← HL.out] at hcA
      have HCA := Lib.hid hcA
      have qc0 : wA.cell? ⟨b, off, none⟩ = some (.int .i64 c0) := hcA 0 _ rfl 0 _ rfl
      have qc2 : wA.cell? ⟨b, off + 2, none⟩ = some (.int .u32 c2) := hcA 0 _ rfl 2 _ rfl
      have qo0 : wA.cell? ⟨b, off + 6, none⟩ = some (.int .i64 o0) := hcA 1 _ rfl 0 _ rfl
      have qo2 : wA.cell? ⟨b, off + 6 + 2, none⟩ = some (.int .u32 o2) := hcA 1 _ rfl 2 _ rfl
      have qa0 : wA.cell? ⟨b, off + 12, none⟩ = some (.int .i64 x0) := hcA 2 _ rfl 0 _ rfl
      have qa1 : wA.cell? ⟨b, off + 12 + 1, none⟩ = some (.int .i64 x1) := hcA 2 _ rfl 1 _ rfl
      have qa2 : wA.cell? ⟨b, off + 12 + 2, none⟩ = some (.int .u32 x2) := hcA 2 _ rfl 2 _ rfl
      have qa3 : wA.cell? ⟨b, off + 12 + 3, none⟩ = some (.int .u32 x3) := hcA 2 _ rfl 3 _ rfl
      have qa4 : wA.cell? ⟨b, off + 12 + 4, none⟩ = some (.int .u32 x4) := hcA 2 _ rfl 4 _ rfl
      have qa5 : wA.cell? ⟨b, off + 12 + 5, none⟩ = some (.int .u32 x5) := hcA 2 _ rfl 5 _ rfl
      have qb0 : wA.cell? ⟨b, off + 18, none⟩ = some (.int .i64 y0) := hcA 3 _ rfl 0 _ rfl
      have qb1 : wA.cell? ⟨b, off + 18 + 1, none⟩ = some (.int .i64 y1) := hcA 3 _ rfl 1 _ rfl
      have qb2 : wA.cell? ⟨b, off + 18 + 2, none⟩ = some (.int .u32 y2) := hcA 3 _ rfl 2 _ rfl
      have qb3 : wA.cell? ⟨b, off + 18 + 3, none⟩ = some (.int .u32 y3) := hcA 3 _ rfl 3 _ rfl
      have qb4 : wA.cell? ⟨b, off + 18 + 4, none⟩ = some (.int .u32 y4) := hcA 3 _ rfl 4 _ rfl
      have qb5 : wA.cell? ⟨b, off + 18 + 5, none⟩ = some (.int .u32 y5) := hcA 3 _ rfl 5 _ rfl
      have qd2 : wA.cell? ⟨b, off + 24 + 2, none⟩ = some (.int .u32 z2) := hcA 4 _ rfl 2 _ rfl
      clear hcA
      have hbA : b < wA.heap.size := Nat.lt_of_lt_of_le hb NA.out.size
      go_quiet (fail)
      have hd : New wA (wA.drewN nq) := below_drewN (New.refl _) nq
      have SB := Lib.hid (SA.out.new hd)
      have NB := Lib.hid (NA.out.trans (hd.mono NA.out.size))
      have HCB := Lib.hid (HCA.out.new hbA hd)
      have hbB := Nat.lt_of_lt_of_le hbA hd.size
      clear qc0 qc2 qo0 qo2 qa0 qa1 qa2 qa3 qa4 qa5 qb0 qb1 qb2 qb3 qb4 qb5 qd2
      clear hbA hd HCA SA NA
      generalize wA.drewN nq = wB at *
      have hcB := HCB.out
      have qc0 : wB.cell? ⟨b, off, none⟩ = some (.int .i64 c0) := hcB 0 _ rfl 0 _ rfl
      have qc2 : wB.cell? ⟨b, off + 2, none⟩ = some (.int .u32 c2) := hcB 0 _ rfl 2 _ rfl
      have qo0 : wB.cell? ⟨b, off + 6, none⟩ = some (.int .i64 o0) := hcB 1 _ rfl 0 _ rfl
      have qo2 : wB.cell? ⟨b, off + 6 + 2, none⟩ = some (.int .u32 o2) := hcB 1 _ rfl 2 _ rfl
      have qa0 : wB.cell? ⟨b, off + 12, none⟩ = some (.int .i64 x0) := hcB 2 _ rfl 0 _ rfl
      have qa1 : wB.cell? ⟨b, off + 12 + 1, none⟩ = some (.int .i64 x1) := hcB 2 _ rfl 1 _ rfl
      have qa2 : wB.cell? ⟨b, off + 12 + 2, none⟩ = some (.int .u32 x2) := hcB 2 _ rfl 2 _ rfl
      have qa3 : wB.cell? ⟨b, off + 12 + 3, none⟩ = some (.int .u32 x3) := hcB 2 _ rfl 3 _ rfl
      have qa4 : wB.cell? ⟨b, off + 12 + 4, none⟩ = some (.int .u32 x4) := hcB 2 _ rfl 4 _ rfl
      have qa5 : wB.cell? ⟨b, off + 12 + 5, none⟩ = some (.int .u32 x5) := hcB 2 _ rfl 5 _ rfl
      have qb0 : wB.cell? ⟨b, off + 18, none⟩ = some (.int .i64 y0) := hcB 3 _ rfl 0 _ rfl
      have qb1 : wB.cell? ⟨b, off + 18 + 1, none⟩ = some (.int .i64 y1) := hcB 3 _ rfl 1 _ rfl
      have qb2 : wB.cell? ⟨b, off + 18 + 2, none⟩ = some (.int .u32 y2) := hcB 3 _ rfl 2 _ rfl
      have qb3 : wB.cell? ⟨b, off + 18 + 3, none⟩ = some (.int .u32 y3) := hcB 3 _ rfl 3 _ rfl
      have qb4 : wB.cell? ⟨b, off + 18 + 4, none⟩ = some (.int .u32 y4) := hcB 3 _ rfl 4 _ rfl
      have qb5 : wB.cell? ⟨b, off + 18 + 5, none⟩ = some (.int .u32 y5) := hcB 3 _ rfl 5 _ rfl
      have qd2 : wB.cell? ⟨b, off + 24 + 2, none⟩ = some (.int .u32 z2) := hcB 4 _ rfl 2 _ rfl
      clear hcB
      by_cases h : c0 < 0 ∧ o0 < 0 ∧ x0 < 0 ∧ y0 < 0 ∧ z0 < 0
      · have b5 : (((negs l : Nat) : Int) == 5) = true := by have := H5.out.2 h; simp; omega
        obtain ⟨n0, n1, n2, n3, n4⟩ := h
        have HALL5 := Lib.hid (And.intro n0 (And.intro n1 (And.intro n2 (And.intro n3 n4))))
        by_cases hk : c2 ≤ 15
        · go_wp2_with fail
          go_still_tail 20, (by kernel_rfl)
          change wpList _ _ _ _ _ wB.drew
          have hd : New wB wB.drew := (Below.refl _ _).drew
          have SC := Lib.hid (SB.out.new hd)
          have NC := Lib.hid (NB.out.trans (hd.mono NB.out.size))
          clear hd SB NB HCB hbB
          clear qc0 qc2 qo0 qo2 qa0 qa1 qa2 qa3 qa4 qa5 qb0 qb1 qb2 qb3 qb4 qb5 qd2
          generalize wB.drew = wC at *
          go_wp2_with fail
          refine (cond_c c2 o2 x2 y2 z2 _ ko0 ko1 ka0 ka1 kb0 kb1 kd0 kd1).mono ?_
          rintro e wD ⟨rfl, hbD⟩
          have SD := Lib.hid (SC.out.new hbD)
          have ND := Lib.hid (NC.out.trans (hbD.mono NC.out.size))
          clear hbD SC NC
          obtain ⟨cv, hcv⟩ : ∃ cv, condF c2 o2 x2 y2 z2 = cv := ⟨_, rfl⟩
          rw [hcv]
          cases cv
          · have hv : simp5 ⟨c0, c1, c2, c3, c4, c5⟩ ⟨o0, o1, o2, o3, o4, o5⟩ ⟨x0, x1, x2, x3, x4, x5⟩ ⟨y0, y1, y2, y3, y4, y5⟩ ⟨z0, z1, z2, z3, z4, z5⟩ tmp = ([⟨1, 32, 0, 0, [wordA 0]⟩], true) := by
              unfold simp5
              dsimp only
              rw [if_pos HALL5.out, if_neg (fun q => by rw [hcv] at q; exact absurd q.2 (by decide))]
            have HV := Lib.hid hv
            clear hv
            clear hcv
            go_wp2_with fail
            refine (fixed_e w.heap.size bs (.slice none 0 0) tmp [] 0 _ SD.out (by decide) ht0 (by omega)).mono ?_
            rintro e w5 ⟨v1, rfl, s1, k1, g1⟩
            obtain ⟨⟨xs, hs, he⟩, hlo⟩ := s1
            have c0_ : w5.cell? ⟨bs, 0, none⟩ = some v1 := cell_of_heap hs.heap rfl
            have hD := hs.lt
            have X := Lib.hid (show SfPost ([⟨1, 32, 0, 0, [wordA 0]⟩], true) w (.returned (.tuple #[v1, .bool true])) w5 from ⟨v1, rfl, fun _ => ⟨bs, xs, hs.own, he⟩, (fun h => nomatch h), kp_new ND.out rfl hbs (by simp [Value.ownBlock]) k1⟩)
            clear k1 g1 hlo hs he
            go_wp2
            refine bodyPost_ret (v := .tuple #[v1, .bool true]) (by simp [results, Try.results13, go_sem]) rfl ?_
            rw [HS5.out, HV.out]
            exact X.out
          · have hv : simp5 ⟨c0, c1, c2, c3, c4, c5⟩ ⟨o0, o1, o2, o3, o4, o5⟩ ⟨x0, x1, x2, x3, x4, x5⟩ ⟨y0, y1, y2, y3, y4, y5⟩ ⟨z0, z1, z2, z3, z4, z5⟩ tmp = ([⟨1, 32, 0, 0, [wordA 1]⟩], true) := by
              unfold simp5
              dsimp only
              rw [if_pos HALL5.out, if_pos ⟨hk, hcv⟩]
            have HV := Lib.hid hv
            clear hv
            clear hcv
            go_wp2_with fail
            refine (fixed_e w.heap.size bs (.slice none 0 0) tmp [] 1 _ SD.out (by decide) ht0 (by omega)).mono ?_
            rintro e w5 ⟨v1, rfl, s1, k1, g1⟩
            obtain ⟨⟨xs, hs, he⟩, hlo⟩ := s1
            have c0_ : w5.cell? ⟨bs, 0, none⟩ = some v1 := cell_of_heap hs.heap rfl
            have hD := hs.lt
            have X := Lib.hid (show SfPost ([⟨1, 32, 0, 0, [wordA 1]⟩], true) w (.returned (.tuple #[v1, .bool true])) w5 from ⟨v1, rfl, fun _ => ⟨bs, xs, hs.own, he⟩, (fun h => nomatch h), kp_new ND.out rfl hbs (by simp [Value.ownBlock]) k1⟩)
            clear k1 g1 hlo hs he
            go_wp2
            refine bodyPost_ret (v := .tuple #[v1, .bool true]) (by simp [results, Try.results13, go_sem]) rfl ?_
            rw [HS5.out, HV.out]
            exact X.out
        · have hk2 : 15 < c2 := by omega
          have hv : simp5 ⟨c0, c1, c2, c3, c4, c5⟩ ⟨o0, o1, o2, o3, o4, o5⟩ ⟨x0, x1, x2, x3, x4, x5⟩ ⟨y0, y1, y2, y3, y4, y5⟩ ⟨z0, z1, z2, z3, z4, z5⟩ tmp = ([⟨1, 32, 0, 0, [wordA 0]⟩], true) := by
            unfold simp5
            dsimp only
            rw [if_pos HALL5.out, if_neg (fun q => hk q.1)]
          have HV := Lib.hid hv
          clear hv
          go_wp2_with fail
          go_quiet (fail)
          have hd : New wB (wB.drewN nq) := below_drewN (New.refl _) nq
          have SD := Lib.hid (SB.out.new hd)
          have ND := Lib.hid (NB.out.trans (hd.mono NB.out.size))
          clear hd SB NB HCB hbB
          clear qc0 qc2 qo0 qo2 qa0 qa1 qa2 qa3 qa4 qa5 qb0 qb1 qb2 qb3 qb4 qb5 qd2
          generalize wB.drewN nq = wD at *
          go_wp2_with fail
          refine (fixed_e w.heap.size bs (.slice none 0 0) tmp [] 0 _ SD.out (by decide) ht0 (by omega)).mono ?_
          rintro e w5 ⟨v1, rfl, s1, k1, g1⟩
          obtain ⟨⟨xs, hs, he⟩, hlo⟩ := s1
          have c0_ : w5.cell? ⟨bs, 0, none⟩ = some v1 := cell_of_heap hs.heap rfl
          have hD := hs.lt
          have X := Lib.hid (show SfPost ([⟨1, 32, 0, 0, [wordA 0]⟩], true) w (.returned (.tuple #[v1, .bool true])) w5 from ⟨v1, rfl, fun _ => ⟨bs, xs, hs.own, he⟩, (fun h => nomatch h), kp_new ND.out rfl hbs (by simp [Value.ownBlock]) k1⟩)
          clear k1 g1 hlo hs he
          go_wp2
          refine bodyPost_ret (v := .tuple #[v1, .bool true]) (by simp [results, Try.results13, go_sem]) rfl ?_
          rw [HS5.out, HV.out]
          exact X.out
      · have b5 : (((negs l : Nat) : Int) == 5) = false := by have h6 : ¬ negs l = 5 := fun q => h (H5.out.1 q); simp; omega
        have HN5 := Lib.hid h
        clear h
        by_cases n0 : c0 < 0
        · by_cases hk : c2 ≤ 15
          · by_cases h14 : 14 ≤ c2
            · by_cases hcc : c2 = 14
              · have hv : simp5 ⟨c0, c1, c2, c3, c4, c5⟩ ⟨o0, o1, o2, o3, o4, o5⟩ ⟨x0, x1, x2, x3, x4, x5⟩ ⟨y0, y1, y2, y3, y4, y5⟩ ⟨z0, z1, z2, z3, z4, z5⟩ tmp = ([⟨1, 32, 0, 0, [wordA 1]⟩], true) := by
                  unfold simp5
                  dsimp only
                  rw [if_neg HN5.out, if_neg (by omega), if_pos (by omega), if_pos hcc]
                have HV := Lib.hid hv
                clear hv
                have kb : bits .and .u32 c2 1 = 0 := by rw [hcc]; decide +kernel
                clear hcc
                go_wp2_with fail
                refine (fixed_e w.heap.size bs (.slice none 0 0) tmp [] 1 _ SB.out (by decide) ht0 (by omega)).mono ?_
                rintro e w5 ⟨v1, rfl, s1, k1, g1⟩
                obtain ⟨⟨xs, hs, he⟩, hlo⟩ := s1
                have c0_ : w5.cell? ⟨bs, 0, none⟩ = some v1 := cell_of_heap hs.heap rfl
                have hD := hs.lt
                have X := Lib.hid (show SfPost ([⟨1, 32, 0, 0, [wordA 1]⟩], true) w (.returned (.tuple #[v1, .bool true])) w5 from ⟨v1, rfl, fun _ => ⟨bs, xs, hs.own, he⟩, (fun h => nomatch h), kp_new NB.out rfl hbs (by simp [Value.ownBlock]) k1⟩)
                clear k1 g1 hlo hs he
                go_wp2
                refine bodyPost_ret (v := .tuple #[v1, .bool true]) (by simp [results, Try.results13, go_sem]) rfl ?_
                rw [HS5.out, HV.out]
                exact X.out
              · have hcc : c2 = 15 := by omega
                have hv : simp5 ⟨c0, c1, c2, c3, c4, c5⟩ ⟨o0, o1, o2, o3, o4, o5⟩ ⟨x0, x1, x2, x3, x4, x5⟩ ⟨y0, y1, y2, y3, y4, y5⟩ ⟨z0, z1, z2, z3, z4, z5⟩ tmp = ([⟨1, 32, 0, 0, [wordA 0]⟩], true) := by
                  unfold simp5
                  dsimp only
                  rw [if_neg HN5.out, if_neg (by omega), if_pos (by omega), if_neg (by omega)]
                have HV := Lib.hid hv
                clear hv
                have kb : bits .and .u32 c2 1 = 1 := by rw [hcc]; decide +kernel
                clear hcc
                go_wp2_with fail
                refine (fixed_e w.heap.size bs (.slice none 0 0) tmp [] 0 _ SB.out (by decide) ht0 (by omega)).mono ?_
                rintro e w5 ⟨v1, rfl, s1, k1, g1⟩
                obtain ⟨⟨xs, hs, he⟩, hlo⟩ := s1
                have c0_ : w5.cell? ⟨bs, 0, none⟩ = some v1 := cell_of_heap hs.heap rfl
                have hD := hs.lt
                have X := Lib.hid (show SfPost ([⟨1, 32, 0, 0, [wordA 0]⟩], true) w (.returned (.tuple #[v1, .bool true])) w5 from ⟨v1, rfl, fun _ => ⟨bs, xs, hs.own, he⟩, (fun h => nomatch h), kp_new NB.out rfl hbs (by simp [Value.ownBlock]) k1⟩)
                clear k1 g1 hlo hs he
                go_wp2
                refine bodyPost_ret (v := .tuple #[v1, .bool true]) (by simp [results, Try.results13, go_sem]) rfl ?_
                rw [HS5.out, HV.out]
                exact X.out
            · have h14b : c2 < 14 := by omega
              by_cases no : 0 ≤ o0
              · have hge : (0 : Int) ≤ o0 := no
                have hv : simp5 ⟨c0, c1, c2, c3, c4, c5⟩ ⟨o0, o1, o2, o3, o4, o5⟩ ⟨x0, x1, x2, x3, x4, x5⟩ ⟨y0, y1, y2, y3, y4, y5⟩ ⟨z0, z1, z2, z3, z4, z5⟩ tmp = ([], false) := by
                  unfold simp5
                  dsimp only
                  rw [if_neg HN5.out, if_neg (by omega), if_neg (by omega), if_pos no]
                have HV := Lib.hid hv
                clear hv
                go_wp2_with fail
                go_quiet (fail)
                go_wp2
                refine bodyPost_ret (v := .tuple #[.slice none 0 0, .bool false]) (by simp [results, Try.results13, go_sem]) rfl ?_
                rw [HS5.out, HV.out]
                exact ⟨_, rfl, (fun h => nomatch h), fun _ => rfl, NB.out.trans (below_drewN (Below.refl _ _) _)⟩
              · have hlt0 : o0 < 0 := by omega
                obtain ⟨i, hi⟩ := Int.eq_ofNat_of_zero_le kc0
                subst hi
                have hi14 : i < 14 := by omega
                clear kc1
                go_wp2_with fail
                go_still_tail 16, (by kernel_rfl)
                change wpList _ _ _ _ _ wB.drew
                have hd : New wB wB.drew := (Below.refl _ _).drew
                have SC := Lib.hid (SB.out.new hd)
                have NC := Lib.hid (NB.out.trans (hd.mono NB.out.size))
                clear hd SB NB HCB hbB
                clear qc0 qc2 qo0 qo2 qa0 qa1 qa2 qa3 qa4 qa5 qb0 qb1 qb2 qb3 qb4 qb5 qd2
                generalize wB.drew = wC at *
                go_wp2_with fail
                refine (simplified_c w.heap.size bs (.slice none 0 0) tmp i o2 ⟨x0, x1, x2, x3, x4, x5⟩ ⟨y0, y1, y2, y3, y4, y5⟩ _ SC.out ht0 (by omega) hi14 ko0).mono ?_
                rintro e w5 ⟨v1, rfl, s1, k1, g1⟩
                obtain ⟨⟨L, bo⟩, hLb⟩ : ∃ L, simpL i o2 ⟨x0, x1, x2, x3, x4, x5⟩ ⟨y0, y1, y2, y3, y4, y5⟩ tmp = L := ⟨_, rfl⟩
                rw [hLb] at s1
                rw [hLb]
                dsimp only at s1 ⊢
                cases bo
                · have hv : simp5 ⟨c0, c1, ((i : Nat) : Int), c3, c4, c5⟩ ⟨o0, o1, o2, o3, o4, o5⟩ ⟨x0, x1, x2, x3, x4, x5⟩ ⟨y0, y1, y2, y3, y4, y5⟩ ⟨z0, z1, z2, z3, z4, z5⟩ tmp = ([], false) := by
                    unfold simp5
                    dsimp only
                    rw [if_neg HN5.out, if_neg (by omega), if_neg (by omega), if_neg (by omega), Int.toNat_natCast, hLb]
                    rfl
                  have HV := Lib.hid hv
                  clear hv
                  have X := Lib.hid (kp_new NC.out rfl hbs (by simp [Value.ownBlock]) k1)
                  clear s1 k1 g1 hLb
                  go_wp2
                  refine bodyPost_ret (v := .tuple #[.slice none 0 0, .bool false]) (by simp [results, Try.results13, go_sem]) rfl ?_
                  rw [HS5.out, HV.out]
                  exact ⟨_, rfl, (fun h => nomatch h), fun _ => rfl, X.out⟩
                · have hv : simp5 ⟨c0, c1, ((i : Nat) : Int), c3, c4, c5⟩ ⟨o0, o1, o2, o3, o4, o5⟩ ⟨x0, x1, x2, x3, x4, x5⟩ ⟨y0, y1, y2, y3, y4, y5⟩ ⟨z0, z1, z2, z3, z4, z5⟩ tmp = (L, true) := by
                    unfold simp5
                    dsimp only
                    rw [if_neg HN5.out, if_neg (by omega), if_neg (by omega), if_neg (by omega), Int.toNat_natCast, hLb]
                    rfl
                  have HV := Lib.hid hv
                  clear hv
                  clear hLb
                  obtain ⟨⟨xs, hs, he⟩, hlo⟩ := s1
                  have c0_ : w5.cell? ⟨bs, 0, none⟩ = some v1 := cell_of_heap hs.heap rfl
                  have hD := hs.lt
                  have X := Lib.hid (show SfPost (L, true) w (.returned (.tuple #[v1, .bool true])) w5 from ⟨v1, rfl, fun _ => ⟨bs, xs, hs.own, he⟩, (fun h => nomatch h), kp_new NC.out rfl hbs (by simp [Value.ownBlock]) k1⟩)
                  clear k1 g1 hlo hs he
                  go_wp2
                  refine bodyPost_ret (v := .tuple #[v1, .bool true]) (by simp [results, Try.results13, go_sem]) rfl ?_
                  rw [HS5.out, HV.out]
                  exact X.out
          · have hk2 : 15 < c2 := by omega
            have hv : simp5 ⟨c0, c1, c2, c3, c4, c5⟩ ⟨o0, o1, o2, o3, o4, o5⟩ ⟨x0, x1, x2, x3, x4, x5⟩ ⟨y0, y1, y2, y3, y4, y5⟩ ⟨z0, z1, z2, z3, z4, z5⟩ tmp = ([], false) := by
              unfold simp5
              dsimp only
              rw [if_neg HN5.out, if_pos (by omega)]
            have HV := Lib.hid hv
            clear hv
            go_wp2
            refine bodyPost_ret (v := .tuple #[.slice none 0 0, .bool false]) (by simp [results, Try.results13, go_sem]) rfl ?_
            rw [HS5.out, HV.out]
            exact ⟨_, rfl, (fun h => nomatch h), fun _ => rfl, NB.out⟩
        · have n0b : 0 ≤ c0 := by omega
          have hv : simp5 ⟨c0, c1, c2, c3, c4, c5⟩ ⟨o0, o1, o2, o3, o4, o5⟩ ⟨x0, x1, x2, x3, x4, x5⟩ ⟨y0, y1, y2, y3, y4, y5⟩ ⟨z0, z1, z2, z3, z4, z5⟩ tmp = ([], false) := by
            unfold simp5
            dsimp only
            rw [if_neg HN5.out, if_pos (by omega)]
          have HV := Lib.hid hv
          clear hv
          go_wp2
          refine bodyPost_ret (v := .tuple #[.slice none 0 0, .bool false]) (by simp [results, Try.results13, go_sem]) rfl ?_
          rw [HS5.out, HV.out]
          exact ⟨_, rfl, (fun h => nomatch h), fun _ => rfl, NB.out⟩
set_option maxRecDepth 100000 in
set_option maxHeartbeats 1000000 in
theorem simplify_len (p : Option Addr) (n cap : Nat) (tmp : Int) (w : World) (h : n ≠ 5) :
    Calls Try.prog 13 #[.slice p n cap, .int .i64 tmp] w fun e w' => e = .returned (.tuple #[.slice none 0 0, .bool false]) ∧ New w w' := by
  have h1 : (((n : Nat) : Int) != 5) = true := by simp; omega
  go_enter Try.func13, Try.ntmps13
  go_wp2
  exact bodyPost_ret (v := .tuple #[.slice none 0 0, .bool false]) (by simp [results, Try.results13, go_sem]) rfl ⟨rfl, New.refl _⟩
set_option maxRecDepth 100000 in
set_option maxHeartbeats 1000000 in
theorem simplify_lo (p : Option Addr) (cap : Nat) (tmp : Int) (w : World) (h : tmp < 0) :
    Calls Try.prog 13 #[.slice p 5 cap, .int .i64 tmp] w fun e w' => e = .returned (.tuple #[.slice none 0 0, .bool false]) ∧ New w w' := by
  go_enter Try.func13, Try.ntmps13
  go_wp2
  exact bodyPost_ret (v := .tuple #[.slice none 0 0, .bool false]) (by simp [results, Try.results13, go_sem]) rfl ⟨rfl, New.refl _⟩
set_option maxRecDepth 100000 in
set_option maxHeartbeats 1000000 in
theorem simplify_hi (p : Option Addr) (cap : Nat) (tmp : Int) (w : World) (h : 4000 < tmp) :
    Calls Try.prog 13 #[.slice p 5 cap, .int .i64 tmp] w fun e w' => e = .returned (.tuple #[.slice none 0 0, .bool false]) ∧ New w w' := by
  have h0 : 0 ≤ tmp := by omega
  go_enter Try.func13, Try.ntmps13
  go_wp2
  exact bodyPost_ret (v := .tuple #[.slice none 0 0, .bool false]) (by simp [results, Try.results13, go_sem]) rfl ⟨rfl, New.refl _⟩
/-- A slice of atoms. -/
def AtomsAt (w : World) (p : Option Addr) (l : List Atom) : Prop := (l = [] ∨ ∃ b off, p = some ⟨b, off, none⟩ ∧ b < w.heap.size ∧ AtomsIn w b off l) ∧ ∀ a ∈ l, a.ok
theorem AtomsAt.new {w w' : World} {p : Option Addr} {l : List Atom} (h : AtomsAt w p l) (hn : New w w') : AtomsAt w' p l := by
  refine ⟨?_, h.2⟩
  rcases h.1 with h | ⟨b, off, h1, h2, h3⟩
  · exact .inl h
  · exact .inr ⟨b, off, h1, Nat.lt_of_lt_of_le h2 hn.size, h3.new h2 hn⟩
theorem simpF_len (l : List Atom) (tmp : Int) (h : l.length ≠ 5) : simpF l tmp = ([], false) := by
  unfold simpF
  split
  · exact absurd rfl h
  · rfl
theorem five_of (l : List Atom) (h : l.length = 5) : ∃ a0 a1 a2 a3 a4, l = [a0, a1, a2, a3, a4] := by
  match l, h with
  | [a0, a1, a2, a3, a4], _ => exact ⟨a0, a1, a2, a3, a4, rfl⟩
theorem simplify_c (p : Option Addr) (cap : Nat) (l : List Atom) (tmp : Int) (w : World) (h : AtomsAt w p l) :
    Calls Try.prog 13 #[.slice p l.length cap, .int .i64 tmp] w (SfPost (simpF l tmp) w) := by
  have none : simpF l tmp = ([], false) → ∀ (e : Ending) (w' : World), (e = .returned (.tuple #[.slice none 0 0, .bool false]) ∧ New w w') → SfPost (simpF l tmp) w e w' := fun hF e w' ⟨he, hw⟩ => by
    rw [hF]
    exact ⟨_, he, (fun h => nomatch h), fun _ => rfl, hw⟩
  by_cases h5 : l.length = 5
  · obtain ⟨a0, a1, a2, a3, a4, rfl⟩ := five_of l h5
    by_cases t0 : tmp < 0
    · exact (simplify_lo p cap tmp w t0).mono (none (by unfold simpF; dsimp only; rw [if_pos (.inl t0)]))
    · by_cases t1 : 4000 < tmp
      · exact (simplify_hi p cap tmp w t1).mono (none (by unfold simpF; dsimp only; rw [if_pos (.inr (.inl t1))]))
      · rcases h.1 with h1 | ⟨b, off, rfl, hb, hc⟩
        · cases h1
        · exact simplify_5 b off cap a0 a1 a2 a3 a4 tmp w hc hb h.2 (by omega) (by omega)
  · exact (simplify_len p l.length cap tmp w h5).mono (none (simpF_len l tmp h5))
end Go.Proofs.Ytmkjgkldbonpnaa
