/- The specification's Simplify. -/
import Derived.Test.YtmkjgkldbonpnaaWRefS3
import Derived.Test.YtmkjgkldbonpnaaWSimplify
import Derived.Test.YtmkjgkldbonpnaaWRefS4a
import Derived.IntWalk
namespace Go.Proofs.Ytmkjgkldbonpnaa
open Go Go.RowKit Go.Cd
set_option linter.unusedVariables false
attribute [local go_sem ↓] Go.wp_at_zero Go.wp_at_succ
theorem copyE_pos (i : Nat) (x : Atom) (t : Int) (n : Nat) : 0 < (copyE i x t n).length := by unfold copyE; split <;> split <;> simp
set_option maxRecDepth 100000 in
set_option maxHeartbeats 8000000 in
theorem rs_copy (b off cap : Nat) (c0 c1 c2 c3 c4 c5 o0 o1 o2 o3 o4 o5 x0 x1 x2 x3 x4 x5 y0 y1 y2 y3 y4 y5 z0 z1 z2 z3 z4 z5 tmp : Int) (w : World) (hc : AtomsIn w b off [⟨c0, c1, c2, c3, c4, c5⟩, ⟨o0, o1, o2, o3, o4, o5⟩, ⟨x0, x1, x2, x3, x4, x5⟩, ⟨y0, y1, y2, y3, y4, y5⟩, ⟨z0, z1, z2, z3, z4, z5⟩]) (hb : b < w.heap.size) (ht0 : 0 ≤ tmp) (ht1 : tmp ≤ 4000) (hW : ∀ a ∈ [⟨c0, c1, c2, c3, c4, c5⟩, ⟨o0, o1, o2, o3, o4, o5⟩, ⟨x0, x1, x2, x3, x4, x5⟩, ⟨y0, y1, y2, y3, y4, y5⟩, ⟨z0, z1, z2, z3, z4, z5⟩], isW a = true) (hq : allNeg [⟨c0, c1, c2, c3, c4, c5⟩, ⟨o0, o1, o2, o3, o4, o5⟩, ⟨x0, x1, x2, x3, x4, x5⟩, ⟨y0, y1, y2, y3, y4, y5⟩, ⟨z0, z1, z2, z3, z4, z5⟩] = false) (i : Nat) (hc2 : c2 = (i : Int)) (hi : i < 14) (n0 : c0 < 0) (no : o0 < 0) (hop : o2 = 0) (h7 : i ≤ 7) :
    Calls Try.prog 14 #[.slice (some ⟨b, off, none⟩) 5 cap, .int .i64 tmp] w (RfPost (copyE i ⟨x0, x1, x2, x3, x4, x5⟩ tmp 0, true) w) := by
  have HC := Lib.hid hc
  obtain ⟨l, hl⟩ : ∃ l : List Atom, [⟨c0, c1, c2, c3, c4, c5⟩, ⟨o0, o1, o2, o3, o4, o5⟩, ⟨x0, x1, x2, x3, x4, x5⟩, ⟨y0, y1, y2, y3, y4, y5⟩, ⟨z0, z1, z2, z3, z4, z5⟩] = l := ⟨_, rfl⟩
  rw [hl] at HC hW hq
  have hlen : l.length = 5 := by rw [← hl]; rfl
  have HLEN := Lib.hid hlen
  have HL := Lib.hid hl
  have HWW := Lib.hid hW
  have HQ := Lib.hid hq
  clear hc hlen hl hW hq
  subst hc2
  subst hop
  have H_hi := Lib.hid hi
  have H_h7 := Lib.hid h7
  clear h7
  go_enter Try.func14, Try.ntmps14
  go_wp2_with fail
  go_loopg [6, 7] 5 (fun g f i w' => ∃ k : Nat, f = .bool (allNeg (l.take k)) ∧ i = .int .i64 k ∧ k + g = 5 ∧ New w w')
  case atStart => exact ⟨0, rfl, rfl, rfl, New.refl w⟩
  case round =>
    obtain ⟨k, rfl, rfl, hkg, hN⟩ := hrel
    have HN := Lib.hid hN
    have HKG := Lib.hid hkg
    clear hN hkg
    have hk5 : k ≤ 5 := by have := HKG.out; omega
    by_cases hlt : k < 5
    · obtain ⟨x, hx⟩ : ∃ x, l[k]? = some x := ⟨_, List.getElem?_eq_getElem (by rw [HLEN.out]; exact hlt)⟩
      have hts : l.take (k + 1) = l.take k ++ [x] := by rw [List.take_add_one, hx]; rfl
      have hsn : allNeg (l.take (k + 1)) = (allNeg (l.take k) && decide (x.tmp < 0)) := by rw [hts, allNeg_snoc]
      have HSN := Lib.hid hsn
      have hw1 : isW x = true := HWW.out x (List.mem_of_getElem? hx)
      have hcx := (HC.out.new hb HN.out) k x hx
      clear hx hts hsn
      obtain ⟨x0_, x1_, x2_, x3_, x4_, x5_⟩ := x
      have q0 : wr.cell? ⟨b, off + k * 6, none⟩ = some (.int .i64 x0_) := hcx 0 _ rfl
      have q1 : wr.cell? ⟨b, off + k * 6 + 1, none⟩ = some (.int .i64 x1_) := hcx 1 _ rfl
      have q2 : wr.cell? ⟨b, off + k * 6 + 2, none⟩ = some (.int .u32 x2_) := hcx 2 _ rfl
      have q3 : wr.cell? ⟨b, off + k * 6 + 3, none⟩ = some (.int .u32 x3_) := hcx 3 _ rfl
      have q4 : wr.cell? ⟨b, off + k * 6 + 4, none⟩ = some (.int .u32 x4_) := hcx 4 _ rfl
      have q5 : wr.cell? ⟨b, off + k * 6 + 5, none⟩ = some (.int .u32 x5_) := hcx 5 _ rfl
      have hz := HN.out.size
      have hbz : b < wr.heap.size := by omega
      have hk0 : (0 : Int) ≤ (k : Nat) := by omega
      have hk1 : ((k : Nat) : Int) < 5 := by omega
      clear hcx
      obtain ⟨qk, hqk⟩ : ∃ qk, allNeg (l.take k) = qk := ⟨_, rfl⟩
      rw [hqk]
      have hcI : ∀ w : World, Calls Try.prog 41 #[.agg #[.int .i64 x0_, .int .i64 x1_, .int .u32 x2_, .int .u32 x3_, .int .u32 x4_, .int .u32 x5_]] w fun e w' => e = .returned (.bool true) ∧ New w w' := fun w => by
        have h := isatom_c ⟨x0_, x1_, x2_, x3_, x4_, x5_⟩ w
        rw [hw1] at h
        exact h
      have HCI := Lib.hid hcI
      have HQK := Lib.hid hqk
      clear hcI hw1 hqk
      cases qk
      · go_wp2_with fail
        refine (HCI.out _).mono ?_
        rintro e w1 ⟨rfl, hb1⟩
        have N1 := Lib.hid (HN.out.trans (hb1.mono HN.out.size))
        clear hb1 q0 q1 q2 q3 q4 q5
        go_wp2
        go_roundg (gk - 1)
        case measure => have := HKG.out; omega
        case rel => exact ⟨k + 1, congrArg Value.bool (by rw [HSN.out, HQK.out]; rfl), by go_num, by have := HKG.out; omega, N1.out⟩
      · go_wp2_with fail
        refine (HCI.out _).mono ?_
        rintro e w1 ⟨rfl, hb1⟩
        have N1 := Lib.hid (HN.out.trans (hb1.mono HN.out.size))
        have y0 : w1.cell? ⟨b, off + k * 6, none⟩ = some (.int .i64 x0_) := (hb1.cell (p := ⟨b, off + k * 6, none⟩) hbz).trans q0
        have yl := Nat.lt_of_lt_of_le hbz hb1.size
        clear hb1 q0 q1 q2 q3 q4 q5
        by_cases hneg : x0_ < 0
        · go_wp2
          go_roundg (gk - 1)
          case measure => have := HKG.out; omega
          case rel => exact ⟨k + 1, congrArg Value.bool (by rw [HSN.out, HQK.out]; first | (simp; done) | simp [hneg]), by go_num, by have := HKG.out; omega, N1.out⟩
        · have hge : 0 ≤ x0_ := by omega
          go_wp2
          go_roundg (gk - 1)
          case measure => have := HKG.out; omega
          case rel => exact ⟨k + 1, congrArg Value.bool (by rw [HSN.out, HQK.out]; first | (simp; done) | simp [hneg]), by go_num, by have := HKG.out; omega, N1.out⟩
    · have hk : k = 5 := by omega
      subst hk
      have hnl : l.take 5 = l := List.take_of_length_le (by rw [HLEN.out]; exact Nat.le_refl _)
      rw [hnl, HQ.out]
      clear hnl
      have hbA : b < wr.heap.size := Nat.lt_of_lt_of_le hb HN.out.size
      have hcA := HC.out.new hb HN.out
      rw [← HL.out] at hcA
      have HCA := Lib.hid hcA
      have qc0 : wr.cell? ⟨b, off, none⟩ = some (.int .i64 c0) := hcA 0 _ rfl 0 _ rfl
      have qc2 : wr.cell? ⟨b, off + 2, none⟩ = some (.int .u32 _) := hcA 0 _ rfl 2 _ rfl
      have qo0 : wr.cell? ⟨b, off + 6, none⟩ = some (.int .i64 o0) := hcA 1 _ rfl 0 _ rfl
      have qo2 : wr.cell? ⟨b, off + 6 + 2, none⟩ = some (.int .u32 _) := hcA 1 _ rfl 2 _ rfl
      have qa0 : wr.cell? ⟨b, off + 12, none⟩ = some (.int .i64 x0) := hcA 2 _ rfl 0 _ rfl
      have qa1 : wr.cell? ⟨b, off + 12 + 1, none⟩ = some (.int .i64 x1) := hcA 2 _ rfl 1 _ rfl
      have qa2 : wr.cell? ⟨b, off + 12 + 2, none⟩ = some (.int .u32 x2) := hcA 2 _ rfl 2 _ rfl
      have qa3 : wr.cell? ⟨b, off + 12 + 3, none⟩ = some (.int .u32 x3) := hcA 2 _ rfl 3 _ rfl
      have qa4 : wr.cell? ⟨b, off + 12 + 4, none⟩ = some (.int .u32 x4) := hcA 2 _ rfl 4 _ rfl
      have qa5 : wr.cell? ⟨b, off + 12 + 5, none⟩ = some (.int .u32 x5) := hcA 2 _ rfl 5 _ rfl
      have qb0 : wr.cell? ⟨b, off + 18, none⟩ = some (.int .i64 y0) := hcA 3 _ rfl 0 _ rfl
      have qb1 : wr.cell? ⟨b, off + 18 + 1, none⟩ = some (.int .i64 y1) := hcA 3 _ rfl 1 _ rfl
      have qb2 : wr.cell? ⟨b, off + 18 + 2, none⟩ = some (.int .u32 y2) := hcA 3 _ rfl 2 _ rfl
      have qb3 : wr.cell? ⟨b, off + 18 + 3, none⟩ = some (.int .u32 y3) := hcA 3 _ rfl 3 _ rfl
      have qb4 : wr.cell? ⟨b, off + 18 + 4, none⟩ = some (.int .u32 y4) := hcA 3 _ rfl 4 _ rfl
      have qb5 : wr.cell? ⟨b, off + 18 + 5, none⟩ = some (.int .u32 y5) := hcA 3 _ rfl 5 _ rfl
      have qd2 : wr.cell? ⟨b, off + 24 + 2, none⟩ = some (.int .u32 z2) := hcA 4 _ rfl 2 _ rfl
      clear hcA
      have b14 : (((i : Nat) : Int) == 14) = false := by simp; omega
      have b15 : (((i : Nat) : Int) == 15) = false := by simp; omega
      have i0_ : (0 : Int) ≤ (i : Nat) := by omega
      have i16 : ((i : Nat) : Int) < 16 := by omega
      have i15 : ((i : Nat) : Int) ≤ 15 := by omega
      have NB := Lib.hid (((HN.out.alloc HN.out.size (.cells #[.int .i64 x0, .int .i64 x1, .int .u32 x2, .int .u32 x3, .int .u32 x4, .int .u32 x5] 59)).alloc (by have := HN.out.size; simp; omega) (.cells #[.int .i64 y0, .int .i64 y1, .int .u32 y2, .int .u32 y3, .int .u32 y4, .int .u32 y5] 59)).alloc (by have := HN.out.size; simp; omega) (.cells #[.int .i64 tmp, .int .i64 0, .int .u32 0, .int .u32 0, .int .u32 0, .int .u32 0] 59))
      have TX := Lib.hid (heap_keep (o := (.cells #[.int .i64 tmp, .int .i64 0, .int .u32 0, .int .u32 0, .int .u32 0, .int .u32 0] 59)) (heap_keep (o := (.cells #[.int .i64 y0, .int .i64 y1, .int .u32 y2, .int .u32 y3, .int .u32 y4, .int .u32 y5] 59)) (heap_alloc_at wr (.cells #[.int .i64 x0, .int .i64 x1, .int .u32 x2, .int .u32 x3, .int .u32 x4, .int .u32 x5] 59) _ rfl)))
      have TY := Lib.hid (heap_keep (o := (.cells #[.int .i64 tmp, .int .i64 0, .int .u32 0, .int .u32 0, .int .u32 0, .int .u32 0] 59)) (heap_alloc_at (wr.alloc (.cells #[.int .i64 x0, .int .i64 x1, .int .u32 x2, .int .u32 x3, .int .u32 x4, .int .u32 x5] 59)) (.cells #[.int .i64 y0, .int .i64 y1, .int .u32 y2, .int .u32 y3, .int .u32 y4, .int .u32 y5] 59) (wr.heap.size + 1) (by simp)))
      have TH := Lib.hid (heap_alloc_at ((wr.alloc (.cells #[.int .i64 x0, .int .i64 x1, .int .u32 x2, .int .u32 x3, .int .u32 x4, .int .u32 x5] 59)).alloc (.cells #[.int .i64 y0, .int .i64 y1, .int .u32 y2, .int .u32 y3, .int .u32 y4, .int .u32 y5] 59)) (.cells #[.int .i64 tmp, .int .i64 0, .int .u32 0, .int .u32 0, .int .u32 0, .int .u32 0] 59) (wr.heap.size + 1 + 1) (by simp))
      have hrz : w.heap.size ≤ wr.heap.size := HN.out.size
      have hbA1 : b < wr.heap.size + 1 := by omega
      have hbA2 : b < wr.heap.size + 1 + 1 := by omega
      have hbA3 : b < wr.heap.size + 1 + 1 + 1 := by omega
      go_upto_region 25 with (fail)
      clear qc0 qc2 qo0 qo2 qa0 qa1 qa2 qa3 qa4 qa5 qb0 qb1 qb2 qb3 qb4 qb5 qd2
      clear b14 b15 i16 i15 hbA hbA1 hbA2 hbA3
      generalize ((wr.alloc (.cells #[.int .i64 x0, .int .i64 x1, .int .u32 x2, .int .u32 x3, .int .u32 x4, .int .u32 x5] 59)).alloc (.cells #[.int .i64 y0, .int .i64 y1, .int .u32 y2, .int .u32 y3, .int .u32 y4, .int .u32 y5] 59)).alloc (.cells #[.int .i64 tmp, .int .i64 0, .int .u32 0, .int .u32 0, .int .u32 0, .int .u32 0] 59) = wA at *
      generalize wr.heap.size = r at *
      have hX := TX.out
      have hY := TY.out
      have hH := TH.out
      have bxl := lt_of_heap hX
      have bxq0 : wA.cell? ⟨r, 0, none⟩ = some (.int .i64 x0) := cell_of_heap hX rfl
      have bxq1 : wA.cell? ⟨r, 1, none⟩ = some (.int .i64 x1) := cell_of_heap hX rfl
      have bxq2 : wA.cell? ⟨r, 2, none⟩ = some (.int .u32 x2) := cell_of_heap hX rfl
      have bxq3 : wA.cell? ⟨r, 3, none⟩ = some (.int .u32 x3) := cell_of_heap hX rfl
      have bxq4 : wA.cell? ⟨r, 4, none⟩ = some (.int .u32 x4) := cell_of_heap hX rfl
      have bxq5 : wA.cell? ⟨r, 5, none⟩ = some (.int .u32 x5) := cell_of_heap hX rfl
      have bvl := lt_of_heap hY
      have bvq0 : wA.cell? ⟨r + 1, 0, none⟩ = some (.int .i64 y0) := cell_of_heap hY rfl
      have bvq1 : wA.cell? ⟨r + 1, 1, none⟩ = some (.int .i64 y1) := cell_of_heap hY rfl
      have bvq2 : wA.cell? ⟨r + 1, 2, none⟩ = some (.int .u32 y2) := cell_of_heap hY rfl
      have bvq3 : wA.cell? ⟨r + 1, 3, none⟩ = some (.int .u32 y3) := cell_of_heap hY rfl
      have bvq4 : wA.cell? ⟨r + 1, 4, none⟩ = some (.int .u32 y4) := cell_of_heap hY rfl
      have bvq5 : wA.cell? ⟨r + 1, 5, none⟩ = some (.int .u32 y5) := cell_of_heap hY rfl
      have bhl := lt_of_heap hH
      have bhq0 : wA.cell? ⟨r + 1 + 1, 0, none⟩ = some (.int .i64 tmp) := cell_of_heap hH rfl
      have bhq1 : wA.cell? ⟨r + 1 + 1, 1, none⟩ = some (.int .i64 0) := cell_of_heap hH rfl
      have bhq2 : wA.cell? ⟨r + 1 + 1, 2, none⟩ = some (.int .u32 0) := cell_of_heap hH rfl
      have bhq3 : wA.cell? ⟨r + 1 + 1, 3, none⟩ = some (.int .u32 0) := cell_of_heap hH rfl
      have bhq4 : wA.cell? ⟨r + 1 + 1, 4, none⟩ = some (.int .u32 0) := cell_of_heap hH rfl
      have bhq5 : wA.cell? ⟨r + 1 + 1, 5, none⟩ = some (.int .u32 0) := cell_of_heap hH rfl
      clear hX hY hH
      go_wp2_with fail
      refine (rcopied_c i ⟨x0, x1, x2, x3, x4, x5⟩ tmp _ H_h7.out ht0 (by omega)).mono ?_
      rintro e u1 ⟨a, cap2, rfl, hr, hbn⟩
      obtain ⟨n, hn⟩ : ∃ n, (copyE i ⟨x0, x1, x2, x3, x4, x5⟩ tmp 0).length = n := ⟨_, rfl⟩
      have hpos : (0 : Int) < (n : Nat) := by have := copyE_pos i ⟨x0, x1, x2, x3, x4, x5⟩ tmp 0; omega
      rw [hn]
      have HH := Lib.hid hn
      have HR := Lib.hid hr
      have HN1 := Lib.hid (NB.out.trans (hbn.mono NB.out.size))
      clear hn hr hbn i0_
      clear bxq0 bxq1 bxq2 bxq3 bxq4 bxq5 bvq0 bvq1 bvq2 bvq3 bvq4 bvq5 bhq0 bhq1 bhq2 bhq3 bhq4 bhq5 bxl bvl bhl
      go_wp2
      refine bodyPost_ret (v := .tuple #[.slice a n cap2, .bool true]) (by have hpn : 0 < n := (by omega); simp [results, Try.results14, go_sem, hpn]) rfl ?_
      exact ⟨_, rfl, fun _ => ⟨a, cap2, (by show _ = Value.slice a (copyE i ⟨x0, x1, x2, x3, x4, x5⟩ tmp 0).length cap2; rw [HH.out]), HR.out⟩, (fun h => nomatch h), HN1.out⟩
set_option maxRecDepth 100000 in
set_option maxHeartbeats 8000000 in
theorem rs_copyx (b off cap : Nat) (c0 c1 c2 c3 c4 c5 o0 o1 o2 o3 o4 o5 x0 x1 x2 x3 x4 x5 y0 y1 y2 y3 y4 y5 z0 z1 z2 z3 z4 z5 tmp : Int) (w : World) (hc : AtomsIn w b off [⟨c0, c1, c2, c3, c4, c5⟩, ⟨o0, o1, o2, o3, o4, o5⟩, ⟨x0, x1, x2, x3, x4, x5⟩, ⟨y0, y1, y2, y3, y4, y5⟩, ⟨z0, z1, z2, z3, z4, z5⟩]) (hb : b < w.heap.size) (ht0 : 0 ≤ tmp) (ht1 : tmp ≤ 4000) (hW : ∀ a ∈ [⟨c0, c1, c2, c3, c4, c5⟩, ⟨o0, o1, o2, o3, o4, o5⟩, ⟨x0, x1, x2, x3, x4, x5⟩, ⟨y0, y1, y2, y3, y4, y5⟩, ⟨z0, z1, z2, z3, z4, z5⟩], isW a = true) (hq : allNeg [⟨c0, c1, c2, c3, c4, c5⟩, ⟨o0, o1, o2, o3, o4, o5⟩, ⟨x0, x1, x2, x3, x4, x5⟩, ⟨y0, y1, y2, y3, y4, y5⟩, ⟨z0, z1, z2, z3, z4, z5⟩] = false) (i : Nat) (hc2 : c2 = (i : Int)) (hi : i < 14) (n0 : c0 < 0) (no : o0 < 0) (hop : o2 = 0) (h7 : 7 < i) :
    Calls Try.prog 14 #[.slice (some ⟨b, off, none⟩) 5 cap, .int .i64 tmp] w (RfPost ([], false) w) := by
  have HC := Lib.hid hc
  obtain ⟨l, hl⟩ : ∃ l : List Atom, [⟨c0, c1, c2, c3, c4, c5⟩, ⟨o0, o1, o2, o3, o4, o5⟩, ⟨x0, x1, x2, x3, x4, x5⟩, ⟨y0, y1, y2, y3, y4, y5⟩, ⟨z0, z1, z2, z3, z4, z5⟩] = l := ⟨_, rfl⟩
  rw [hl] at HC hW hq
  have hlen : l.length = 5 := by rw [← hl]; rfl
  have HLEN := Lib.hid hlen
  have HL := Lib.hid hl
  have HWW := Lib.hid hW
  have HQ := Lib.hid hq
  clear hc hlen hl hW hq
  subst hc2
  subst hop
  have H_hi := Lib.hid hi
  have H_h7 := Lib.hid h7
  clear h7
  go_enter Try.func14, Try.ntmps14
  go_wp2_with fail
  go_loopg [6, 7] 5 (fun g f i w' => ∃ k : Nat, f = .bool (allNeg (l.take k)) ∧ i = .int .i64 k ∧ k + g = 5 ∧ New w w')
  case atStart => exact ⟨0, rfl, rfl, rfl, New.refl w⟩
  case round =>
    obtain ⟨k, rfl, rfl, hkg, hN⟩ := hrel
    have HN := Lib.hid hN
    have HKG := Lib.hid hkg
    clear hN hkg
    have hk5 : k ≤ 5 := by have := HKG.out; omega
    by_cases hlt : k < 5
    · obtain ⟨x, hx⟩ : ∃ x, l[k]? = some x := ⟨_, List.getElem?_eq_getElem (by rw [HLEN.out]; exact hlt)⟩
      have hts : l.take (k + 1) = l.take k ++ [x] := by rw [List.take_add_one, hx]; rfl
      have hsn : allNeg (l.take (k + 1)) = (allNeg (l.take k) && decide (x.tmp < 0)) := by rw [hts, allNeg_snoc]
      have HSN := Lib.hid hsn
      have hw1 : isW x = true := HWW.out x (List.mem_of_getElem? hx)
      have hcx := (HC.out.new hb HN.out) k x hx
      clear hx hts hsn
      obtain ⟨x0_, x1_, x2_, x3_, x4_, x5_⟩ := x
      have q0 : wr.cell? ⟨b, off + k * 6, none⟩ = some (.int .i64 x0_) := hcx 0 _ rfl
      have q1 : wr.cell? ⟨b, off + k * 6 + 1, none⟩ = some (.int .i64 x1_) := hcx 1 _ rfl
      have q2 : wr.cell? ⟨b, off + k * 6 + 2, none⟩ = some (.int .u32 x2_) := hcx 2 _ rfl
      have q3 : wr.cell? ⟨b, off + k * 6 + 3, none⟩ = some (.int .u32 x3_) := hcx 3 _ rfl
      have q4 : wr.cell? ⟨b, off + k * 6 + 4, none⟩ = some (.int .u32 x4_) := hcx 4 _ rfl
      have q5 : wr.cell? ⟨b, off + k * 6 + 5, none⟩ = some (.int .u32 x5_) := hcx 5 _ rfl
      have hz := HN.out.size
      have hbz : b < wr.heap.size := by omega
      have hk0 : (0 : Int) ≤ (k : Nat) := by omega
      have hk1 : ((k : Nat) : Int) < 5 := by omega
      clear hcx
      obtain ⟨qk, hqk⟩ : ∃ qk, allNeg (l.take k) = qk := ⟨_, rfl⟩
      rw [hqk]
      have hcI : ∀ w : World, Calls Try.prog 41 #[.agg #[.int .i64 x0_, .int .i64 x1_, .int .u32 x2_, .int .u32 x3_, .int .u32 x4_, .int .u32 x5_]] w fun e w' => e = .returned (.bool true) ∧ New w w' := fun w => by
        have h := isatom_c ⟨x0_, x1_, x2_, x3_, x4_, x5_⟩ w
        rw [hw1] at h
        exact h
      have HCI := Lib.hid hcI
      have HQK := Lib.hid hqk
      clear hcI hw1 hqk
      cases qk
      · go_wp2_with fail
        refine (HCI.out _).mono ?_
        rintro e w1 ⟨rfl, hb1⟩
        have N1 := Lib.hid (HN.out.trans (hb1.mono HN.out.size))
        clear hb1 q0 q1 q2 q3 q4 q5
        go_wp2
        go_roundg (gk - 1)
        case measure => have := HKG.out; omega
        case rel => exact ⟨k + 1, congrArg Value.bool (by rw [HSN.out, HQK.out]; rfl), by go_num, by have := HKG.out; omega, N1.out⟩
      · go_wp2_with fail
        refine (HCI.out _).mono ?_
        rintro e w1 ⟨rfl, hb1⟩
        have N1 := Lib.hid (HN.out.trans (hb1.mono HN.out.size))
        have y0 : w1.cell? ⟨b, off + k * 6, none⟩ = some (.int .i64 x0_) := (hb1.cell (p := ⟨b, off + k * 6, none⟩) hbz).trans q0
        have yl := Nat.lt_of_lt_of_le hbz hb1.size
        clear hb1 q0 q1 q2 q3 q4 q5
        by_cases hneg : x0_ < 0
        · go_wp2
          go_roundg (gk - 1)
          case measure => have := HKG.out; omega
          case rel => exact ⟨k + 1, congrArg Value.bool (by rw [HSN.out, HQK.out]; first | (simp; done) | simp [hneg]), by go_num, by have := HKG.out; omega, N1.out⟩
        · have hge : 0 ≤ x0_ := by omega
          go_wp2
          go_roundg (gk - 1)
          case measure => have := HKG.out; omega
          case rel => exact ⟨k + 1, congrArg Value.bool (by rw [HSN.out, HQK.out]; first | (simp; done) | simp [hneg]), by go_num, by have := HKG.out; omega, N1.out⟩
    · have hk : k = 5 := by omega
      subst hk
      have hnl : l.take 5 = l := List.take_of_length_le (by rw [HLEN.out]; exact Nat.le_refl _)
      rw [hnl, HQ.out]
      clear hnl
      have hbA : b < wr.heap.size := Nat.lt_of_lt_of_le hb HN.out.size
      have hcA := HC.out.new hb HN.out
      rw [← HL.out] at hcA
      have HCA := Lib.hid hcA
      have qc0 : wr.cell? ⟨b, off, none⟩ = some (.int .i64 c0) := hcA 0 _ rfl 0 _ rfl
      have qc2 : wr.cell? ⟨b, off + 2, none⟩ = some (.int .u32 _) := hcA 0 _ rfl 2 _ rfl
      have qo0 : wr.cell? ⟨b, off + 6, none⟩ = some (.int .i64 o0) := hcA 1 _ rfl 0 _ rfl
      have qo2 : wr.cell? ⟨b, off + 6 + 2, none⟩ = some (.int .u32 _) := hcA 1 _ rfl 2 _ rfl
      have qa0 : wr.cell? ⟨b, off + 12, none⟩ = some (.int .i64 x0) := hcA 2 _ rfl 0 _ rfl
      have qa1 : wr.cell? ⟨b, off + 12 + 1, none⟩ = some (.int .i64 x1) := hcA 2 _ rfl 1 _ rfl
      have qa2 : wr.cell? ⟨b, off + 12 + 2, none⟩ = some (.int .u32 x2) := hcA 2 _ rfl 2 _ rfl
      have qa3 : wr.cell? ⟨b, off + 12 + 3, none⟩ = some (.int .u32 x3) := hcA 2 _ rfl 3 _ rfl
      have qa4 : wr.cell? ⟨b, off + 12 + 4, none⟩ = some (.int .u32 x4) := hcA 2 _ rfl 4 _ rfl
      have qa5 : wr.cell? ⟨b, off + 12 + 5, none⟩ = some (.int .u32 x5) := hcA 2 _ rfl 5 _ rfl
      have qb0 : wr.cell? ⟨b, off + 18, none⟩ = some (.int .i64 y0) := hcA 3 _ rfl 0 _ rfl
      have qb1 : wr.cell? ⟨b, off + 18 + 1, none⟩ = some (.int .i64 y1) := hcA 3 _ rfl 1 _ rfl
      have qb2 : wr.cell? ⟨b, off + 18 + 2, none⟩ = some (.int .u32 y2) := hcA 3 _ rfl 2 _ rfl
      have qb3 : wr.cell? ⟨b, off + 18 + 3, none⟩ = some (.int .u32 y3) := hcA 3 _ rfl 3 _ rfl
      have qb4 : wr.cell? ⟨b, off + 18 + 4, none⟩ = some (.int .u32 y4) := hcA 3 _ rfl 4 _ rfl
      have qb5 : wr.cell? ⟨b, off + 18 + 5, none⟩ = some (.int .u32 y5) := hcA 3 _ rfl 5 _ rfl
      have qd2 : wr.cell? ⟨b, off + 24 + 2, none⟩ = some (.int .u32 z2) := hcA 4 _ rfl 2 _ rfl
      clear hcA
      have b14 : (((i : Nat) : Int) == 14) = false := by simp; omega
      have b15 : (((i : Nat) : Int) == 15) = false := by simp; omega
      have i0_ : (0 : Int) ≤ (i : Nat) := by omega
      have i16 : ((i : Nat) : Int) < 16 := by omega
      have i15 : ((i : Nat) : Int) ≤ 15 := by omega
      have NB := Lib.hid (((HN.out.alloc HN.out.size (.cells #[.int .i64 x0, .int .i64 x1, .int .u32 x2, .int .u32 x3, .int .u32 x4, .int .u32 x5] 59)).alloc (by have := HN.out.size; simp; omega) (.cells #[.int .i64 y0, .int .i64 y1, .int .u32 y2, .int .u32 y3, .int .u32 y4, .int .u32 y5] 59)).alloc (by have := HN.out.size; simp; omega) (.cells #[.int .i64 tmp, .int .i64 0, .int .u32 0, .int .u32 0, .int .u32 0, .int .u32 0] 59))
      have TX := Lib.hid (heap_keep (o := (.cells #[.int .i64 tmp, .int .i64 0, .int .u32 0, .int .u32 0, .int .u32 0, .int .u32 0] 59)) (heap_keep (o := (.cells #[.int .i64 y0, .int .i64 y1, .int .u32 y2, .int .u32 y3, .int .u32 y4, .int .u32 y5] 59)) (heap_alloc_at wr (.cells #[.int .i64 x0, .int .i64 x1, .int .u32 x2, .int .u32 x3, .int .u32 x4, .int .u32 x5] 59) _ rfl)))
      have TY := Lib.hid (heap_keep (o := (.cells #[.int .i64 tmp, .int .i64 0, .int .u32 0, .int .u32 0, .int .u32 0, .int .u32 0] 59)) (heap_alloc_at (wr.alloc (.cells #[.int .i64 x0, .int .i64 x1, .int .u32 x2, .int .u32 x3, .int .u32 x4, .int .u32 x5] 59)) (.cells #[.int .i64 y0, .int .i64 y1, .int .u32 y2, .int .u32 y3, .int .u32 y4, .int .u32 y5] 59) (wr.heap.size + 1) (by simp)))
      have TH := Lib.hid (heap_alloc_at ((wr.alloc (.cells #[.int .i64 x0, .int .i64 x1, .int .u32 x2, .int .u32 x3, .int .u32 x4, .int .u32 x5] 59)).alloc (.cells #[.int .i64 y0, .int .i64 y1, .int .u32 y2, .int .u32 y3, .int .u32 y4, .int .u32 y5] 59)) (.cells #[.int .i64 tmp, .int .i64 0, .int .u32 0, .int .u32 0, .int .u32 0, .int .u32 0] 59) (wr.heap.size + 1 + 1) (by simp))
      have hrz : w.heap.size ≤ wr.heap.size := HN.out.size
      have hbA1 : b < wr.heap.size + 1 := by omega
      have hbA2 : b < wr.heap.size + 1 + 1 := by omega
      have hbA3 : b < wr.heap.size + 1 + 1 + 1 := by omega
      go_upto_region 25 with (fail)
      clear qc0 qc2 qo0 qo2 qa0 qa1 qa2 qa3 qa4 qa5 qb0 qb1 qb2 qb3 qb4 qb5 qd2
      clear b14 b15 i16 i15 hbA hbA1 hbA2 hbA3
      generalize ((wr.alloc (.cells #[.int .i64 x0, .int .i64 x1, .int .u32 x2, .int .u32 x3, .int .u32 x4, .int .u32 x5] 59)).alloc (.cells #[.int .i64 y0, .int .i64 y1, .int .u32 y2, .int .u32 y3, .int .u32 y4, .int .u32 y5] 59)).alloc (.cells #[.int .i64 tmp, .int .i64 0, .int .u32 0, .int .u32 0, .int .u32 0, .int .u32 0] 59) = wA at *
      generalize wr.heap.size = r at *
      have hX := TX.out
      have hY := TY.out
      have hH := TH.out
      have bxl := lt_of_heap hX
      have bxq0 : wA.cell? ⟨r, 0, none⟩ = some (.int .i64 x0) := cell_of_heap hX rfl
      have bxq1 : wA.cell? ⟨r, 1, none⟩ = some (.int .i64 x1) := cell_of_heap hX rfl
      have bxq2 : wA.cell? ⟨r, 2, none⟩ = some (.int .u32 x2) := cell_of_heap hX rfl
      have bxq3 : wA.cell? ⟨r, 3, none⟩ = some (.int .u32 x3) := cell_of_heap hX rfl
      have bxq4 : wA.cell? ⟨r, 4, none⟩ = some (.int .u32 x4) := cell_of_heap hX rfl
      have bxq5 : wA.cell? ⟨r, 5, none⟩ = some (.int .u32 x5) := cell_of_heap hX rfl
      have bvl := lt_of_heap hY
      have bvq0 : wA.cell? ⟨r + 1, 0, none⟩ = some (.int .i64 y0) := cell_of_heap hY rfl
      have bvq1 : wA.cell? ⟨r + 1, 1, none⟩ = some (.int .i64 y1) := cell_of_heap hY rfl
      have bvq2 : wA.cell? ⟨r + 1, 2, none⟩ = some (.int .u32 y2) := cell_of_heap hY rfl
      have bvq3 : wA.cell? ⟨r + 1, 3, none⟩ = some (.int .u32 y3) := cell_of_heap hY rfl
      have bvq4 : wA.cell? ⟨r + 1, 4, none⟩ = some (.int .u32 y4) := cell_of_heap hY rfl
      have bvq5 : wA.cell? ⟨r + 1, 5, none⟩ = some (.int .u32 y5) := cell_of_heap hY rfl
      have bhl := lt_of_heap hH
      have bhq0 : wA.cell? ⟨r + 1 + 1, 0, none⟩ = some (.int .i64 tmp) := cell_of_heap hH rfl
      have bhq1 : wA.cell? ⟨r + 1 + 1, 1, none⟩ = some (.int .i64 0) := cell_of_heap hH rfl
      have bhq2 : wA.cell? ⟨r + 1 + 1, 2, none⟩ = some (.int .u32 0) := cell_of_heap hH rfl
      have bhq3 : wA.cell? ⟨r + 1 + 1, 3, none⟩ = some (.int .u32 0) := cell_of_heap hH rfl
      have bhq4 : wA.cell? ⟨r + 1 + 1, 4, none⟩ = some (.int .u32 0) := cell_of_heap hH rfl
      have bhq5 : wA.cell? ⟨r + 1 + 1, 5, none⟩ = some (.int .u32 0) := cell_of_heap hH rfl
      clear hX hY hH
      go_wp2_with fail
      refine (rcopied_hi i ⟨x0, x1, x2, x3, x4, x5⟩ tmp _ H_h7.out H_hi.out).mono ?_
      rintro e u1 ⟨rfl, hbn⟩
      have HN1 := Lib.hid (NB.out.trans (hbn.mono NB.out.size))
      clear hbn i0_
      clear bxq0 bxq1 bxq2 bxq3 bxq4 bxq5 bvq0 bvq1 bvq2 bvq3 bvq4 bvq5 bhq0 bhq1 bhq2 bhq3 bhq4 bhq5 bxl bvl bhl
      go_wp2
      all_goals
        refine bodyPost_ret (v := .tuple #[.slice none 0 0, .bool false]) (by simp [results, Try.results14, go_sem]) rfl ?_
        exact ⟨_, rfl, (fun h => nomatch h), fun _ => rfl, HN1.out⟩
end Go.Proofs.Ytmkjgkldbonpnaa
