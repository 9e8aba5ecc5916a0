/- The specification's Simplify. -/
import Derived.Test.YtmkjgkldbonpnaaWRefS3
import Derived.Test.YtmkjgkldbonpnaaWSimplify
import Derived.Test.YtmkjgkldbonpnaaWRefB
import Derived.IntWalk
namespace Go.Proofs.Ytmkjgkldbonpnaa
open Go Go.RowKit Go.Cd
set_option linter.unusedVariables false

def allNeg (l : List Atom) : Bool := l.all fun a => decide (a.tmp < 0)
theorem allNeg_snoc (l : List Atom) (a : Atom) : allNeg (l ++ [a]) = (allNeg l && decide (a.tmp < 0)) := by simp [allNeg]
/-- What the specification's Simplify leaves. -/
def RfPost (L : List IExpr × Bool) (w : World) (e : Ending) (w' : World) : Prop := ∃ v, e = .returned (.tuple #[v, .bool L.2]) ∧ (L.2 = true → ∃ a cap, v = .slice a L.1.length cap ∧ ERows w' a L.1) ∧ (L.2 = false → v = .slice none 0 0) ∧ New w w'
attribute [local go_sem ↓] Go.wp_at_zero Go.wp_at_succ
set_option maxRecDepth 100000 in
set_option maxHeartbeats 8000000 in
theorem rs_c (b off cap : Nat) (c0 c1 c2 c3 c4 c5 o0 o1 o2 o3 o4 o5 x0 x1 x2 x3 x4 x5 y0 y1 y2 y3 y4 y5 z0 z1 z2 z3 z4 z5 tmp : Int) (w : World) (hc : AtomsIn w b off [⟨c0, c1, c2, c3, c4, c5⟩, ⟨o0, o1, o2, o3, o4, o5⟩, ⟨x0, x1, x2, x3, x4, x5⟩, ⟨y0, y1, y2, y3, y4, y5⟩, ⟨z0, z1, z2, z3, z4, z5⟩]) (hb : b < w.heap.size) (ht0 : 0 ≤ tmp) (ht1 : tmp ≤ 4000) (hW : ∀ a ∈ [⟨c0, c1, c2, c3, c4, c5⟩, ⟨o0, o1, o2, o3, o4, o5⟩, ⟨x0, x1, x2, x3, x4, x5⟩, ⟨y0, y1, y2, y3, y4, y5⟩, ⟨z0, z1, z2, z3, z4, z5⟩], isW a = true) (hq : allNeg [⟨c0, c1, c2, c3, c4, c5⟩, ⟨o0, o1, o2, o3, o4, o5⟩, ⟨x0, x1, x2, x3, x4, x5⟩, ⟨y0, y1, y2, y3, y4, y5⟩, ⟨z0, z1, z2, z3, z4, z5⟩] = false) (n0 : 0 ≤ c0) :
    Calls Try.prog 14 #[.slice (some ⟨b, off, none⟩) 5 cap, .int .i64 tmp] w (RfPost ([], false) w) := by
  have HC := Lib.hid hc
  obtain ⟨l, hl⟩ : ∃ l : List Atom, [⟨c0, c1, c2, c3, c4, c5⟩, ⟨o0, o1, o2, o3, o4, o5⟩, ⟨x0, x1, x2, x3, x4, x5⟩, ⟨y0, y1, y2, y3, y4, y5⟩, ⟨z0, z1, z2, z3, z4, z5⟩] = l := ⟨_, rfl⟩
  rw [hl] at HC hW hq
  have hlen : l.length = 5 := by rw [← hl]; rfl
  have HLEN := Lib.hid hlen
  have HL := Lib.hid hl
  have HWW := Lib.hid hW
  have HQ := Lib.hid hq
  clear hc hlen hl hW hq
  go_enter Try.func14, Try.ntmps14
  go_wp2_with fail
  go_loopg [6, 7] 5 (fun g f i w' => ∃ k : Nat, f = .bool (allNeg (l.take k)) ∧ i = .int .i64 k ∧ k + g = 5 ∧ New w w')
  case atStart => exact ⟨0, rfl, rfl, rfl, New.refl w⟩
  case round =>
    obtain ⟨k, rfl, rfl, hkg, hN⟩ := hrel
    have HN := Lib.hid hN
    have HKG := Lib.hid hkg
    clear hN hkg
    have hk5 : k ≤ 5 := by have := HKG.out; omega
    by_cases hlt : k < 5
    · obtain ⟨x, hx⟩ : ∃ x, l[k]? = some x := ⟨_, List.getElem?_eq_getElem (by rw [HLEN.out]; exact hlt)⟩
      have hts : l.take (k + 1) = l.take k ++ [x] := by rw [List.take_add_one, hx]; rfl
      have hsn : allNeg (l.take (k + 1)) = (allNeg (l.take k) && decide (x.tmp < 0)) := by rw [hts, allNeg_snoc]
      have HSN := Lib.hid hsn
      have hw1 : isW x = true := HWW.out x (List.mem_of_getElem? hx)
      have hcx := (HC.out.new hb HN.out) k x hx
      clear hx hts hsn
      obtain ⟨x0_, x1_, x2_, x3_, x4_, x5_⟩ := x
      have q0 : wr.cell? ⟨b, off + k * 6, none⟩ = some (.int .i64 x0_) := hcx 0 _ rfl
      have q1 : wr.cell? ⟨b, off + k * 6 + 1, none⟩ = some (.int .i64 x1_) := hcx 1 _ rfl
      have q2 : wr.cell? ⟨b, off + k * 6 + 2, none⟩ = some (.int .u32 x2_) := hcx 2 _ rfl
      have q3 : wr.cell? ⟨b, off + k * 6 + 3, none⟩ = some (.int .u32 x3_) := hcx 3 _ rfl
      have q4 : wr.cell? ⟨b, off + k * 6 + 4, none⟩ = some (.int .u32 x4_) := hcx 4 _ rfl
      have q5 : wr.cell? ⟨b, off + k * 6 + 5, none⟩ = some (.int .u32 x5_) := hcx 5 _ rfl
      have hz := HN.out.size
      have hbz : b < wr.heap.size := by omega
      have hk0 : (0 : Int) ≤ (k : Nat) := by omega
      have hk1 : ((k : Nat) : Int) < 5 := by omega
      clear hcx
      obtain ⟨qk, hqk⟩ : ∃ qk, allNeg (l.take k) = qk := ⟨_, rfl⟩
      rw [hqk]
      have hcI : ∀ w : World, Calls Try.prog 41 #[.agg #[.int .i64 x0_, .int .i64 x1_, .int .u32 x2_, .int .u32 x3_, .int .u32 x4_, .int .u32 x5_]] w fun e w' => e = .returned (.bool true) ∧ New w w' := fun w => by
        have h := isatom_c ⟨x0_, x1_, x2_, x3_, x4_, x5_⟩ w
        rw [hw1] at h
        exact h
      have HCI := Lib.hid hcI
      have HQK := Lib.hid hqk
      clear hcI hw1 hqk
      cases qk
      · go_wp2_with fail
        refine (HCI.out _).mono ?_
        rintro e w1 ⟨rfl, hb1⟩
        have N1 := Lib.hid (HN.out.trans (hb1.mono HN.out.size))
        clear hb1 q0 q1 q2 q3 q4 q5
        go_wp2
        go_roundg (gk - 1)
        case measure => have := HKG.out; omega
        case rel => exact ⟨k + 1, congrArg Value.bool (by rw [HSN.out, HQK.out]; rfl), by go_num, by have := HKG.out; omega, N1.out⟩
      · go_wp2_with fail
        refine (HCI.out _).mono ?_
        rintro e w1 ⟨rfl, hb1⟩
        have N1 := Lib.hid (HN.out.trans (hb1.mono HN.out.size))
        have y0 : w1.cell? ⟨b, off + k * 6, none⟩ = some (.int .i64 x0_) := (hb1.cell (p := ⟨b, off + k * 6, none⟩) hbz).trans q0
        have yl := Nat.lt_of_lt_of_le hbz hb1.size
        clear hb1 q0 q1 q2 q3 q4 q5
        by_cases hneg : x0_ < 0
        · go_wp2
          go_roundg (gk - 1)
          case measure => have := HKG.out; omega
          case rel => exact ⟨k + 1, congrArg Value.bool (by rw [HSN.out, HQK.out]; first | (simp; done) | simp [hneg]), by go_num, by have := HKG.out; omega, N1.out⟩
        · have hge : 0 ≤ x0_ := by omega
          go_wp2
          go_roundg (gk - 1)
          case measure => have := HKG.out; omega
          case rel => exact ⟨k + 1, congrArg Value.bool (by rw [HSN.out, HQK.out]; first | (simp; done) | simp [hneg]), by go_num, by have := HKG.out; omega, N1.out⟩
    · have hk : k = 5 := by omega
      subst hk
      have hnl : l.take 5 = l := List.take_of_length_le (by rw [HLEN.out]; exact Nat.le_refl _)
      rw [hnl, HQ.out]
      clear hnl
      have hbA : b < wr.heap.size := Nat.lt_of_lt_of_le hb HN.out.size
      have hcA := HC.out.new hb HN.out
      rw [← HL.out] at hcA
      have HCA := Lib.hid hcA
      have qc0 : wr.cell? ⟨b, off, none⟩ = some (.int .i64 c0) := hcA 0 _ rfl 0 _ rfl
      have qc2 : wr.cell? ⟨b, off + 2, none⟩ = some (.int .u32 c2) := hcA 0 _ rfl 2 _ rfl
      have qo0 : wr.cell? ⟨b, off + 6, none⟩ = some (.int .i64 o0) := hcA 1 _ rfl 0 _ rfl
      have qo2 : wr.cell? ⟨b, off + 6 + 2, none⟩ = some (.int .u32 o2) := hcA 1 _ rfl 2 _ rfl
      have qa0 : wr.cell? ⟨b, off + 12, none⟩ = some (.int .i64 x0) := hcA 2 _ rfl 0 _ rfl
      have qa1 : wr.cell? ⟨b, off + 12 + 1, none⟩ = some (.int .i64 x1) := hcA 2 _ rfl 1 _ rfl
      have qa2 : wr.cell? ⟨b, off + 12 + 2, none⟩ = some (.int .u32 x2) := hcA 2 _ rfl 2 _ rfl
      have qa3 : wr.cell? ⟨b, off + 12 + 3, none⟩ = some (.int .u32 x3) := hcA 2 _ rfl 3 _ rfl
      have qa4 : wr.cell? ⟨b, off + 12 + 4, none⟩ = some (.int .u32 x4) := hcA 2 _ rfl 4 _ rfl
      have qa5 : wr.cell? ⟨b, off + 12 + 5, none⟩ = some (.int .u32 x5) := hcA 2 _ rfl 5 _ rfl
      have qb0 : wr.cell? ⟨b, off + 18, none⟩ = some (.int .i64 y0) := hcA 3 _ rfl 0 _ rfl
      have qb1 : wr.cell? ⟨b, off + 18 + 1, none⟩ = some (.int .i64 y1) := hcA 3 _ rfl 1 _ rfl
      have qb2 : wr.cell? ⟨b, off + 18 + 2, none⟩ = some (.int .u32 y2) := hcA 3 _ rfl 2 _ rfl
      have qb3 : wr.cell? ⟨b, off + 18 + 3, none⟩ = some (.int .u32 y3) := hcA 3 _ rfl 3 _ rfl
      have qb4 : wr.cell? ⟨b, off + 18 + 4, none⟩ = some (.int .u32 y4) := hcA 3 _ rfl 4 _ rfl
      have qb5 : wr.cell? ⟨b, off + 18 + 5, none⟩ = some (.int .u32 y5) := hcA 3 _ rfl 5 _ rfl
      have qd2 : wr.cell? ⟨b, off + 24 + 2, none⟩ = some (.int .u32 z2) := hcA 4 _ rfl 2 _ rfl
      clear hcA
      go_wp2
      all_goals
        refine bodyPost_ret (v := .tuple #[.slice none 0 0, .bool false]) (by simp [results, Try.results14, go_sem]) rfl ?_
        exact ⟨_, rfl, (fun h => nomatch h), fun _ => rfl, HN.out⟩
set_option maxRecDepth 100000 in
set_option maxHeartbeats 8000000 in
theorem rs_k (b off cap : Nat) (c0 c1 c2 c3 c4 c5 o0 o1 o2 o3 o4 o5 x0 x1 x2 x3 x4 x5 y0 y1 y2 y3 y4 y5 z0 z1 z2 z3 z4 z5 tmp : Int) (w : World) (hc : AtomsIn w b off [⟨c0, c1, c2, c3, c4, c5⟩, ⟨o0, o1, o2, o3, o4, o5⟩, ⟨x0, x1, x2, x3, x4, x5⟩, ⟨y0, y1, y2, y3, y4, y5⟩, ⟨z0, z1, z2, z3, z4, z5⟩]) (hb : b < w.heap.size) (ht0 : 0 ≤ tmp) (ht1 : tmp ≤ 4000) (hW : ∀ a ∈ [⟨c0, c1, c2, c3, c4, c5⟩, ⟨o0, o1, o2, o3, o4, o5⟩, ⟨x0, x1, x2, x3, x4, x5⟩, ⟨y0, y1, y2, y3, y4, y5⟩, ⟨z0, z1, z2, z3, z4, z5⟩], isW a = true) (hq : allNeg [⟨c0, c1, c2, c3, c4, c5⟩, ⟨o0, o1, o2, o3, o4, o5⟩, ⟨x0, x1, x2, x3, x4, x5⟩, ⟨y0, y1, y2, y3, y4, y5⟩, ⟨z0, z1, z2, z3, z4, z5⟩] = false) (n0 : c0 < 0) (k0 : 15 < c2) :
    Calls Try.prog 14 #[.slice (some ⟨b, off, none⟩) 5 cap, .int .i64 tmp] w (RfPost ([], false) w) := by
  have HC := Lib.hid hc
  obtain ⟨l, hl⟩ : ∃ l : List Atom, [⟨c0, c1, c2, c3, c4, c5⟩, ⟨o0, o1, o2, o3, o4, o5⟩, ⟨x0, x1, x2, x3, x4, x5⟩, ⟨y0, y1, y2, y3, y4, y5⟩, ⟨z0, z1, z2, z3, z4, z5⟩] = l := ⟨_, rfl⟩
  rw [hl] at HC hW hq
  have hlen : l.length = 5 := by rw [← hl]; rfl
  have HLEN := Lib.hid hlen
  have HL := Lib.hid hl
  have HWW := Lib.hid hW
  have HQ := Lib.hid hq
  clear hc hlen hl hW hq
  go_enter Try.func14, Try.ntmps14
  go_wp2_with fail
  go_loopg [6, 7] 5 (fun g f i w' => ∃ k : Nat, f = .bool (allNeg (l.take k)) ∧ i = .int .i64 k ∧ k + g = 5 ∧ New w w')
  case atStart => exact ⟨0, rfl, rfl, rfl, New.refl w⟩
  case round =>
    obtain ⟨k, rfl, rfl, hkg, hN⟩ := hrel
    have HN := Lib.hid hN
    have HKG := Lib.hid hkg
    clear hN hkg
    have hk5 : k ≤ 5 := by have := HKG.out; omega
    by_cases hlt : k < 5
    · obtain ⟨x, hx⟩ : ∃ x, l[k]? = some x := ⟨_, List.getElem?_eq_getElem (by rw [HLEN.out]; exact hlt)⟩
      have hts : l.take (k + 1) = l.take k ++ [x] := by rw [List.take_add_one, hx]; rfl
      have hsn : allNeg (l.take (k + 1)) = (allNeg (l.take k) && decide (x.tmp < 0)) := by rw [hts, allNeg_snoc]
      have HSN := Lib.hid hsn
      have hw1 : isW x = true := HWW.out x (List.mem_of_getElem? hx)
      have hcx := (HC.out.new hb HN.out) k x hx
      clear hx hts hsn
      obtain ⟨x0_, x1_, x2_, x3_, x4_, x5_⟩ := x
      have q0 : wr.cell? ⟨b, off + k * 6, none⟩ = some (.int .i64 x0_) := hcx 0 _ rfl
      have q1 : wr.cell? ⟨b, off + k * 6 + 1, none⟩ = some (.int .i64 x1_) := hcx 1 _ rfl
      have q2 : wr.cell? ⟨b, off + k * 6 + 2, none⟩ = some (.int .u32 x2_) := hcx 2 _ rfl
      have q3 : wr.cell? ⟨b, off + k * 6 + 3, none⟩ = some (.int .u32 x3_) := hcx 3 _ rfl
      have q4 : wr.cell? ⟨b, off + k * 6 + 4, none⟩ = some (.int .u32 x4_) := hcx 4 _ rfl
      have q5 : wr.cell? ⟨b, off + k * 6 + 5, none⟩ = some (.int .u32 x5_) := hcx 5 _ rfl
      have hz := HN.out.size
      have hbz : b < wr.heap.size := by omega
      have hk0 : (0 : Int) ≤ (k : Nat) := by omega
      have hk1 : ((k : Nat) : Int) < 5 := by omega
      clear hcx
      obtain ⟨qk, hqk⟩ : ∃ qk, allNeg (l.take k) = qk := ⟨_, rfl⟩
      rw [hqk]
      have hcI : ∀ w : World, Calls Try.prog 41 #[.agg #[.int .i64 x0_, .int .i64 x1_, .int .u32 x2_, .int .u32 x3_, .int .u32 x4_, .int .u32 x5_]] w fun e w' => e = .returned (.bool true) ∧ New w w' := fun w => by
        have h := isatom_c ⟨x0_, x1_, x2_, x3_, x4_, x5_⟩ w
        rw [hw1] at h
        exact h
      have HCI := Lib.hid hcI
      have HQK := Lib.hid hqk
      clear hcI hw1 hqk
      cases qk
      · go_wp2_with fail
        refine (HCI.out _).mono ?_
        rintro e w1 ⟨rfl, hb1⟩
        have N1 := Lib.hid (HN.out.trans (hb1.mono HN.out.size))
        clear hb1 q0 q1 q2 q3 q4 q5
        go_wp2
        go_roundg (gk - 1)
        case measure => have := HKG.out; omega
        case rel => exact ⟨k + 1, congrArg Value.bool (by rw [HSN.out, HQK.out]; rfl), by go_num, by have := HKG.out; omega, N1.out⟩
      · go_wp2_with fail
        refine (HCI.out _).mono ?_
        rintro e w1 ⟨rfl, hb1⟩
        have N1 := Lib.hid (HN.out.trans (hb1.mono HN.out.size))
        have y0 : w1.cell? ⟨b, off + k * 6, none⟩ = some (.int .i64 x0_) := (hb1.cell (p := ⟨b, off + k * 6, none⟩) hbz).trans q0
        have yl := Nat.lt_of_lt_of_le hbz hb1.size
        clear hb1 q0 q1 q2 q3 q4 q5
        by_cases hneg : x0_ < 0
        · go_wp2
          go_roundg (gk - 1)
          case measure => have := HKG.out; omega
          case rel => exact ⟨k + 1, congrArg Value.bool (by rw [HSN.out, HQK.out]; first | (simp; done) | simp [hneg]), by go_num, by have := HKG.out; omega, N1.out⟩
        · have hge : 0 ≤ x0_ := by omega
          go_wp2
          go_roundg (gk - 1)
          case measure => have := HKG.out; omega
          case rel => exact ⟨k + 1, congrArg Value.bool (by rw [HSN.out, HQK.out]; first | (simp; done) | simp [hneg]), by go_num, by have := HKG.out; omega, N1.out⟩
    · have hk : k = 5 := by omega
      subst hk
      have hnl : l.take 5 = l := List.take_of_length_le (by rw [HLEN.out]; exact Nat.le_refl _)
      rw [hnl, HQ.out]
      clear hnl
      have hbA : b < wr.heap.size := Nat.lt_of_lt_of_le hb HN.out.size
      have hcA := HC.out.new hb HN.out
      rw [← HL.out] at hcA
      have HCA := Lib.hid hcA
      have qc0 : wr.cell? ⟨b, off, none⟩ = some (.int .i64 c0) := hcA 0 _ rfl 0 _ rfl
      have qc2 : wr.cell? ⟨b, off + 2, none⟩ = some (.int .u32 c2) := hcA 0 _ rfl 2 _ rfl
      have qo0 : wr.cell? ⟨b, off + 6, none⟩ = some (.int .i64 o0) := hcA 1 _ rfl 0 _ rfl
      have qo2 : wr.cell? ⟨b, off + 6 + 2, none⟩ = some (.int .u32 o2) := hcA 1 _ rfl 2 _ rfl
      have qa0 : wr.cell? ⟨b, off + 12, none⟩ = some (.int .i64 x0) := hcA 2 _ rfl 0 _ rfl
      have qa1 : wr.cell? ⟨b, off + 12 + 1, none⟩ = some (.int .i64 x1) := hcA 2 _ rfl 1 _ rfl
      have qa2 : wr.cell? ⟨b, off + 12 + 2, none⟩ = some (.int .u32 x2) := hcA 2 _ rfl 2 _ rfl
      have qa3 : wr.cell? ⟨b, off + 12 + 3, none⟩ = some (.int .u32 x3) := hcA 2 _ rfl 3 _ rfl
      have qa4 : wr.cell? ⟨b, off + 12 + 4, none⟩ = some (.int .u32 x4) := hcA 2 _ rfl 4 _ rfl
      have qa5 : wr.cell? ⟨b, off + 12 + 5, none⟩ = some (.int .u32 x5) := hcA 2 _ rfl 5 _ rfl
      have qb0 : wr.cell? ⟨b, off + 18, none⟩ = some (.int .i64 y0) := hcA 3 _ rfl 0 _ rfl
      have qb1 : wr.cell? ⟨b, off + 18 + 1, none⟩ = some (.int .i64 y1) := hcA 3 _ rfl 1 _ rfl
      have qb2 : wr.cell? ⟨b, off + 18 + 2, none⟩ = some (.int .u32 y2) := hcA 3 _ rfl 2 _ rfl
      have qb3 : wr.cell? ⟨b, off + 18 + 3, none⟩ = some (.int .u32 y3) := hcA 3 _ rfl 3 _ rfl
      have qb4 : wr.cell? ⟨b, off + 18 + 4, none⟩ = some (.int .u32 y4) := hcA 3 _ rfl 4 _ rfl
      have qb5 : wr.cell? ⟨b, off + 18 + 5, none⟩ = some (.int .u32 y5) := hcA 3 _ rfl 5 _ rfl
      have qd2 : wr.cell? ⟨b, off + 24 + 2, none⟩ = some (.int .u32 z2) := hcA 4 _ rfl 2 _ rfl
      clear hcA
      have k16 : 16 ≤ c2 := by omega
      go_wp2
      all_goals
        refine bodyPost_ret (v := .tuple #[.slice none 0 0, .bool false]) (by simp [results, Try.results14, go_sem]) rfl ?_
        exact ⟨_, rfl, (fun h => nomatch h), fun _ => rfl, HN.out⟩
set_option maxRecDepth 100000 in
set_option maxHeartbeats 8000000 in
theorem rs_o (b off cap : Nat) (c0 c1 c2 c3 c4 c5 o0 o1 o2 o3 o4 o5 x0 x1 x2 x3 x4 x5 y0 y1 y2 y3 y4 y5 z0 z1 z2 z3 z4 z5 tmp : Int) (w : World) (hc : AtomsIn w b off [⟨c0, c1, c2, c3, c4, c5⟩, ⟨o0, o1, o2, o3, o4, o5⟩, ⟨x0, x1, x2, x3, x4, x5⟩, ⟨y0, y1, y2, y3, y4, y5⟩, ⟨z0, z1, z2, z3, z4, z5⟩]) (hb : b < w.heap.size) (ht0 : 0 ≤ tmp) (ht1 : tmp ≤ 4000) (hW : ∀ a ∈ [⟨c0, c1, c2, c3, c4, c5⟩, ⟨o0, o1, o2, o3, o4, o5⟩, ⟨x0, x1, x2, x3, x4, x5⟩, ⟨y0, y1, y2, y3, y4, y5⟩, ⟨z0, z1, z2, z3, z4, z5⟩], isW a = true) (hq : allNeg [⟨c0, c1, c2, c3, c4, c5⟩, ⟨o0, o1, o2, o3, o4, o5⟩, ⟨x0, x1, x2, x3, x4, x5⟩, ⟨y0, y1, y2, y3, y4, y5⟩, ⟨z0, z1, z2, z3, z4, z5⟩] = false) (n0 : c0 < 0) (k0 : 0 ≤ c2) (k1 : c2 < 14) (no : 0 ≤ o0) :
    Calls Try.prog 14 #[.slice (some ⟨b, off, none⟩) 5 cap, .int .i64 tmp] w (RfPost ([], false) w) := by
  have HC := Lib.hid hc
  obtain ⟨l, hl⟩ : ∃ l : List Atom, [⟨c0, c1, c2, c3, c4, c5⟩, ⟨o0, o1, o2, o3, o4, o5⟩, ⟨x0, x1, x2, x3, x4, x5⟩, ⟨y0, y1, y2, y3, y4, y5⟩, ⟨z0, z1, z2, z3, z4, z5⟩] = l := ⟨_, rfl⟩
  rw [hl] at HC hW hq
  have hlen : l.length = 5 := by rw [← hl]; rfl
  have HLEN := Lib.hid hlen
  have HL := Lib.hid hl
  have HWW := Lib.hid hW
  have HQ := Lib.hid hq
  clear hc hlen hl hW hq
  go_enter Try.func14, Try.ntmps14
  go_wp2_with fail
  go_loopg [6, 7] 5 (fun g f i w' => ∃ k : Nat, f = .bool (allNeg (l.take k)) ∧ i = .int .i64 k ∧ k + g = 5 ∧ New w w')
  case atStart => exact ⟨0, rfl, rfl, rfl, New.refl w⟩
  case round =>
    obtain ⟨k, rfl, rfl, hkg, hN⟩ := hrel
    have HN := Lib.hid hN
    have HKG := Lib.hid hkg
    clear hN hkg
    have hk5 : k ≤ 5 := by have := HKG.out; omega
    by_cases hlt : k < 5
    · obtain ⟨x, hx⟩ : ∃ x, l[k]? = some x := ⟨_, List.getElem?_eq_getElem (by rw [HLEN.out]; exact hlt)⟩
      have hts : l.take (k + 1) = l.take k ++ [x] := by rw [List.take_add_one, hx]; rfl
      have hsn : allNeg (l.take (k + 1)) = (allNeg (l.take k) && decide (x.tmp < 0)) := by rw [hts, allNeg_snoc]
      have HSN := Lib.hid hsn
      have hw1 : isW x = true := HWW.out x (List.mem_of_getElem? hx)
      have hcx := (HC.out.new hb HN.out) k x hx
      clear hx hts hsn
      obtain ⟨x0_, x1_, x2_, x3_, x4_, x5_⟩ := x
      have q0 : wr.cell? ⟨b, off + k * 6, none⟩ = some (.int .i64 x0_) := hcx 0 _ rfl
      have q1 : wr.cell? ⟨b, off + k * 6 + 1, none⟩ = some (.int .i64 x1_) := hcx 1 _ rfl
      have q2 : wr.cell? ⟨b, off + k * 6 + 2, none⟩ = some (.int .u32 x2_) := hcx 2 _ rfl
      have q3 : wr.cell? ⟨b, off + k * 6 + 3, none⟩ = some (.int .u32 x3_) := hcx 3 _ rfl
      have q4 : wr.cell? ⟨b, off + k * 6 + 4, none⟩ = some (.int .u32 x4_) := hcx 4 _ rfl
      have q5 : wr.cell? ⟨b, off + k * 6 + 5, none⟩ = some (.int .u32 x5_) := hcx 5 _ rfl
      have hz := HN.out.size
      have hbz : b < wr.heap.size := by omega
      have hk0 : (0 : Int) ≤ (k : Nat) := by omega
      have hk1 : ((k : Nat) : Int) < 5 := by omega
      clear hcx
      obtain ⟨qk, hqk⟩ : ∃ qk, allNeg (l.take k) = qk := ⟨_, rfl⟩
      rw [hqk]
      have hcI : ∀ w : World, Calls Try.prog 41 #[.agg #[.int .i64 x0_, .int .i64 x1_, .int .u32 x2_, .int .u32 x3_, .int .u32 x4_, .int .u32 x5_]] w fun e w' => e = .returned (.bool true) ∧ New w w' := fun w => by
        have h := isatom_c ⟨x0_, x1_, x2_, x3_, x4_, x5_⟩ w
        rw [hw1] at h
        exact h
      have HCI := Lib.hid hcI
      have HQK := Lib.hid hqk
      clear hcI hw1 hqk
      cases qk
      · go_wp2_with fail
        refine (HCI.out _).mono ?_
        rintro e w1 ⟨rfl, hb1⟩
        have N1 := Lib.hid (HN.out.trans (hb1.mono HN.out.size))
        clear hb1 q0 q1 q2 q3 q4 q5
        go_wp2
        go_roundg (gk - 1)
        case measure => have := HKG.out; omega
        case rel => exact ⟨k + 1, congrArg Value.bool (by rw [HSN.out, HQK.out]; rfl), by go_num, by have := HKG.out; omega, N1.out⟩
      · go_wp2_with fail
        refine (HCI.out _).mono ?_
        rintro e w1 ⟨rfl, hb1⟩
        have N1 := Lib.hid (HN.out.trans (hb1.mono HN.out.size))
        have y0 : w1.cell? ⟨b, off + k * 6, none⟩ = some (.int .i64 x0_) := (hb1.cell (p := ⟨b, off + k * 6, none⟩) hbz).trans q0
        have yl := Nat.lt_of_lt_of_le hbz hb1.size
        clear hb1 q0 q1 q2 q3 q4 q5
        by_cases hneg : x0_ < 0
        · go_wp2
          go_roundg (gk - 1)
          case measure => have := HKG.out; omega
          case rel => exact ⟨k + 1, congrArg Value.bool (by rw [HSN.out, HQK.out]; first | (simp; done) | simp [hneg]), by go_num, by have := HKG.out; omega, N1.out⟩
        · have hge : 0 ≤ x0_ := by omega
          go_wp2
          go_roundg (gk - 1)
          case measure => have := HKG.out; omega
          case rel => exact ⟨k + 1, congrArg Value.bool (by rw [HSN.out, HQK.out]; first | (simp; done) | simp [hneg]), by go_num, by have := HKG.out; omega, N1.out⟩
    · have hk : k = 5 := by omega
      subst hk
      have hnl : l.take 5 = l := List.take_of_length_le (by rw [HLEN.out]; exact Nat.le_refl _)
      rw [hnl, HQ.out]
      clear hnl
      have hbA : b < wr.heap.size := Nat.lt_of_lt_of_le hb HN.out.size
      have hcA := HC.out.new hb HN.out
      rw [← HL.out] at hcA
      have HCA := Lib.hid hcA
      have qc0 : wr.cell? ⟨b, off, none⟩ = some (.int .i64 c0) := hcA 0 _ rfl 0 _ rfl
      have qc2 : wr.cell? ⟨b, off + 2, none⟩ = some (.int .u32 c2) := hcA 0 _ rfl 2 _ rfl
      have qo0 : wr.cell? ⟨b, off + 6, none⟩ = some (.int .i64 o0) := hcA 1 _ rfl 0 _ rfl
      have qo2 : wr.cell? ⟨b, off + 6 + 2, none⟩ = some (.int .u32 o2) := hcA 1 _ rfl 2 _ rfl
      have qa0 : wr.cell? ⟨b, off + 12, none⟩ = some (.int .i64 x0) := hcA 2 _ rfl 0 _ rfl
      have qa1 : wr.cell? ⟨b, off + 12 + 1, none⟩ = some (.int .i64 x1) := hcA 2 _ rfl 1 _ rfl
      have qa2 : wr.cell? ⟨b, off + 12 + 2, none⟩ = some (.int .u32 x2) := hcA 2 _ rfl 2 _ rfl
      have qa3 : wr.cell? ⟨b, off + 12 + 3, none⟩ = some (.int .u32 x3) := hcA 2 _ rfl 3 _ rfl
      have qa4 : wr.cell? ⟨b, off + 12 + 4, none⟩ = some (.int .u32 x4) := hcA 2 _ rfl 4 _ rfl
      have qa5 : wr.cell? ⟨b, off + 12 + 5, none⟩ = some (.int .u32 x5) := hcA 2 _ rfl 5 _ rfl
      have qb0 : wr.cell? ⟨b, off + 18, none⟩ = some (.int .i64 y0) := hcA 3 _ rfl 0 _ rfl
      have qb1 : wr.cell? ⟨b, off + 18 + 1, none⟩ = some (.int .i64 y1) := hcA 3 _ rfl 1 _ rfl
      have qb2 : wr.cell? ⟨b, off + 18 + 2, none⟩ = some (.int .u32 y2) := hcA 3 _ rfl 2 _ rfl
      have qb3 : wr.cell? ⟨b, off + 18 + 3, none⟩ = some (.int .u32 y3) := hcA 3 _ rfl 3 _ rfl
      have qb4 : wr.cell? ⟨b, off + 18 + 4, none⟩ = some (.int .u32 y4) := hcA 3 _ rfl 4 _ rfl
      have qb5 : wr.cell? ⟨b, off + 18 + 5, none⟩ = some (.int .u32 y5) := hcA 3 _ rfl 5 _ rfl
      have qd2 : wr.cell? ⟨b, off + 24 + 2, none⟩ = some (.int .u32 z2) := hcA 4 _ rfl 2 _ rfl
      clear hcA
      have b14 : (c2 == 14) = false := by simp; omega
      have b15 : (c2 == 15) = false := by simp; omega
      have k16 : c2 < 16 := by omega
      go_wp2
      all_goals
        refine bodyPost_ret (v := .tuple #[.slice none 0 0, .bool false]) (by simp [results, Try.results14, go_sem]) rfl ?_
        exact ⟨_, rfl, (fun h => nomatch h), fun _ => rfl, HN.out⟩
set_option maxRecDepth 100000 in
set_option maxHeartbeats 8000000 in
theorem rs_14 (b off cap : Nat) (c0 c1 c2 c3 c4 c5 o0 o1 o2 o3 o4 o5 x0 x1 x2 x3 x4 x5 y0 y1 y2 y3 y4 y5 z0 z1 z2 z3 z4 z5 tmp : Int) (w : World) (hc : AtomsIn w b off [⟨c0, c1, c2, c3, c4, c5⟩, ⟨o0, o1, o2, o3, o4, o5⟩, ⟨x0, x1, x2, x3, x4, x5⟩, ⟨y0, y1, y2, y3, y4, y5⟩, ⟨z0, z1, z2, z3, z4, z5⟩]) (hb : b < w.heap.size) (ht0 : 0 ≤ tmp) (ht1 : tmp ≤ 4000) (hW : ∀ a ∈ [⟨c0, c1, c2, c3, c4, c5⟩, ⟨o0, o1, o2, o3, o4, o5⟩, ⟨x0, x1, x2, x3, x4, x5⟩, ⟨y0, y1, y2, y3, y4, y5⟩, ⟨z0, z1, z2, z3, z4, z5⟩], isW a = true) (hq : allNeg [⟨c0, c1, c2, c3, c4, c5⟩, ⟨o0, o1, o2, o3, o4, o5⟩, ⟨x0, x1, x2, x3, x4, x5⟩, ⟨y0, y1, y2, y3, y4, y5⟩, ⟨z0, z1, z2, z3, z4, z5⟩] = false) (n0 : c0 < 0) (k0 : c2 = 14) :
    Calls Try.prog 14 #[.slice (some ⟨b, off, none⟩) 5 cap, .int .i64 tmp] w (RfPost ([⟨1, 32, 0, 0, [wordA 1]⟩], true) w) := by
  have HC := Lib.hid hc
  obtain ⟨l, hl⟩ : ∃ l : List Atom, [⟨c0, c1, c2, c3, c4, c5⟩, ⟨o0, o1, o2, o3, o4, o5⟩, ⟨x0, x1, x2, x3, x4, x5⟩, ⟨y0, y1, y2, y3, y4, y5⟩, ⟨z0, z1, z2, z3, z4, z5⟩] = l := ⟨_, rfl⟩
  rw [hl] at HC hW hq
  have hlen : l.length = 5 := by rw [← hl]; rfl
  have HLEN := Lib.hid hlen
  have HL := Lib.hid hl
  have HWW := Lib.hid hW
  have HQ := Lib.hid hq
  clear hc hlen hl hW hq
  go_enter Try.func14, Try.ntmps14
  go_wp2_with fail
  go_loopg [6, 7] 5 (fun g f i w' => ∃ k : Nat, f = .bool (allNeg (l.take k)) ∧ i = .int .i64 k ∧ k + g = 5 ∧ New w w')
  case atStart => exact ⟨0, rfl, rfl, rfl, New.refl w⟩
  case round =>
    obtain ⟨k, rfl, rfl, hkg, hN⟩ := hrel
    have HN := Lib.hid hN
    have HKG := Lib.hid hkg
    clear hN hkg
    have hk5 : k ≤ 5 := by have := HKG.out; omega
    by_cases hlt : k < 5
    · obtain ⟨x, hx⟩ : ∃ x, l[k]? = some x := ⟨_, List.getElem?_eq_getElem (by rw [HLEN.out]; exact hlt)⟩
      have hts : l.take (k + 1) = l.take k ++ [x] := by rw [List.take_add_one, hx]; rfl
      have hsn : allNeg (l.take (k + 1)) = (allNeg (l.take k) && decide (x.tmp < 0)) := by rw [hts, allNeg_snoc]
      have HSN := Lib.hid hsn
      have hw1 : isW x = true := HWW.out x (List.mem_of_getElem? hx)
      have hcx := (HC.out.new hb HN.out) k x hx
      clear hx hts hsn
      obtain ⟨x0_, x1_, x2_, x3_, x4_, x5_⟩ := x
      have q0 : wr.cell? ⟨b, off + k * 6, none⟩ = some (.int .i64 x0_) := hcx 0 _ rfl
      have q1 : wr.cell? ⟨b, off + k * 6 + 1, none⟩ = some (.int .i64 x1_) := hcx 1 _ rfl
      have q2 : wr.cell? ⟨b, off + k * 6 + 2, none⟩ = some (.int .u32 x2_) := hcx 2 _ rfl
      have q3 : wr.cell? ⟨b, off + k * 6 + 3, none⟩ = some (.int .u32 x3_) := hcx 3 _ rfl
      have q4 : wr.cell? ⟨b, off + k * 6 + 4, none⟩ = some (.int .u32 x4_) := hcx 4 _ rfl
      have q5 : wr.cell? ⟨b, off + k * 6 + 5, none⟩ = some (.int .u32 x5_) := hcx 5 _ rfl
      have hz := HN.out.size
      have hbz : b < wr.heap.size := by omega
      have hk0 : (0 : Int) ≤ (k : Nat) := by omega
      have hk1 : ((k : Nat) : Int) < 5 := by omega
      clear hcx
      obtain ⟨qk, hqk⟩ : ∃ qk, allNeg (l.take k) = qk := ⟨_, rfl⟩
      rw [hqk]
      have hcI : ∀ w : World, Calls Try.prog 41 #[.agg #[.int .i64 x0_, .int .i64 x1_, .int .u32 x2_, .int .u32 x3_, .int .u32 x4_, .int .u32 x5_]] w fun e w' => e = .returned (.bool true) ∧ New w w' := fun w => by
        have h := isatom_c ⟨x0_, x1_, x2_, x3_, x4_, x5_⟩ w
        rw [hw1] at h
        exact h
      have HCI := Lib.hid hcI
      have HQK := Lib.hid hqk
      clear hcI hw1 hqk
      cases qk
      · go_wp2_with fail
        refine (HCI.out _).mono ?_
        rintro e w1 ⟨rfl, hb1⟩
        have N1 := Lib.hid (HN.out.trans (hb1.mono HN.out.size))
        clear hb1 q0 q1 q2 q3 q4 q5
        go_wp2
        go_roundg (gk - 1)
        case measure => have := HKG.out; omega
        case rel => exact ⟨k + 1, congrArg Value.bool (by rw [HSN.out, HQK.out]; rfl), by go_num, by have := HKG.out; omega, N1.out⟩
      · go_wp2_with fail
        refine (HCI.out _).mono ?_
        rintro e w1 ⟨rfl, hb1⟩
        have N1 := Lib.hid (HN.out.trans (hb1.mono HN.out.size))
        have y0 : w1.cell? ⟨b, off + k * 6, none⟩ = some (.int .i64 x0_) := (hb1.cell (p := ⟨b, off + k * 6, none⟩) hbz).trans q0
        have yl := Nat.lt_of_lt_of_le hbz hb1.size
        clear hb1 q0 q1 q2 q3 q4 q5
        by_cases hneg : x0_ < 0
        · go_wp2
          go_roundg (gk - 1)
          case measure => have := HKG.out; omega
          case rel => exact ⟨k + 1, congrArg Value.bool (by rw [HSN.out, HQK.out]; first | (simp; done) | simp [hneg]), by go_num, by have := HKG.out; omega, N1.out⟩
        · have hge : 0 ≤ x0_ := by omega
          go_wp2
          go_roundg (gk - 1)
          case measure => have := HKG.out; omega
          case rel => exact ⟨k + 1, congrArg Value.bool (by rw [HSN.out, HQK.out]; first | (simp; done) | simp [hneg]), by go_num, by have := HKG.out; omega, N1.out⟩
    · have hk : k = 5 := by omega
      subst hk
      have hnl : l.take 5 = l := List.take_of_length_le (by rw [HLEN.out]; exact Nat.le_refl _)
      rw [hnl, HQ.out]
      clear hnl
      have hbA : b < wr.heap.size := Nat.lt_of_lt_of_le hb HN.out.size
      have hcA := HC.out.new hb HN.out
      rw [← HL.out] at hcA
      have HCA := Lib.hid hcA
      have qc0 : wr.cell? ⟨b, off, none⟩ = some (.int .i64 c0) := hcA 0 _ rfl 0 _ rfl
      have qc2 : wr.cell? ⟨b, off + 2, none⟩ = some (.int .u32 c2) := hcA 0 _ rfl 2 _ rfl
      have qo0 : wr.cell? ⟨b, off + 6, none⟩ = some (.int .i64 o0) := hcA 1 _ rfl 0 _ rfl
      have qo2 : wr.cell? ⟨b, off + 6 + 2, none⟩ = some (.int .u32 o2) := hcA 1 _ rfl 2 _ rfl
      have qa0 : wr.cell? ⟨b, off + 12, none⟩ = some (.int .i64 x0) := hcA 2 _ rfl 0 _ rfl
      have qa1 : wr.cell? ⟨b, off + 12 + 1, none⟩ = some (.int .i64 x1) := hcA 2 _ rfl 1 _ rfl
      have qa2 : wr.cell? ⟨b, off + 12 + 2, none⟩ = some (.int .u32 x2) := hcA 2 _ rfl 2 _ rfl
      have qa3 : wr.cell? ⟨b, off + 12 + 3, none⟩ = some (.int .u32 x3) := hcA 2 _ rfl 3 _ rfl
      have qa4 : wr.cell? ⟨b, off + 12 + 4, none⟩ = some (.int .u32 x4) := hcA 2 _ rfl 4 _ rfl
      have qa5 : wr.cell? ⟨b, off + 12 + 5, none⟩ = some (.int .u32 x5) := hcA 2 _ rfl 5 _ rfl
      have qb0 : wr.cell? ⟨b, off + 18, none⟩ = some (.int .i64 y0) := hcA 3 _ rfl 0 _ rfl
      have qb1 : wr.cell? ⟨b, off + 18 + 1, none⟩ = some (.int .i64 y1) := hcA 3 _ rfl 1 _ rfl
      have qb2 : wr.cell? ⟨b, off + 18 + 2, none⟩ = some (.int .u32 y2) := hcA 3 _ rfl 2 _ rfl
      have qb3 : wr.cell? ⟨b, off + 18 + 3, none⟩ = some (.int .u32 y3) := hcA 3 _ rfl 3 _ rfl
      have qb4 : wr.cell? ⟨b, off + 18 + 4, none⟩ = some (.int .u32 y4) := hcA 3 _ rfl 4 _ rfl
      have qb5 : wr.cell? ⟨b, off + 18 + 5, none⟩ = some (.int .u32 y5) := hcA 3 _ rfl 5 _ rfl
      have qd2 : wr.cell? ⟨b, off + 24 + 2, none⟩ = some (.int .u32 z2) := hcA 4 _ rfl 2 _ rfl
      clear hcA
      subst k0
      go_wp2_with fail
      refine (constant_c true _).mono ?_
      rintro e w5 ⟨g, rfl, hr, hbn⟩
      have X := Lib.hid (show RfPost ([⟨1, 32, 0, 0, [wordA 1]⟩], true) w (.returned (.tuple #[.slice (some ⟨g, 0, none⟩) 1 1, .bool true])) w5 from ⟨_, rfl, fun _ => ⟨_, 1, rfl, hr⟩, (fun h => nomatch h), HN.out.trans (hbn.mono HN.out.size)⟩)
      clear hr hbn
      go_wp2
      refine bodyPost_ret (v := .tuple #[.slice (some ⟨g, 0, none⟩) 1 1, .bool true]) (by simp [results, Try.results14, go_sem]) rfl ?_
      exact X.out
set_option maxRecDepth 100000 in
set_option maxHeartbeats 8000000 in
theorem rs_15 (b off cap : Nat) (c0 c1 c2 c3 c4 c5 o0 o1 o2 o3 o4 o5 x0 x1 x2 x3 x4 x5 y0 y1 y2 y3 y4 y5 z0 z1 z2 z3 z4 z5 tmp : Int) (w : World) (hc : AtomsIn w b off [⟨c0, c1, c2, c3, c4, c5⟩, ⟨o0, o1, o2, o3, o4, o5⟩, ⟨x0, x1, x2, x3, x4, x5⟩, ⟨y0, y1, y2, y3, y4, y5⟩, ⟨z0, z1, z2, z3, z4, z5⟩]) (hb : b < w.heap.size) (ht0 : 0 ≤ tmp) (ht1 : tmp ≤ 4000) (hW : ∀ a ∈ [⟨c0, c1, c2, c3, c4, c5⟩, ⟨o0, o1, o2, o3, o4, o5⟩, ⟨x0, x1, x2, x3, x4, x5⟩, ⟨y0, y1, y2, y3, y4, y5⟩, ⟨z0, z1, z2, z3, z4, z5⟩], isW a = true) (hq : allNeg [⟨c0, c1, c2, c3, c4, c5⟩, ⟨o0, o1, o2, o3, o4, o5⟩, ⟨x0, x1, x2, x3, x4, x5⟩, ⟨y0, y1, y2, y3, y4, y5⟩, ⟨z0, z1, z2, z3, z4, z5⟩] = false) (n0 : c0 < 0) (k0 : c2 = 15) :
    Calls Try.prog 14 #[.slice (some ⟨b, off, none⟩) 5 cap, .int .i64 tmp] w (RfPost ([⟨1, 32, 0, 0, [wordA 0]⟩], true) w) := by
  have HC := Lib.hid hc
  obtain ⟨l, hl⟩ : ∃ l : List Atom, [⟨c0, c1, c2, c3, c4, c5⟩, ⟨o0, o1, o2, o3, o4, o5⟩, ⟨x0, x1, x2, x3, x4, x5⟩, ⟨y0, y1, y2, y3, y4, y5⟩, ⟨z0, z1, z2, z3, z4, z5⟩] = l := ⟨_, rfl⟩
  rw [hl] at HC hW hq
  have hlen : l.length = 5 := by rw [← hl]; rfl
  have HLEN := Lib.hid hlen
  have HL := Lib.hid hl
  have HWW := Lib.hid hW
  have HQ := Lib.hid hq
  clear hc hlen hl hW hq
  go_enter Try.func14, Try.ntmps14
  go_wp2_with fail
  go_loopg [6, 7] 5 (fun g f i w' => ∃ k : Nat, f = .bool (allNeg (l.take k)) ∧ i = .int .i64 k ∧ k + g = 5 ∧ New w w')
  case atStart => exact ⟨0, rfl, rfl, rfl, New.refl w⟩
  case round =>
    obtain ⟨k, rfl, rfl, hkg, hN⟩ := hrel
    have HN := Lib.hid hN
    have HKG := Lib.hid hkg
    clear hN hkg
    have hk5 : k ≤ 5 := by have := HKG.out; omega
    by_cases hlt : k < 5
    · obtain ⟨x, hx⟩ : ∃ x, l[k]? = some x := ⟨_, List.getElem?_eq_getElem (by rw [HLEN.out]; exact hlt)⟩
      have hts : l.take (k + 1) = l.take k ++ [x] := by rw [List.take_add_one, hx]; rfl
      have hsn : allNeg (l.take (k + 1)) = (allNeg (l.take k) && decide (x.tmp < 0)) := by rw [hts, allNeg_snoc]
      have HSN := Lib.hid hsn
      have hw1 : isW x = true := HWW.out x (List.mem_of_getElem? hx)
      have hcx := (HC.out.new hb HN.out) k x hx
      clear hx hts hsn
      obtain ⟨x0_, x1_, x2_, x3_, x4_, x5_⟩ := x
      have q0 : wr.cell? ⟨b, off + k * 6, none⟩ = some (.int .i64 x0_) := hcx 0 _ rfl
      have q1 : wr.cell? ⟨b, off + k * 6 + 1, none⟩ = some (.int .i64 x1_) := hcx 1 _ rfl
      have q2 : wr.cell? ⟨b, off + k * 6 + 2, none⟩ = some (.int .u32 x2_) := hcx 2 _ rfl
      have q3 : wr.cell? ⟨b, off + k * 6 + 3, none⟩ = some (.int .u32 x3_) := hcx 3 _ rfl
      have q4 : wr.cell? ⟨b, off + k * 6 + 4, none⟩ = some (.int .u32 x4_) := hcx 4 _ rfl
      have q5 : wr.cell? ⟨b, off + k * 6 + 5, none⟩ = some (.int .u32 x5_) := hcx 5 _ rfl
      have hz := HN.out.size
      have hbz : b < wr.heap.size := by omega
      have hk0 : (0 : Int) ≤ (k : Nat) := by omega
      have hk1 : ((k : Nat) : Int) < 5 := by omega
      clear hcx
      obtain ⟨qk, hqk⟩ : ∃ qk, allNeg (l.take k) = qk := ⟨_, rfl⟩
      rw [hqk]
      have hcI : ∀ w : World, Calls Try.prog 41 #[.agg #[.int .i64 x0_, .int .i64 x1_, .int .u32 x2_, .int .u32 x3_, .int .u32 x4_, .int .u32 x5_]] w fun e w' => e = .returned (.bool true) ∧ New w w' := fun w => by
        have h := isatom_c ⟨x0_, x1_, x2_, x3_, x4_, x5_⟩ w
        rw [hw1] at h
        exact h
      have HCI := Lib.hid hcI
      have HQK := Lib.hid hqk
      clear hcI hw1 hqk
      cases qk
      · go_wp2_with fail
        refine (HCI.out _).mono ?_
        rintro e w1 ⟨rfl, hb1⟩
        have N1 := Lib.hid (HN.out.trans (hb1.mono HN.out.size))
        clear hb1 q0 q1 q2 q3 q4 q5
        go_wp2
        go_roundg (gk - 1)
        case measure => have := HKG.out; omega
        case rel => exact ⟨k + 1, congrArg Value.bool (by rw [HSN.out, HQK.out]; rfl), by go_num, by have := HKG.out; omega, N1.out⟩
      · go_wp2_with fail
        refine (HCI.out _).mono ?_
        rintro e w1 ⟨rfl, hb1⟩
        have N1 := Lib.hid (HN.out.trans (hb1.mono HN.out.size))
        have y0 : w1.cell? ⟨b, off + k * 6, none⟩ = some (.int .i64 x0_) := (hb1.cell (p := ⟨b, off + k * 6, none⟩) hbz).trans q0
        have yl := Nat.lt_of_lt_of_le hbz hb1.size
        clear hb1 q0 q1 q2 q3 q4 q5
        by_cases hneg : x0_ < 0
        · go_wp2
          go_roundg (gk - 1)
          case measure => have := HKG.out; omega
          case rel => exact ⟨k + 1, congrArg Value.bool (by rw [HSN.out, HQK.out]; first | (simp; done) | simp [hneg]), by go_num, by have := HKG.out; omega, N1.out⟩
        · have hge : 0 ≤ x0_ := by omega
          go_wp2
          go_roundg (gk - 1)
          case measure => have := HKG.out; omega
          case rel => exact ⟨k + 1, congrArg Value.bool (by rw [HSN.out, HQK.out]; first | (simp; done) | simp [hneg]), by go_num, by have := HKG.out; omega, N1.out⟩
    · have hk : k = 5 := by omega
      subst hk
      have hnl : l.take 5 = l := List.take_of_length_le (by rw [HLEN.out]; exact Nat.le_refl _)
      rw [hnl, HQ.out]
      clear hnl
      have hbA : b < wr.heap.size := Nat.lt_of_lt_of_le hb HN.out.size
      have hcA := HC.out.new hb HN.out
      rw [← HL.out] at hcA
      have HCA := Lib.hid hcA
      have qc0 : wr.cell? ⟨b, off, none⟩ = some (.int .i64 c0) := hcA 0 _ rfl 0 _ rfl
      have qc2 : wr.cell? ⟨b, off + 2, none⟩ = some (.int .u32 c2) := hcA 0 _ rfl 2 _ rfl
      have qo0 : wr.cell? ⟨b, off + 6, none⟩ = some (.int .i64 o0) := hcA 1 _ rfl 0 _ rfl
      have qo2 : wr.cell? ⟨b, off + 6 + 2, none⟩ = some (.int .u32 o2) := hcA 1 _ rfl 2 _ rfl
      have qa0 : wr.cell? ⟨b, off + 12, none⟩ = some (.int .i64 x0) := hcA 2 _ rfl 0 _ rfl
      have qa1 : wr.cell? ⟨b, off + 12 + 1, none⟩ = some (.int .i64 x1) := hcA 2 _ rfl 1 _ rfl
      have qa2 : wr.cell? ⟨b, off + 12 + 2, none⟩ = some (.int .u32 x2) := hcA 2 _ rfl 2 _ rfl
      have qa3 : wr.cell? ⟨b, off + 12 + 3, none⟩ = some (.int .u32 x3) := hcA 2 _ rfl 3 _ rfl
      have qa4 : wr.cell? ⟨b, off + 12 + 4, none⟩ = some (.int .u32 x4) := hcA 2 _ rfl 4 _ rfl
      have qa5 : wr.cell? ⟨b, off + 12 + 5, none⟩ = some (.int .u32 x5) := hcA 2 _ rfl 5 _ rfl
      have qb0 : wr.cell? ⟨b, off + 18, none⟩ = some (.int .i64 y0) := hcA 3 _ rfl 0 _ rfl
      have qb1 : wr.cell? ⟨b, off + 18 + 1, none⟩ = some (.int .i64 y1) := hcA 3 _ rfl 1 _ rfl
      have qb2 : wr.cell? ⟨b, off + 18 + 2, none⟩ = some (.int .u32 y2) := hcA 3 _ rfl 2 _ rfl
      have qb3 : wr.cell? ⟨b, off + 18 + 3, none⟩ = some (.int .u32 y3) := hcA 3 _ rfl 3 _ rfl
      have qb4 : wr.cell? ⟨b, off + 18 + 4, none⟩ = some (.int .u32 y4) := hcA 3 _ rfl 4 _ rfl
      have qb5 : wr.cell? ⟨b, off + 18 + 5, none⟩ = some (.int .u32 y5) := hcA 3 _ rfl 5 _ rfl
      have qd2 : wr.cell? ⟨b, off + 24 + 2, none⟩ = some (.int .u32 z2) := hcA 4 _ rfl 2 _ rfl
      clear hcA
      subst k0
      go_wp2_with fail
      refine (constant_c false _).mono ?_
      rintro e w5 ⟨g, rfl, hr, hbn⟩
      have X := Lib.hid (show RfPost ([⟨1, 32, 0, 0, [wordA 0]⟩], true) w (.returned (.tuple #[.slice (some ⟨g, 0, none⟩) 1 1, .bool true])) w5 from ⟨_, rfl, fun _ => ⟨_, 1, rfl, hr⟩, (fun h => nomatch h), HN.out.trans (hbn.mono HN.out.size)⟩)
      clear hr hbn
      go_wp2
      refine bodyPost_ret (v := .tuple #[.slice (some ⟨g, 0, none⟩) 1 1, .bool true]) (by simp [results, Try.results14, go_sem]) rfl ?_
      exact X.out
set_option maxRecDepth 100000 in
set_option maxHeartbeats 8000000 in
theorem rs_all (b off cap : Nat) (c0 c1 c2 c3 c4 c5 o0 o1 o2 o3 o4 o5 x0 x1 x2 x3 x4 x5 y0 y1 y2 y3 y4 y5 z0 z1 z2 z3 z4 z5 tmp : Int) (w : World) (hc : AtomsIn w b off [⟨c0, c1, c2, c3, c4, c5⟩, ⟨o0, o1, o2, o3, o4, o5⟩, ⟨x0, x1, x2, x3, x4, x5⟩, ⟨y0, y1, y2, y3, y4, y5⟩, ⟨z0, z1, z2, z3, z4, z5⟩]) (hb : b < w.heap.size) (ht0 : 0 ≤ tmp) (ht1 : tmp ≤ 4000) (hW : ∀ a ∈ [⟨c0, c1, c2, c3, c4, c5⟩, ⟨o0, o1, o2, o3, o4, o5⟩, ⟨x0, x1, x2, x3, x4, x5⟩, ⟨y0, y1, y2, y3, y4, y5⟩, ⟨z0, z1, z2, z3, z4, z5⟩], isW a = true) (hq : allNeg [⟨c0, c1, c2, c3, c4, c5⟩, ⟨o0, o1, o2, o3, o4, o5⟩, ⟨x0, x1, x2, x3, x4, x5⟩, ⟨y0, y1, y2, y3, y4, y5⟩, ⟨z0, z1, z2, z3, z4, z5⟩] = true) (n0 : c0 < 0) (k0 : 0 ≤ c2) (ko : 0 ≤ o2 ∧ o2 < 4294967296) (ka : 0 ≤ x2 ∧ x2 < 4294967296) (kb : 0 ≤ y2 ∧ y2 < 4294967296) (kd : 0 ≤ z2 ∧ z2 < 4294967296) (k1 : c2 < 16) (cw : Int) (hcw : cw = if condF c2 o2 x2 y2 z2 = true then 1 else 0) :
    Calls Try.prog 14 #[.slice (some ⟨b, off, none⟩) 5 cap, .int .i64 tmp] w (RfPost ([⟨1, 32, 0, 0, [wordA cw]⟩], true) w) := by
  have HC := Lib.hid hc
  obtain ⟨l, hl⟩ : ∃ l : List Atom, [⟨c0, c1, c2, c3, c4, c5⟩, ⟨o0, o1, o2, o3, o4, o5⟩, ⟨x0, x1, x2, x3, x4, x5⟩, ⟨y0, y1, y2, y3, y4, y5⟩, ⟨z0, z1, z2, z3, z4, z5⟩] = l := ⟨_, rfl⟩
  rw [hl] at HC hW hq
  have hlen : l.length = 5 := by rw [← hl]; rfl
  have HLEN := Lib.hid hlen
  have HL := Lib.hid hl
  have HWW := Lib.hid hW
  have HQ := Lib.hid hq
  clear hc hlen hl hW hq
  have HCW := Lib.hid hcw
  clear hcw
  go_enter Try.func14, Try.ntmps14
  go_wp2_with fail
  go_loopg [6, 7] 5 (fun g f i w' => ∃ k : Nat, f = .bool (allNeg (l.take k)) ∧ i = .int .i64 k ∧ k + g = 5 ∧ New w w')
  case atStart => exact ⟨0, rfl, rfl, rfl, New.refl w⟩
  case round =>
    obtain ⟨k, rfl, rfl, hkg, hN⟩ := hrel
    have HN := Lib.hid hN
    have HKG := Lib.hid hkg
    clear hN hkg
    have hk5 : k ≤ 5 := by have := HKG.out; omega
    by_cases hlt : k < 5
    · obtain ⟨x, hx⟩ : ∃ x, l[k]? = some x := ⟨_, List.getElem?_eq_getElem (by rw [HLEN.out]; exact hlt)⟩
      have hts : l.take (k + 1) = l.take k ++ [x] := by rw [List.take_add_one, hx]; rfl
      have hsn : allNeg (l.take (k + 1)) = (allNeg (l.take k) && decide (x.tmp < 0)) := by rw [hts, allNeg_snoc]
      have HSN := Lib.hid hsn
      have hw1 : isW x = true := HWW.out x (List.mem_of_getElem? hx)
      have hcx := (HC.out.new hb HN.out) k x hx
      clear hx hts hsn
      obtain ⟨x0_, x1_, x2_, x3_, x4_, x5_⟩ := x
      have q0 : wr.cell? ⟨b, off + k * 6, none⟩ = some (.int .i64 x0_) := hcx 0 _ rfl
      have q1 : wr.cell? ⟨b, off + k * 6 + 1, none⟩ = some (.int .i64 x1_) := hcx 1 _ rfl
      have q2 : wr.cell? ⟨b, off + k * 6 + 2, none⟩ = some (.int .u32 x2_) := hcx 2 _ rfl
      have q3 : wr.cell? ⟨b, off + k * 6 + 3, none⟩ = some (.int .u32 x3_) := hcx 3 _ rfl
      have q4 : wr.cell? ⟨b, off + k * 6 + 4, none⟩ = some (.int .u32 x4_) := hcx 4 _ rfl
      have q5 : wr.cell? ⟨b, off + k * 6 + 5, none⟩ = some (.int .u32 x5_) := hcx 5 _ rfl
      have hz := HN.out.size
      have hbz : b < wr.heap.size := by omega
      have hk0 : (0 : Int) ≤ (k : Nat) := by omega
      have hk1 : ((k : Nat) : Int) < 5 := by omega
      clear hcx
      obtain ⟨qk, hqk⟩ : ∃ qk, allNeg (l.take k) = qk := ⟨_, rfl⟩
      rw [hqk]
      have hcI : ∀ w : World, Calls Try.prog 41 #[.agg #[.int .i64 x0_, .int .i64 x1_, .int .u32 x2_, .int .u32 x3_, .int .u32 x4_, .int .u32 x5_]] w fun e w' => e = .returned (.bool true) ∧ New w w' := fun w => by
        have h := isatom_c ⟨x0_, x1_, x2_, x3_, x4_, x5_⟩ w
        rw [hw1] at h
        exact h
      have HCI := Lib.hid hcI
      have HQK := Lib.hid hqk
      clear hcI hw1 hqk
      cases qk
      · go_wp2_with fail
        refine (HCI.out _).mono ?_
        rintro e w1 ⟨rfl, hb1⟩
        have N1 := Lib.hid (HN.out.trans (hb1.mono HN.out.size))
        clear hb1 q0 q1 q2 q3 q4 q5
        go_wp2
        go_roundg (gk - 1)
        case measure => have := HKG.out; omega
        case rel => exact ⟨k + 1, congrArg Value.bool (by rw [HSN.out, HQK.out]; rfl), by go_num, by have := HKG.out; omega, N1.out⟩
      · go_wp2_with fail
        refine (HCI.out _).mono ?_
        rintro e w1 ⟨rfl, hb1⟩
        have N1 := Lib.hid (HN.out.trans (hb1.mono HN.out.size))
        have y0 : w1.cell? ⟨b, off + k * 6, none⟩ = some (.int .i64 x0_) := (hb1.cell (p := ⟨b, off + k * 6, none⟩) hbz).trans q0
        have yl := Nat.lt_of_lt_of_le hbz hb1.size
        clear hb1 q0 q1 q2 q3 q4 q5
        by_cases hneg : x0_ < 0
        · go_wp2
          go_roundg (gk - 1)
          case measure => have := HKG.out; omega
          case rel => exact ⟨k + 1, congrArg Value.bool (by rw [HSN.out, HQK.out]; first | (simp; done) | simp [hneg]), by go_num, by have := HKG.out; omega, N1.out⟩
        · have hge : 0 ≤ x0_ := by omega
          go_wp2
          go_roundg (gk - 1)
          case measure => have := HKG.out; omega
          case rel => exact ⟨k + 1, congrArg Value.bool (by rw [HSN.out, HQK.out]; first | (simp; done) | simp [hneg]), by go_num, by have := HKG.out; omega, N1.out⟩
    · have hk : k = 5 := by omega
      subst hk
      have hnl : l.take 5 = l := List.take_of_length_le (by rw [HLEN.out]; exact Nat.le_refl _)
      rw [hnl, HQ.out]
      clear hnl
      have hbA : b < wr.heap.size := Nat.lt_of_lt_of_le hb HN.out.size
      have hcA := HC.out.new hb HN.out
      rw [← HL.out] at hcA
      have HCA := Lib.hid hcA
      have qc0 : wr.cell? ⟨b, off, none⟩ = some (.int .i64 c0) := hcA 0 _ rfl 0 _ rfl
      have qc2 : wr.cell? ⟨b, off + 2, none⟩ = some (.int .u32 c2) := hcA 0 _ rfl 2 _ rfl
      have qo0 : wr.cell? ⟨b, off + 6, none⟩ = some (.int .i64 o0) := hcA 1 _ rfl 0 _ rfl
      have qo2 : wr.cell? ⟨b, off + 6 + 2, none⟩ = some (.int .u32 o2) := hcA 1 _ rfl 2 _ rfl
      have qa0 : wr.cell? ⟨b, off + 12, none⟩ = some (.int .i64 x0) := hcA 2 _ rfl 0 _ rfl
      have qa1 : wr.cell? ⟨b, off + 12 + 1, none⟩ = some (.int .i64 x1) := hcA 2 _ rfl 1 _ rfl
      have qa2 : wr.cell? ⟨b, off + 12 + 2, none⟩ = some (.int .u32 x2) := hcA 2 _ rfl 2 _ rfl
      have qa3 : wr.cell? ⟨b, off + 12 + 3, none⟩ = some (.int .u32 x3) := hcA 2 _ rfl 3 _ rfl
      have qa4 : wr.cell? ⟨b, off + 12 + 4, none⟩ = some (.int .u32 x4) := hcA 2 _ rfl 4 _ rfl
      have qa5 : wr.cell? ⟨b, off + 12 + 5, none⟩ = some (.int .u32 x5) := hcA 2 _ rfl 5 _ rfl
      have qb0 : wr.cell? ⟨b, off + 18, none⟩ = some (.int .i64 y0) := hcA 3 _ rfl 0 _ rfl
      have qb1 : wr.cell? ⟨b, off + 18 + 1, none⟩ = some (.int .i64 y1) := hcA 3 _ rfl 1 _ rfl
      have qb2 : wr.cell? ⟨b, off + 18 + 2, none⟩ = some (.int .u32 y2) := hcA 3 _ rfl 2 _ rfl
      have qb3 : wr.cell? ⟨b, off + 18 + 3, none⟩ = some (.int .u32 y3) := hcA 3 _ rfl 3 _ rfl
      have qb4 : wr.cell? ⟨b, off + 18 + 4, none⟩ = some (.int .u32 y4) := hcA 3 _ rfl 4 _ rfl
      have qb5 : wr.cell? ⟨b, off + 18 + 5, none⟩ = some (.int .u32 y5) := hcA 3 _ rfl 5 _ rfl
      have qd2 : wr.cell? ⟨b, off + 24 + 2, none⟩ = some (.int .u32 z2) := hcA 4 _ rfl 2 _ rfl
      clear hcA
      obtain ⟨cv, hcv⟩ : ∃ cv, condF c2 o2 x2 y2 z2 = cv := ⟨_, rfl⟩
      have c1 : ∀ w : World, Calls Try.prog 28 #[.int .i64 c2, .int .u32 o2, .int .u32 x2, .int .u32 y2, .int .u32 z2] w fun e w' => e = .returned (.bool cv) ∧ w = w' := fun w => by
        have h := rcond_c c2 o2 x2 y2 z2 w ko.1 ko.2 ka.1 ka.2 kb.1 kb.2 kd.1 kd.2
        rw [hcv] at h
        exact h
      have C1 := Lib.hid c1
      clear c1
      have HCV := Lib.hid hcv
      clear hcv
      go_upto_region 16 with (fail)
      go_region_held3 (fun w' => w'.cell? ⟨b, off + 6 + 2, none⟩ = some (.int .u32 o2) ∧ w'.cell? ⟨b, off + 12 + 2, none⟩ = some (.int .u32 x2) ∧ w'.cell? ⟨b, off + 18 + 2, none⟩ = some (.int .u32 y2) ∧ w'.cell? ⟨b, off + 24 + 2, none⟩ = some (.int .u32 z2) ∧ b < w'.heap.size ∧ New w w') (((try dsimp only); (repeat' apply And.intro) <;> (first | assumption | (go_keep; done) | (exact HN.out.drew) | (go_grown; done))))
        (first | (go_at_call 28; (with_reducible refine (C1.out _).mono ?_); rintro e ux ⟨rfl, rfl⟩) | (go_at_call 42; refine (constant_c cv _).mono ?_; rintro e u2 ⟨g, rfl, hr, hbn⟩; have hH := ‹_ ∧ _ ∧ _ ∧ _ ∧ _ ∧ _›; have R2 := Lib.hid hr; have N2 := Lib.hid (hH.2.2.2.2.2.trans (hbn.mono hH.2.2.2.2.2.size)); have l2 := Nat.lt_of_lt_of_le hH.2.2.2.2.1 hbn.size; have e2o := (hbn.cell (p := ⟨b, off + 6 + 2, none⟩) hH.2.2.2.2.1).trans hH.1; have e2a := (hbn.cell (p := ⟨b, off + 12 + 2, none⟩) hH.2.2.2.2.1).trans hH.2.1; have e2b := (hbn.cell (p := ⟨b, off + 18 + 2, none⟩) hH.2.2.2.2.1).trans hH.2.2.1; have e2d := (hbn.cell (p := ⟨b, off + 24 + 2, none⟩) hH.2.2.2.2.1).trans hH.2.2.2.1; have n2 := N2.out; clear hH hr hbn))
      go_wp2
      refine bodyPost_ret (v := .tuple #[.slice (some ⟨g, 0, none⟩) 1 1, .bool true]) (by simp [results, Try.results14, go_sem]) rfl ?_
      have hcw2 := HCW.out
      rw [HCV.out] at hcw2
      subst hcw2
      exact ⟨_, rfl, fun _ => ⟨_, 1, rfl, R2.out⟩, (fun h => nomatch h), N2.out⟩
set_option maxRecDepth 100000 in
set_option maxHeartbeats 8000000 in
theorem rs_allx (b off cap : Nat) (c0 c1 c2 c3 c4 c5 o0 o1 o2 o3 o4 o5 x0 x1 x2 x3 x4 x5 y0 y1 y2 y3 y4 y5 z0 z1 z2 z3 z4 z5 tmp : Int) (w : World) (hc : AtomsIn w b off [⟨c0, c1, c2, c3, c4, c5⟩, ⟨o0, o1, o2, o3, o4, o5⟩, ⟨x0, x1, x2, x3, x4, x5⟩, ⟨y0, y1, y2, y3, y4, y5⟩, ⟨z0, z1, z2, z3, z4, z5⟩]) (hb : b < w.heap.size) (ht0 : 0 ≤ tmp) (ht1 : tmp ≤ 4000) (hW : ∀ a ∈ [⟨c0, c1, c2, c3, c4, c5⟩, ⟨o0, o1, o2, o3, o4, o5⟩, ⟨x0, x1, x2, x3, x4, x5⟩, ⟨y0, y1, y2, y3, y4, y5⟩, ⟨z0, z1, z2, z3, z4, z5⟩], isW a = true) (hq : allNeg [⟨c0, c1, c2, c3, c4, c5⟩, ⟨o0, o1, o2, o3, o4, o5⟩, ⟨x0, x1, x2, x3, x4, x5⟩, ⟨y0, y1, y2, y3, y4, y5⟩, ⟨z0, z1, z2, z3, z4, z5⟩] = true) (n0 : c0 < 0) (k0 : 0 ≤ c2) (ko : 0 ≤ o2 ∧ o2 < 4294967296) (ka : 0 ≤ x2 ∧ x2 < 4294967296) (kb : 0 ≤ y2 ∧ y2 < 4294967296) (kd : 0 ≤ z2 ∧ z2 < 4294967296) (k1 : 16 ≤ c2) (cw : Int) (hcw : cw = if condF 16 o2 x2 y2 z2 = true then 1 else 0) :
    Calls Try.prog 14 #[.slice (some ⟨b, off, none⟩) 5 cap, .int .i64 tmp] w (RfPost ([⟨1, 32, 0, 0, [wordA cw]⟩], true) w) := by
  have HC := Lib.hid hc
  obtain ⟨l, hl⟩ : ∃ l : List Atom, [⟨c0, c1, c2, c3, c4, c5⟩, ⟨o0, o1, o2, o3, o4, o5⟩, ⟨x0, x1, x2, x3, x4, x5⟩, ⟨y0, y1, y2, y3, y4, y5⟩, ⟨z0, z1, z2, z3, z4, z5⟩] = l := ⟨_, rfl⟩
  rw [hl] at HC hW hq
  have hlen : l.length = 5 := by rw [← hl]; rfl
  have HLEN := Lib.hid hlen
  have HL := Lib.hid hl
  have HWW := Lib.hid hW
  have HQ := Lib.hid hq
  clear hc hlen hl hW hq
  have HCW := Lib.hid hcw
  clear hcw
  go_enter Try.func14, Try.ntmps14
  go_wp2_with fail
  go_loopg [6, 7] 5 (fun g f i w' => ∃ k : Nat, f = .bool (allNeg (l.take k)) ∧ i = .int .i64 k ∧ k + g = 5 ∧ New w w')
  case atStart => exact ⟨0, rfl, rfl, rfl, New.refl w⟩
  case round =>
    obtain ⟨k, rfl, rfl, hkg, hN⟩ := hrel
    have HN := Lib.hid hN
    have HKG := Lib.hid hkg
    clear hN hkg
    have hk5 : k ≤ 5 := by have := HKG.out; omega
    by_cases hlt : k < 5
    · obtain ⟨x, hx⟩ : ∃ x, l[k]? = some x := ⟨_, List.getElem?_eq_getElem (by rw [HLEN.out]; exact hlt)⟩
      have hts : l.take (k + 1) = l.take k ++ [x] := by rw [List.take_add_one, hx]; rfl
      have hsn : allNeg (l.take (k + 1)) = (allNeg (l.take k) && decide (x.tmp < 0)) := by rw [hts, allNeg_snoc]
      have HSN := Lib.hid hsn
      have hw1 : isW x = true := HWW.out x (List.mem_of_getElem? hx)
      have hcx := (HC.out.new hb HN.out) k x hx
      clear hx hts hsn
      obtain ⟨x0_, x1_, x2_, x3_, x4_, x5_⟩ := x
      have q0 : wr.cell? ⟨b, off + k * 6, none⟩ = some (.int .i64 x0_) := hcx 0 _ rfl
      have q1 : wr.cell? ⟨b, off + k * 6 + 1, none⟩ = some (.int .i64 x1_) := hcx 1 _ rfl
      have q2 : wr.cell? ⟨b, off + k * 6 + 2, none⟩ = some (.int .u32 x2_) := hcx 2 _ rfl
      have q3 : wr.cell? ⟨b, off + k * 6 + 3, none⟩ = some (.int .u32 x3_) := hcx 3 _ rfl
      have q4 : wr.cell? ⟨b, off + k * 6 + 4, none⟩ = some (.int .u32 x4_) := hcx 4 _ rfl
      have q5 : wr.cell? ⟨b, off + k * 6 + 5, none⟩ = some (.int .u32 x5_) := hcx 5 _ rfl
      have hz := HN.out.size
      have hbz : b < wr.heap.size := by omega
      have hk0 : (0 : Int) ≤ (k : Nat) := by omega
      have hk1 : ((k : Nat) : Int) < 5 := by omega
      clear hcx
      obtain ⟨qk, hqk⟩ : ∃ qk, allNeg (l.take k) = qk := ⟨_, rfl⟩
      rw [hqk]
      have hcI : ∀ w : World, Calls Try.prog 41 #[.agg #[.int .i64 x0_, .int .i64 x1_, .int .u32 x2_, .int .u32 x3_, .int .u32 x4_, .int .u32 x5_]] w fun e w' => e = .returned (.bool true) ∧ New w w' := fun w => by
        have h := isatom_c ⟨x0_, x1_, x2_, x3_, x4_, x5_⟩ w
        rw [hw1] at h
        exact h
      have HCI := Lib.hid hcI
      have HQK := Lib.hid hqk
      clear hcI hw1 hqk
      cases qk
      · go_wp2_with fail
        refine (HCI.out _).mono ?_
        rintro e w1 ⟨rfl, hb1⟩
        have N1 := Lib.hid (HN.out.trans (hb1.mono HN.out.size))
        clear hb1 q0 q1 q2 q3 q4 q5
        go_wp2
        go_roundg (gk - 1)
        case measure => have := HKG.out; omega
        case rel => exact ⟨k + 1, congrArg Value.bool (by rw [HSN.out, HQK.out]; rfl), by go_num, by have := HKG.out; omega, N1.out⟩
      · go_wp2_with fail
        refine (HCI.out _).mono ?_
        rintro e w1 ⟨rfl, hb1⟩
        have N1 := Lib.hid (HN.out.trans (hb1.mono HN.out.size))
        have y0 : w1.cell? ⟨b, off + k * 6, none⟩ = some (.int .i64 x0_) := (hb1.cell (p := ⟨b, off + k * 6, none⟩) hbz).trans q0
        have yl := Nat.lt_of_lt_of_le hbz hb1.size
        clear hb1 q0 q1 q2 q3 q4 q5
        by_cases hneg : x0_ < 0
        · go_wp2
          go_roundg (gk - 1)
          case measure => have := HKG.out; omega
          case rel => exact ⟨k + 1, congrArg Value.bool (by rw [HSN.out, HQK.out]; first | (simp; done) | simp [hneg]), by go_num, by have := HKG.out; omega, N1.out⟩
        · have hge : 0 ≤ x0_ := by omega
          go_wp2
          go_roundg (gk - 1)
          case measure => have := HKG.out; omega
          case rel => exact ⟨k + 1, congrArg Value.bool (by rw [HSN.out, HQK.out]; first | (simp; done) | simp [hneg]), by go_num, by have := HKG.out; omega, N1.out⟩
    · have hk : k = 5 := by omega
      subst hk
      have hnl : l.take 5 = l := List.take_of_length_le (by rw [HLEN.out]; exact Nat.le_refl _)
      rw [hnl, HQ.out]
      clear hnl
      have hbA : b < wr.heap.size := Nat.lt_of_lt_of_le hb HN.out.size
      have hcA := HC.out.new hb HN.out
      rw [← HL.out] at hcA
      have HCA := Lib.hid hcA
      have qc0 : wr.cell? ⟨b, off, none⟩ = some (.int .i64 c0) := hcA 0 _ rfl 0 _ rfl
      have qc2 : wr.cell? ⟨b, off + 2, none⟩ = some (.int .u32 c2) := hcA 0 _ rfl 2 _ rfl
      have qo0 : wr.cell? ⟨b, off + 6, none⟩ = some (.int .i64 o0) := hcA 1 _ rfl 0 _ rfl
      have qo2 : wr.cell? ⟨b, off + 6 + 2, none⟩ = some (.int .u32 o2) := hcA 1 _ rfl 2 _ rfl
      have qa0 : wr.cell? ⟨b, off + 12, none⟩ = some (.int .i64 x0) := hcA 2 _ rfl 0 _ rfl
      have qa1 : wr.cell? ⟨b, off + 12 + 1, none⟩ = some (.int .i64 x1) := hcA 2 _ rfl 1 _ rfl
      have qa2 : wr.cell? ⟨b, off + 12 + 2, none⟩ = some (.int .u32 x2) := hcA 2 _ rfl 2 _ rfl
      have qa3 : wr.cell? ⟨b, off + 12 + 3, none⟩ = some (.int .u32 x3) := hcA 2 _ rfl 3 _ rfl
      have qa4 : wr.cell? ⟨b, off + 12 + 4, none⟩ = some (.int .u32 x4) := hcA 2 _ rfl 4 _ rfl
      have qa5 : wr.cell? ⟨b, off + 12 + 5, none⟩ = some (.int .u32 x5) := hcA 2 _ rfl 5 _ rfl
      have qb0 : wr.cell? ⟨b, off + 18, none⟩ = some (.int .i64 y0) := hcA 3 _ rfl 0 _ rfl
      have qb1 : wr.cell? ⟨b, off + 18 + 1, none⟩ = some (.int .i64 y1) := hcA 3 _ rfl 1 _ rfl
      have qb2 : wr.cell? ⟨b, off + 18 + 2, none⟩ = some (.int .u32 y2) := hcA 3 _ rfl 2 _ rfl
      have qb3 : wr.cell? ⟨b, off + 18 + 3, none⟩ = some (.int .u32 y3) := hcA 3 _ rfl 3 _ rfl
      have qb4 : wr.cell? ⟨b, off + 18 + 4, none⟩ = some (.int .u32 y4) := hcA 3 _ rfl 4 _ rfl
      have qb5 : wr.cell? ⟨b, off + 18 + 5, none⟩ = some (.int .u32 y5) := hcA 3 _ rfl 5 _ rfl
      have qd2 : wr.cell? ⟨b, off + 24 + 2, none⟩ = some (.int .u32 z2) := hcA 4 _ rfl 2 _ rfl
      clear hcA
      obtain ⟨cv, hcv⟩ : ∃ cv, condF 16 o2 x2 y2 z2 = cv := ⟨_, rfl⟩
      have c1 : ∀ w : World, Calls Try.prog 28 #[.int .i64 16, .int .u32 o2, .int .u32 x2, .int .u32 y2, .int .u32 z2] w fun e w' => e = .returned (.bool cv) ∧ w = w' := fun w => by
        have h := rcond_c 16 o2 x2 y2 z2 w ko.1 ko.2 ka.1 ka.2 kb.1 kb.2 kd.1 kd.2
        rw [hcv] at h
        exact h
      have C1 := Lib.hid c1
      clear c1
      have HCV := Lib.hid hcv
      clear hcv
      go_upto_region 16 with (fail)
      go_region_held3 (fun w' => w'.cell? ⟨b, off + 6 + 2, none⟩ = some (.int .u32 o2) ∧ w'.cell? ⟨b, off + 12 + 2, none⟩ = some (.int .u32 x2) ∧ w'.cell? ⟨b, off + 18 + 2, none⟩ = some (.int .u32 y2) ∧ w'.cell? ⟨b, off + 24 + 2, none⟩ = some (.int .u32 z2) ∧ b < w'.heap.size ∧ New w w') (((try dsimp only); (repeat' apply And.intro) <;> (first | assumption | (go_keep; done) | (exact HN.out.drew) | (go_grown; done))))
        (first | (go_at_call 28; (with_reducible refine (C1.out _).mono ?_); rintro e ux ⟨rfl, rfl⟩) | (go_at_call 42; refine (constant_c cv _).mono ?_; rintro e u2 ⟨g, rfl, hr, hbn⟩; have hH := ‹_ ∧ _ ∧ _ ∧ _ ∧ _ ∧ _›; have R2 := Lib.hid hr; have N2 := Lib.hid (hH.2.2.2.2.2.trans (hbn.mono hH.2.2.2.2.2.size)); have l2 := Nat.lt_of_lt_of_le hH.2.2.2.2.1 hbn.size; have e2o := (hbn.cell (p := ⟨b, off + 6 + 2, none⟩) hH.2.2.2.2.1).trans hH.1; have e2a := (hbn.cell (p := ⟨b, off + 12 + 2, none⟩) hH.2.2.2.2.1).trans hH.2.1; have e2b := (hbn.cell (p := ⟨b, off + 18 + 2, none⟩) hH.2.2.2.2.1).trans hH.2.2.1; have e2d := (hbn.cell (p := ⟨b, off + 24 + 2, none⟩) hH.2.2.2.2.1).trans hH.2.2.2.1; have n2 := N2.out; clear hH hr hbn))
      go_wp2
      refine bodyPost_ret (v := .tuple #[.slice (some ⟨g, 0, none⟩) 1 1, .bool true]) (by simp [results, Try.results14, go_sem]) rfl ?_
      have hcw2 := HCW.out
      rw [HCV.out] at hcw2
      subst hcw2
      exact ⟨_, rfl, fun _ => ⟨_, 1, rfl, R2.out⟩, (fun h => nomatch h), N2.out⟩
end Go.Proofs.Ytmkjgkldbonpnaa
