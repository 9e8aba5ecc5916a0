/- The specification's Simplify, for all lists of atoms. -/
import Derived.Test.YtmkjgkldbonpnaaWRefS4b
import Derived.Test.YtmkjgkldbonpnaaWRefS4c
import Derived.Test.YtmkjgkldbonpnaaWRefS4d
import Derived.Test.YtmkjgkldbonpnaaWRefS4e
import Derived.Test.YtmkjgkldbonpnaaWRefS4f
import Derived.Test.YtmkjgkldbonpnaaWRefS4g0
import Derived.Test.YtmkjgkldbonpnaaWRefS4g1
import Derived.Test.YtmkjgkldbonpnaaWRefS4g4
import Derived.Test.YtmkjgkldbonpnaaWRefS4g5
import Derived.Test.YtmkjgkldbonpnaaWRefS4h
namespace Go.Proofs.Ytmkjgkldbonpnaa
open Go Go.RowKit Go.Cd
set_option linter.unusedVariables false
attribute [local go_sem ↓] Go.wp_at_zero Go.wp_at_succ
set_option maxRecDepth 100000 in
set_option maxHeartbeats 8000000 in
theorem rs_bad (b off cap : Nat) (c0 c1 c2 c3 c4 c5 o0 o1 o2 o3 o4 o5 x0 x1 x2 x3 x4 x5 y0 y1 y2 y3 y4 y5 z0 z1 z2 z3 z4 z5 tmp : Int) (w : World) (hc : AtomsIn w b off [⟨c0, c1, c2, c3, c4, c5⟩, ⟨o0, o1, o2, o3, o4, o5⟩, ⟨x0, x1, x2, x3, x4, x5⟩, ⟨y0, y1, y2, y3, y4, y5⟩, ⟨z0, z1, z2, z3, z4, z5⟩]) (hb : b < w.heap.size) (ht0 : 0 ≤ tmp) (ht1 : tmp ≤ 4000) (hW : ¬ ∀ a ∈ [⟨c0, c1, c2, c3, c4, c5⟩, ⟨o0, o1, o2, o3, o4, o5⟩, ⟨x0, x1, x2, x3, x4, x5⟩, ⟨y0, y1, y2, y3, y4, y5⟩, ⟨z0, z1, z2, z3, z4, z5⟩], isW a = true) :
    Calls Try.prog 14 #[.slice (some ⟨b, off, none⟩) 5 cap, .int .i64 tmp] w (RfPost ([], false) w) := by
  have HC := Lib.hid hc
  obtain ⟨l, hl⟩ : ∃ l : List Atom, [⟨c0, c1, c2, c3, c4, c5⟩, ⟨o0, o1, o2, o3, o4, o5⟩, ⟨x0, x1, x2, x3, x4, x5⟩, ⟨y0, y1, y2, y3, y4, y5⟩, ⟨z0, z1, z2, z3, z4, z5⟩] = l := ⟨_, rfl⟩
  rw [hl] at HC hW
  have hlen : l.length = 5 := by rw [← hl]; rfl
  have HLEN := Lib.hid hlen
  have HL := Lib.hid hl
  have HWW := Lib.hid hW
  clear hc hlen hl hW
  go_enter Try.func14, Try.ntmps14
  go_wp2_with fail
  go_loopg [6, 7] 5 (fun g f i w' => ∃ k : Nat, f = .bool (allNeg (l.take k)) ∧ i = .int .i64 k ∧ k + g = 5 ∧ (∀ a ∈ l.take k, isW a = true) ∧ New w w')
  case atStart => exact ⟨0, rfl, rfl, rfl, by simp, New.refl w⟩
  case round =>
    obtain ⟨k, rfl, rfl, hkg, hall, hN⟩ := hrel
    have HALL := Lib.hid hall
    clear hall
    have HN := Lib.hid hN
    have HKG := Lib.hid hkg
    clear hN hkg
    have hk5 : k ≤ 5 := by have := HKG.out; omega
    by_cases hlt : k < 5
    · obtain ⟨x, hx⟩ : ∃ x, l[k]? = some x := ⟨_, List.getElem?_eq_getElem (by rw [HLEN.out]; exact hlt)⟩
      have hts : l.take (k + 1) = l.take k ++ [x] := by rw [List.take_add_one, hx]; rfl
      have hsn : allNeg (l.take (k + 1)) = (allNeg (l.take k) && decide (x.tmp < 0)) := by rw [hts, allNeg_snoc]
      have HSN := Lib.hid hsn
      have HTS := Lib.hid hts
      have hcx := (HC.out.new hb HN.out) k x hx
      clear hx hts hsn
      obtain ⟨x0_, x1_, x2_, x3_, x4_, x5_⟩ := x
      have q0 : wr.cell? ⟨b, off + k * 6, none⟩ = some (.int .i64 x0_) := hcx 0 _ rfl
      have q1 : wr.cell? ⟨b, off + k * 6 + 1, none⟩ = some (.int .i64 x1_) := hcx 1 _ rfl
      have q2 : wr.cell? ⟨b, off + k * 6 + 2, none⟩ = some (.int .u32 x2_) := hcx 2 _ rfl
      have q3 : wr.cell? ⟨b, off + k * 6 + 3, none⟩ = some (.int .u32 x3_) := hcx 3 _ rfl
      have q4 : wr.cell? ⟨b, off + k * 6 + 4, none⟩ = some (.int .u32 x4_) := hcx 4 _ rfl
      have q5 : wr.cell? ⟨b, off + k * 6 + 5, none⟩ = some (.int .u32 x5_) := hcx 5 _ rfl
      have hz := HN.out.size
      have hbz : b < wr.heap.size := by omega
      have hk0 : (0 : Int) ≤ (k : Nat) := by omega
      have hk1 : ((k : Nat) : Int) < 5 := by omega
      clear hcx
      obtain ⟨qk, hqk⟩ : ∃ qk, allNeg (l.take k) = qk := ⟨_, rfl⟩
      rw [hqk]
      obtain ⟨qw, hqw⟩ : ∃ qw, isW ⟨x0_, x1_, x2_, x3_, x4_, x5_⟩ = qw := ⟨_, rfl⟩
      have hcI : ∀ w : World, Calls Try.prog 41 #[.agg #[.int .i64 x0_, .int .i64 x1_, .int .u32 x2_, .int .u32 x3_, .int .u32 x4_, .int .u32 x5_]] w fun e w' => e = .returned (.bool qw) ∧ New w w' := fun w => by
        have h := isatom_c ⟨x0_, x1_, x2_, x3_, x4_, x5_⟩ w
        rw [hqw] at h
        exact h
      have HCI := Lib.hid hcI
      have HQK := Lib.hid hqk
      have HQW := Lib.hid hqw
      clear hcI hqw hqk
      cases qw
      · go_wp2_with fail
        refine (HCI.out _).mono ?_
        rintro e w1 ⟨rfl, hb1⟩
        have N1 := Lib.hid (HN.out.trans (hb1.mono HN.out.size))
        have y0 : w1.cell? ⟨b, off + k * 6, none⟩ = some (.int .i64 x0_) := (hb1.cell (p := ⟨b, off + k * 6, none⟩) hbz).trans q0
        have yl := Nat.lt_of_lt_of_le hbz hb1.size
        clear hb1 q0 q1 q2 q3 q4 q5
        go_wp2
        refine bodyPost_ret (v := .tuple #[.slice none 0 0, .bool false]) (by simp [results, Try.results14, go_sem]) rfl ?_
        exact ⟨_, rfl, (fun h => nomatch h), fun _ => rfl, N1.out⟩
      · cases qk
        · go_wp2_with fail
          refine (HCI.out _).mono ?_
          rintro e w1 ⟨rfl, hb1⟩
          have N1 := Lib.hid (HN.out.trans (hb1.mono HN.out.size))
          have y0 : w1.cell? ⟨b, off + k * 6, none⟩ = some (.int .i64 x0_) := (hb1.cell (p := ⟨b, off + k * 6, none⟩) hbz).trans q0
          have yl := Nat.lt_of_lt_of_le hbz hb1.size
          clear hb1 q0 q1 q2 q3 q4 q5
          go_wp2
          go_roundg (gk - 1)
          case measure => have := HKG.out; omega
          case rel =>
            refine ⟨k + 1, congrArg Value.bool (by rw [HSN.out, HQK.out]; first | rfl | (simp; done) | simp [hneg]), by go_num, by have := HKG.out; omega, ?_, N1.out⟩
            rw [HTS.out]
            intro a ha
            rcases List.mem_append.1 ha with ha | ha
            · exact HALL.out a ha
            · rw [List.mem_singleton.1 ha]; exact HQW.out
        · by_cases hneg : x0_ < 0
          · go_wp2_with fail
            refine (HCI.out _).mono ?_
            rintro e w1 ⟨rfl, hb1⟩
            have N1 := Lib.hid (HN.out.trans (hb1.mono HN.out.size))
            have y0 : w1.cell? ⟨b, off + k * 6, none⟩ = some (.int .i64 x0_) := (hb1.cell (p := ⟨b, off + k * 6, none⟩) hbz).trans q0
            have yl := Nat.lt_of_lt_of_le hbz hb1.size
            clear hb1 q0 q1 q2 q3 q4 q5
            go_wp2
            go_roundg (gk - 1)
            case measure => have := HKG.out; omega
            case rel =>
              refine ⟨k + 1, congrArg Value.bool (by rw [HSN.out, HQK.out]; first | rfl | (simp; done) | simp [hneg]), by go_num, by have := HKG.out; omega, ?_, N1.out⟩
              rw [HTS.out]
              intro a ha
              rcases List.mem_append.1 ha with ha | ha
              · exact HALL.out a ha
              · rw [List.mem_singleton.1 ha]; exact HQW.out
          · have hge : 0 ≤ x0_ := by omega
            go_wp2_with fail
            refine (HCI.out _).mono ?_
            rintro e w1 ⟨rfl, hb1⟩
            have N1 := Lib.hid (HN.out.trans (hb1.mono HN.out.size))
            have y0 : w1.cell? ⟨b, off + k * 6, none⟩ = some (.int .i64 x0_) := (hb1.cell (p := ⟨b, off + k * 6, none⟩) hbz).trans q0
            have yl := Nat.lt_of_lt_of_le hbz hb1.size
            clear hb1 q0 q1 q2 q3 q4 q5
            go_wp2
            go_roundg (gk - 1)
            case measure => have := HKG.out; omega
            case rel =>
              refine ⟨k + 1, congrArg Value.bool (by rw [HSN.out, HQK.out]; first | rfl | (simp; done) | simp [hneg]), by go_num, by have := HKG.out; omega, ?_, N1.out⟩
              rw [HTS.out]
              intro a ha
              rcases List.mem_append.1 ha with ha | ha
              · exact HALL.out a ha
              · rw [List.mem_singleton.1 ha]; exact HQW.out
    · have hk : k = 5 := by omega
      subst hk
      have hnl : l.take 5 = l := List.take_of_length_le (by rw [HLEN.out]; exact Nat.le_refl _)
      rw [hnl] at HALL
      exact absurd HALL.out HWW.out
set_option maxRecDepth 100000 in
set_option maxHeartbeats 1000000 in
theorem rs_len (p : Option Addr) (n cap : Nat) (tmp : Int) (w : World) (h : n ≠ 5) :
    Calls Try.prog 14 #[.slice p n cap, .int .i64 tmp] w fun e w' => e = .returned (.tuple #[.slice none 0 0, .bool false]) ∧ New w w' := by
  have h1 : (((n : Nat) : Int) != 5) = true := by simp; omega
  go_enter Try.func14, Try.ntmps14
  go_wp2
  exact bodyPost_ret (v := .tuple #[.slice none 0 0, .bool false]) (by simp [results, Try.results14, go_sem]) rfl ⟨rfl, New.refl _⟩
set_option maxRecDepth 100000 in
set_option maxHeartbeats 1000000 in
theorem rs_lo (p : Option Addr) (n cap : Nat) (tmp : Int) (w : World) (h : tmp < 0) :
    Calls Try.prog 14 #[.slice p 5 cap, .int .i64 tmp] w fun e w' => e = .returned (.tuple #[.slice none 0 0, .bool false]) ∧ New w w' := by
  go_enter Try.func14, Try.ntmps14
  go_wp2
  exact bodyPost_ret (v := .tuple #[.slice none 0 0, .bool false]) (by simp [results, Try.results14, go_sem]) rfl ⟨rfl, New.refl _⟩
set_option maxRecDepth 100000 in
set_option maxHeartbeats 1000000 in
theorem rs_hi (p : Option Addr) (n cap : Nat) (tmp : Int) (w : World) (h : 4000 < tmp) :
    Calls Try.prog 14 #[.slice p 5 cap, .int .i64 tmp] w fun e w' => e = .returned (.tuple #[.slice none 0 0, .bool false]) ∧ New w w' := by
  have h0 : 0 ≤ tmp := by omega
  go_enter Try.func14, Try.ntmps14
  go_wp2
  exact bodyPost_ret (v := .tuple #[.slice none 0 0, .bool false]) (by simp [results, Try.results14, go_sem]) rfl ⟨rfl, New.refl _⟩
theorem rs_six (b off cap : Nat) (c0 c1 c3 c4 c5 o0 o1 o2 o3 o4 o5 x0 x1 x2 x3 x4 x5 y0 y1 y2 y3 y4 y5 z0 z1 z2 z3 z4 z5 tmp : Int) (w : World) (i : Nat) (hc : AtomsIn w b off [⟨c0, c1, ((i : Nat) : Int), c3, c4, c5⟩, ⟨o0, o1, o2, o3, o4, o5⟩, ⟨x0, x1, x2, x3, x4, x5⟩, ⟨y0, y1, y2, y3, y4, y5⟩, ⟨z0, z1, z2, z3, z4, z5⟩]) (hb : b < w.heap.size) (ht0 : 0 ≤ tmp) (ht1 : tmp ≤ 4000) (hW : ∀ a ∈ [⟨c0, c1, ((i : Nat) : Int), c3, c4, c5⟩, ⟨o0, o1, o2, o3, o4, o5⟩, ⟨x0, x1, x2, x3, x4, x5⟩, ⟨y0, y1, y2, y3, y4, y5⟩, ⟨z0, z1, z2, z3, z4, z5⟩], isW a = true) (hq : allNeg [⟨c0, c1, ((i : Nat) : Int), c3, c4, c5⟩, ⟨o0, o1, o2, o3, o4, o5⟩, ⟨x0, x1, x2, x3, x4, x5⟩, ⟨y0, y1, y2, y3, y4, y5⟩, ⟨z0, z1, z2, z3, z4, z5⟩] = false) (hi : i < 14) (n0 : c0 < 0) (no : o0 < 0) (ko : 0 ≤ o2) :
    Calls Try.prog 14 #[.slice (some ⟨b, off, none⟩) 5 cap, .int .i64 tmp] w (RfPost (if (simpL i o2 ⟨x0, x1, x2, x3, x4, x5⟩ ⟨y0, y1, y2, y3, y4, y5⟩ tmp).2 = true then simpL i o2 ⟨x0, x1, x2, x3, x4, x5⟩ ⟨y0, y1, y2, y3, y4, y5⟩ tmp else ([], false)) w) := by
  have e0 : tmp + ((0 : Nat) : Int) = tmp := by simp
  have ho : o2 = 0 ∨ o2 = 1 ∨ o2 = 2 ∨ o2 = 3 ∨ o2 = 4 ∨ o2 = 5 ∨ o2 = 6 ∨ 6 < o2 := by omega
  have hx : i = 0 ∨ i = 1 ∨ i = 2 ∨ i = 3 ∨ i = 4 ∨ i = 5 ∨ i = 6 ∨ i = 7 ∨ i = 8 ∨ i = 9 ∨ i = 10 ∨ i = 11 ∨ i = 12 ∨ i = 13 := by omega
  rcases ho with rfl | rfl | rfl | rfl | rfl | rfl | rfl | ho
  · by_cases h7 : i ≤ 7
    · have e : (if (simpL i 0 ⟨x0, x1, x2, x3, x4, x5⟩ ⟨y0, y1, y2, y3, y4, y5⟩ tmp).2 = true then simpL i 0 ⟨x0, x1, x2, x3, x4, x5⟩ ⟨y0, y1, y2, y3, y4, y5⟩ tmp else ([], false)) = (copyE i ⟨x0, x1, x2, x3, x4, x5⟩ tmp 0, true) := by
        have e1 : simpL i 0 ⟨x0, x1, x2, x3, x4, x5⟩ ⟨y0, y1, y2, y3, y4, y5⟩ tmp = (copyE i ⟨x0, x1, x2, x3, x4, x5⟩ tmp 0, true) := by unfold simpL; rw [if_neg (fun q => absurd q.1 (by decide)), if_neg (by decide), if_pos rfl, if_pos h7]
        rw [e1]; rfl
      rw [e]
      exact rs_copy b off cap c0 c1 _ c3 c4 c5 o0 o1 0 o3 o4 o5 x0 x1 x2 x3 x4 x5 y0 y1 y2 y3 y4 y5 z0 z1 z2 z3 z4 z5 tmp w hc hb ht0 ht1 hW hq i rfl hi n0 no rfl h7
    · have e : (if (simpL i 0 ⟨x0, x1, x2, x3, x4, x5⟩ ⟨y0, y1, y2, y3, y4, y5⟩ tmp).2 = true then simpL i 0 ⟨x0, x1, x2, x3, x4, x5⟩ ⟨y0, y1, y2, y3, y4, y5⟩ tmp else ([], false)) = ([], false) := by
        have e1 : simpL i 0 ⟨x0, x1, x2, x3, x4, x5⟩ ⟨y0, y1, y2, y3, y4, y5⟩ tmp = ([], false) := by unfold simpL; rw [if_neg (fun q => absurd q.1 (by decide)), if_neg (by decide), if_pos rfl, if_neg h7]
        rw [e1]; rfl
      rw [e]
      exact rs_copyx b off cap c0 c1 _ c3 c4 c5 o0 o1 0 o3 o4 o5 x0 x1 x2 x3 x4 x5 y0 y1 y2 y3 y4 y5 z0 z1 z2 z3 z4 z5 tmp w hc hb ht0 ht1 hW hq i rfl hi n0 no rfl (by omega)
  · rcases hx with rfl | rfl | rfl | rfl | rfl | rfl | rfl | rfl | rfl | rfl | rfl | rfl | rfl | rfl
    · have e : (if (simpL 0 1 ⟨x0, x1, x2, x3, x4, x5⟩ ⟨y0, y1, y2, y3, y4, y5⟩ tmp).2 = true then simpL 0 1 ⟨x0, x1, x2, x3, x4, x5⟩ ⟨y0, y1, y2, y3, y4, y5⟩ tmp else ([], false)) = ([⟨4, 32, 1, 0, [⟨x0, x1, x2, x3, x4, x5⟩, ⟨y0, y1, y2, y3, y4, y5⟩]⟩, ⟨4, 1, 14, 0, [(tmpA tmp), (wordA 0)]⟩, ⟨3, 32, 2, 0, [tmpA (tmp + 1)]⟩], true) := by
        rfl
      rw [e]
      exact rs_G0_1 b off cap c0 c1 _ c3 c4 c5 o0 o1 1 o3 o4 o5 x0 x1 x2 x3 x4 x5 y0 y1 y2 y3 y4 y5 z0 z1 z2 z3 z4 z5 tmp w hc hb ht0 ht1 hW hq _ rfl hi n0 no rfl rfl
    · have e : (if (simpL 1 1 ⟨x0, x1, x2, x3, x4, x5⟩ ⟨y0, y1, y2, y3, y4, y5⟩ tmp).2 = true then simpL 1 1 ⟨x0, x1, x2, x3, x4, x5⟩ ⟨y0, y1, y2, y3, y4, y5⟩ tmp else ([], false)) = ([⟨4, 32, 1, 0, [⟨x0, x1, x2, x3, x4, x5⟩, ⟨y0, y1, y2, y3, y4, y5⟩]⟩, ⟨4, 1, 15, 0, [(tmpA tmp), (wordA 0)]⟩, ⟨3, 32, 2, 0, [tmpA (tmp + 1)]⟩], true) := by
        rfl
      rw [e]
      exact rs_G1_1 b off cap c0 c1 _ c3 c4 c5 o0 o1 1 o3 o4 o5 x0 x1 x2 x3 x4 x5 y0 y1 y2 y3 y4 y5 z0 z1 z2 z3 z4 z5 tmp w hc hb ht0 ht1 hW hq _ rfl hi n0 no rfl rfl
    · have e : (if (simpL 2 1 ⟨x0, x1, x2, x3, x4, x5⟩ ⟨y0, y1, y2, y3, y4, y5⟩ tmp).2 = true then simpL 2 1 ⟨x0, x1, x2, x3, x4, x5⟩ ⟨y0, y1, y2, y3, y4, y5⟩ tmp else ([], false)) = ([⟨4, 32, 1, 0, [⟨x0, x1, x2, x3, x4, x5⟩, ⟨y0, y1, y2, y3, y4, y5⟩]⟩, ⟨4, 1, 16, 0, [(tmpA tmp), ⟨x0, x1, x2, x3, x4, x5⟩]⟩, ⟨3, 32, 2, 0, [tmpA (tmp + 1)]⟩], true) := by
        rfl
      rw [e]
      exact rs_add2 b off cap c0 c1 _ c3 c4 c5 o0 o1 1 o3 o4 o5 x0 x1 x2 x3 x4 x5 y0 y1 y2 y3 y4 y5 z0 z1 z2 z3 z4 z5 tmp w hc hb ht0 ht1 hW hq _ rfl hi n0 no rfl rfl
    · have e : (if (simpL 3 1 ⟨x0, x1, x2, x3, x4, x5⟩ ⟨y0, y1, y2, y3, y4, y5⟩ tmp).2 = true then simpL 3 1 ⟨x0, x1, x2, x3, x4, x5⟩ ⟨y0, y1, y2, y3, y4, y5⟩ tmp else ([], false)) = ([⟨4, 32, 1, 0, [⟨x0, x1, x2, x3, x4, x5⟩, ⟨y0, y1, y2, y3, y4, y5⟩]⟩, ⟨4, 1, 18, 0, [⟨x0, x1, x2, x3, x4, x5⟩, (tmpA tmp)]⟩, ⟨3, 32, 2, 0, [tmpA (tmp + 1)]⟩], true) := by
        rfl
      rw [e]
      exact rs_add3 b off cap c0 c1 _ c3 c4 c5 o0 o1 1 o3 o4 o5 x0 x1 x2 x3 x4 x5 y0 y1 y2 y3 y4 y5 z0 z1 z2 z3 z4 z5 tmp w hc hb ht0 ht1 hW hq _ rfl hi n0 no rfl rfl
    · have e : (if (simpL 4 1 ⟨x0, x1, x2, x3, x4, x5⟩ ⟨y0, y1, y2, y3, y4, y5⟩ tmp).2 = true then simpL 4 1 ⟨x0, x1, x2, x3, x4, x5⟩ ⟨y0, y1, y2, y3, y4, y5⟩ tmp else ([], false)) = ([⟨4, 32, 1, 0, [⟨x0, x1, x2, x3, x4, x5⟩, ⟨y0, y1, y2, y3, y4, y5⟩]⟩, ⟨4, 1, 17, 0, [(tmpA tmp), (wordA 0)]⟩, ⟨3, 32, 2, 0, [tmpA (tmp + 1)]⟩], true) := by
        rfl
      rw [e]
      exact rs_G4_1 b off cap c0 c1 _ c3 c4 c5 o0 o1 1 o3 o4 o5 x0 x1 x2 x3 x4 x5 y0 y1 y2 y3 y4 y5 z0 z1 z2 z3 z4 z5 tmp w hc hb ht0 ht1 hW hq _ rfl hi n0 no rfl rfl
    · have e : (if (simpL 5 1 ⟨x0, x1, x2, x3, x4, x5⟩ ⟨y0, y1, y2, y3, y4, y5⟩ tmp).2 = true then simpL 5 1 ⟨x0, x1, x2, x3, x4, x5⟩ ⟨y0, y1, y2, y3, y4, y5⟩ tmp else ([], false)) = ([⟨4, 32, 1, 0, [⟨x0, x1, x2, x3, x4, x5⟩, ⟨y0, y1, y2, y3, y4, y5⟩]⟩, ⟨4, 1, 19, 0, [(wordA 0), (tmpA tmp)]⟩, ⟨3, 32, 2, 0, [tmpA (tmp + 1)]⟩], true) := by
        rfl
      rw [e]
      exact rs_G5_1 b off cap c0 c1 _ c3 c4 c5 o0 o1 1 o3 o4 o5 x0 x1 x2 x3 x4 x5 y0 y1 y2 y3 y4 y5 z0 z1 z2 z3 z4 z5 tmp w hc hb ht0 ht1 hW hq _ rfl hi n0 no rfl rfl
    · have e : (if (simpL 6 1 ⟨x0, x1, x2, x3, x4, x5⟩ ⟨y0, y1, y2, y3, y4, y5⟩ tmp).2 = true then simpL 6 1 ⟨x0, x1, x2, x3, x4, x5⟩ ⟨y0, y1, y2, y3, y4, y5⟩ tmp else ([], false)) = ([], false) := by
        rfl
      rw [e]
      exact rs_H1 b off cap c0 c1 _ c3 c4 c5 o0 o1 1 o3 o4 o5 x0 x1 x2 x3 x4 x5 y0 y1 y2 y3 y4 y5 z0 z1 z2 z3 z4 z5 tmp w hc hb ht0 ht1 hW hq _ rfl hi n0 no rfl (by decide) (by decide)
    · have e : (if (simpL 7 1 ⟨x0, x1, x2, x3, x4, x5⟩ ⟨y0, y1, y2, y3, y4, y5⟩ tmp).2 = true then simpL 7 1 ⟨x0, x1, x2, x3, x4, x5⟩ ⟨y0, y1, y2, y3, y4, y5⟩ tmp else ([], false)) = ([], false) := by
        rfl
      rw [e]
      exact rs_H1 b off cap c0 c1 _ c3 c4 c5 o0 o1 1 o3 o4 o5 x0 x1 x2 x3 x4 x5 y0 y1 y2 y3 y4 y5 z0 z1 z2 z3 z4 z5 tmp w hc hb ht0 ht1 hW hq _ rfl hi n0 no rfl (by decide) (by decide)
    · have e : (if (simpL 8 1 ⟨x0, x1, x2, x3, x4, x5⟩ ⟨y0, y1, y2, y3, y4, y5⟩ tmp).2 = true then simpL 8 1 ⟨x0, x1, x2, x3, x4, x5⟩ ⟨y0, y1, y2, y3, y4, y5⟩ tmp else ([], false)) = ([], false) := by
        rfl
      rw [e]
      exact rs_H1 b off cap c0 c1 _ c3 c4 c5 o0 o1 1 o3 o4 o5 x0 x1 x2 x3 x4 x5 y0 y1 y2 y3 y4 y5 z0 z1 z2 z3 z4 z5 tmp w hc hb ht0 ht1 hW hq _ rfl hi n0 no rfl (by decide) (by decide)
    · have e : (if (simpL 9 1 ⟨x0, x1, x2, x3, x4, x5⟩ ⟨y0, y1, y2, y3, y4, y5⟩ tmp).2 = true then simpL 9 1 ⟨x0, x1, x2, x3, x4, x5⟩ ⟨y0, y1, y2, y3, y4, y5⟩ tmp else ([], false)) = ([], false) := by
        rfl
      rw [e]
      exact rs_H1 b off cap c0 c1 _ c3 c4 c5 o0 o1 1 o3 o4 o5 x0 x1 x2 x3 x4 x5 y0 y1 y2 y3 y4 y5 z0 z1 z2 z3 z4 z5 tmp w hc hb ht0 ht1 hW hq _ rfl hi n0 no rfl (by decide) (by decide)
    · have e : (if (simpL 10 1 ⟨x0, x1, x2, x3, x4, x5⟩ ⟨y0, y1, y2, y3, y4, y5⟩ tmp).2 = true then simpL 10 1 ⟨x0, x1, x2, x3, x4, x5⟩ ⟨y0, y1, y2, y3, y4, y5⟩ tmp else ([], false)) = ([], false) := by
        rfl
      rw [e]
      exact rs_H1 b off cap c0 c1 _ c3 c4 c5 o0 o1 1 o3 o4 o5 x0 x1 x2 x3 x4 x5 y0 y1 y2 y3 y4 y5 z0 z1 z2 z3 z4 z5 tmp w hc hb ht0 ht1 hW hq _ rfl hi n0 no rfl (by decide) (by decide)
    · have e : (if (simpL 11 1 ⟨x0, x1, x2, x3, x4, x5⟩ ⟨y0, y1, y2, y3, y4, y5⟩ tmp).2 = true then simpL 11 1 ⟨x0, x1, x2, x3, x4, x5⟩ ⟨y0, y1, y2, y3, y4, y5⟩ tmp else ([], false)) = ([], false) := by
        rfl
      rw [e]
      exact rs_H1 b off cap c0 c1 _ c3 c4 c5 o0 o1 1 o3 o4 o5 x0 x1 x2 x3 x4 x5 y0 y1 y2 y3 y4 y5 z0 z1 z2 z3 z4 z5 tmp w hc hb ht0 ht1 hW hq _ rfl hi n0 no rfl (by decide) (by decide)
    · have e : (if (simpL 12 1 ⟨x0, x1, x2, x3, x4, x5⟩ ⟨y0, y1, y2, y3, y4, y5⟩ tmp).2 = true then simpL 12 1 ⟨x0, x1, x2, x3, x4, x5⟩ ⟨y0, y1, y2, y3, y4, y5⟩ tmp else ([], false)) = ([], false) := by
        rfl
      rw [e]
      exact rs_H1 b off cap c0 c1 _ c3 c4 c5 o0 o1 1 o3 o4 o5 x0 x1 x2 x3 x4 x5 y0 y1 y2 y3 y4 y5 z0 z1 z2 z3 z4 z5 tmp w hc hb ht0 ht1 hW hq _ rfl hi n0 no rfl (by decide) (by decide)
    · have e : (if (simpL 13 1 ⟨x0, x1, x2, x3, x4, x5⟩ ⟨y0, y1, y2, y3, y4, y5⟩ tmp).2 = true then simpL 13 1 ⟨x0, x1, x2, x3, x4, x5⟩ ⟨y0, y1, y2, y3, y4, y5⟩ tmp else ([], false)) = ([], false) := by
        rfl
      rw [e]
      exact rs_H1 b off cap c0 c1 _ c3 c4 c5 o0 o1 1 o3 o4 o5 x0 x1 x2 x3 x4 x5 y0 y1 y2 y3 y4 y5 z0 z1 z2 z3 z4 z5 tmp w hc hb ht0 ht1 hW hq _ rfl hi n0 no rfl (by decide) (by decide)
  · rcases hx with rfl | rfl | rfl | rfl | rfl | rfl | rfl | rfl | rfl | rfl | rfl | rfl | rfl | rfl
    · have e : (if (simpL 0 2 ⟨x0, x1, x2, x3, x4, x5⟩ ⟨y0, y1, y2, y3, y4, y5⟩ tmp).2 = true then simpL 0 2 ⟨x0, x1, x2, x3, x4, x5⟩ ⟨y0, y1, y2, y3, y4, y5⟩ tmp else ([], false)) = ([⟨4, 1, 14, 0, [⟨x0, x1, x2, x3, x4, x5⟩, ⟨y0, y1, y2, y3, y4, y5⟩]⟩, ⟨3, 32, 2, 0, [tmpA tmp]⟩], true) := by
        have e1 : (if (simpL 0 2 ⟨x0, x1, x2, x3, x4, x5⟩ ⟨y0, y1, y2, y3, y4, y5⟩ tmp).2 = true then simpL 0 2 ⟨x0, x1, x2, x3, x4, x5⟩ ⟨y0, y1, y2, y3, y4, y5⟩ tmp else ([], false)) = ([⟨4, 1, 14, 0, [⟨x0, x1, x2, x3, x4, x5⟩, ⟨y0, y1, y2, y3, y4, y5⟩]⟩, ⟨3, 32, 2, 0, [tmpA (tmp + ((0 : Nat) : Int))]⟩], true) := rfl
        rw [e1, e0]
      rw [e]
      exact rs_A b off cap c0 c1 _ c3 c4 c5 o0 o1 2 o3 o4 o5 x0 x1 x2 x3 x4 x5 y0 y1 y2 y3 y4 y5 z0 z1 z2 z3 z4 z5 tmp w hc hb ht0 ht1 hW hq _ rfl hi n0 no rfl (by decide) [⟨x0, x1, x2, x3, x4, x5⟩, ⟨y0, y1, y2, y3, y4, y5⟩] rfl rfl
    · have e : (if (simpL 1 2 ⟨x0, x1, x2, x3, x4, x5⟩ ⟨y0, y1, y2, y3, y4, y5⟩ tmp).2 = true then simpL 1 2 ⟨x0, x1, x2, x3, x4, x5⟩ ⟨y0, y1, y2, y3, y4, y5⟩ tmp else ([], false)) = ([⟨4, 1, 15, 0, [⟨x0, x1, x2, x3, x4, x5⟩, ⟨y0, y1, y2, y3, y4, y5⟩]⟩, ⟨3, 32, 2, 0, [tmpA tmp]⟩], true) := by
        have e1 : (if (simpL 1 2 ⟨x0, x1, x2, x3, x4, x5⟩ ⟨y0, y1, y2, y3, y4, y5⟩ tmp).2 = true then simpL 1 2 ⟨x0, x1, x2, x3, x4, x5⟩ ⟨y0, y1, y2, y3, y4, y5⟩ tmp else ([], false)) = ([⟨4, 1, 15, 0, [⟨x0, x1, x2, x3, x4, x5⟩, ⟨y0, y1, y2, y3, y4, y5⟩]⟩, ⟨3, 32, 2, 0, [tmpA (tmp + ((0 : Nat) : Int))]⟩], true) := rfl
        rw [e1, e0]
      rw [e]
      exact rs_A b off cap c0 c1 _ c3 c4 c5 o0 o1 2 o3 o4 o5 x0 x1 x2 x3 x4 x5 y0 y1 y2 y3 y4 y5 z0 z1 z2 z3 z4 z5 tmp w hc hb ht0 ht1 hW hq _ rfl hi n0 no rfl (by decide) [⟨x0, x1, x2, x3, x4, x5⟩, ⟨y0, y1, y2, y3, y4, y5⟩] rfl rfl
    · have e : (if (simpL 2 2 ⟨x0, x1, x2, x3, x4, x5⟩ ⟨y0, y1, y2, y3, y4, y5⟩ tmp).2 = true then simpL 2 2 ⟨x0, x1, x2, x3, x4, x5⟩ ⟨y0, y1, y2, y3, y4, y5⟩ tmp else ([], false)) = ([⟨4, 1, 16, 0, [⟨x0, x1, x2, x3, x4, x5⟩, ⟨y0, y1, y2, y3, y4, y5⟩]⟩, ⟨3, 32, 2, 0, [tmpA tmp]⟩], true) := by
        have e1 : (if (simpL 2 2 ⟨x0, x1, x2, x3, x4, x5⟩ ⟨y0, y1, y2, y3, y4, y5⟩ tmp).2 = true then simpL 2 2 ⟨x0, x1, x2, x3, x4, x5⟩ ⟨y0, y1, y2, y3, y4, y5⟩ tmp else ([], false)) = ([⟨4, 1, 16, 0, [⟨x0, x1, x2, x3, x4, x5⟩, ⟨y0, y1, y2, y3, y4, y5⟩]⟩, ⟨3, 32, 2, 0, [tmpA (tmp + ((0 : Nat) : Int))]⟩], true) := rfl
        rw [e1, e0]
      rw [e]
      exact rs_A b off cap c0 c1 _ c3 c4 c5 o0 o1 2 o3 o4 o5 x0 x1 x2 x3 x4 x5 y0 y1 y2 y3 y4 y5 z0 z1 z2 z3 z4 z5 tmp w hc hb ht0 ht1 hW hq _ rfl hi n0 no rfl (by decide) [⟨x0, x1, x2, x3, x4, x5⟩, ⟨y0, y1, y2, y3, y4, y5⟩] rfl rfl
    · have e : (if (simpL 3 2 ⟨x0, x1, x2, x3, x4, x5⟩ ⟨y0, y1, y2, y3, y4, y5⟩ tmp).2 = true then simpL 3 2 ⟨x0, x1, x2, x3, x4, x5⟩ ⟨y0, y1, y2, y3, y4, y5⟩ tmp else ([], false)) = ([⟨4, 1, 18, 0, [⟨y0, y1, y2, y3, y4, y5⟩, ⟨x0, x1, x2, x3, x4, x5⟩]⟩, ⟨3, 32, 2, 0, [tmpA tmp]⟩], true) := by
        have e1 : (if (simpL 3 2 ⟨x0, x1, x2, x3, x4, x5⟩ ⟨y0, y1, y2, y3, y4, y5⟩ tmp).2 = true then simpL 3 2 ⟨x0, x1, x2, x3, x4, x5⟩ ⟨y0, y1, y2, y3, y4, y5⟩ tmp else ([], false)) = ([⟨4, 1, 18, 0, [⟨y0, y1, y2, y3, y4, y5⟩, ⟨x0, x1, x2, x3, x4, x5⟩]⟩, ⟨3, 32, 2, 0, [tmpA (tmp + ((0 : Nat) : Int))]⟩], true) := rfl
        rw [e1, e0]
      rw [e]
      exact rs_A b off cap c0 c1 _ c3 c4 c5 o0 o1 2 o3 o4 o5 x0 x1 x2 x3 x4 x5 y0 y1 y2 y3 y4 y5 z0 z1 z2 z3 z4 z5 tmp w hc hb ht0 ht1 hW hq _ rfl hi n0 no rfl (by decide) [⟨y0, y1, y2, y3, y4, y5⟩, ⟨x0, x1, x2, x3, x4, x5⟩] rfl rfl
    · have e : (if (simpL 4 2 ⟨x0, x1, x2, x3, x4, x5⟩ ⟨y0, y1, y2, y3, y4, y5⟩ tmp).2 = true then simpL 4 2 ⟨x0, x1, x2, x3, x4, x5⟩ ⟨y0, y1, y2, y3, y4, y5⟩ tmp else ([], false)) = ([⟨4, 32, 2, 0, [⟨x0, x1, x2, x3, x4, x5⟩, ⟨y0, y1, y2, y3, y4, y5⟩]⟩, ⟨4, 1, 17, 0, [(tmpA tmp), (wordA 0)]⟩, ⟨3, 32, 2, 0, [tmpA (tmp + 1)]⟩], true) := by
        rfl
      rw [e]
      exact rs_G4_2 b off cap c0 c1 _ c3 c4 c5 o0 o1 2 o3 o4 o5 x0 x1 x2 x3 x4 x5 y0 y1 y2 y3 y4 y5 z0 z1 z2 z3 z4 z5 tmp w hc hb ht0 ht1 hW hq _ rfl hi n0 no rfl rfl
    · have e : (if (simpL 5 2 ⟨x0, x1, x2, x3, x4, x5⟩ ⟨y0, y1, y2, y3, y4, y5⟩ tmp).2 = true then simpL 5 2 ⟨x0, x1, x2, x3, x4, x5⟩ ⟨y0, y1, y2, y3, y4, y5⟩ tmp else ([], false)) = ([⟨4, 32, 2, 0, [⟨x0, x1, x2, x3, x4, x5⟩, ⟨y0, y1, y2, y3, y4, y5⟩]⟩, ⟨4, 1, 19, 0, [(wordA 0), (tmpA tmp)]⟩, ⟨3, 32, 2, 0, [tmpA (tmp + 1)]⟩], true) := by
        rfl
      rw [e]
      exact rs_G5_2 b off cap c0 c1 _ c3 c4 c5 o0 o1 2 o3 o4 o5 x0 x1 x2 x3 x4 x5 y0 y1 y2 y3 y4 y5 z0 z1 z2 z3 z4 z5 tmp w hc hb ht0 ht1 hW hq _ rfl hi n0 no rfl rfl
    · have e : (if (simpL 6 2 ⟨x0, x1, x2, x3, x4, x5⟩ ⟨y0, y1, y2, y3, y4, y5⟩ tmp).2 = true then simpL 6 2 ⟨x0, x1, x2, x3, x4, x5⟩ ⟨y0, y1, y2, y3, y4, y5⟩ tmp else ([], false)) = ([], false) := by
        rfl
      rw [e]
      exact rs_N6 b off cap c0 c1 _ c3 c4 c5 o0 o1 2 o3 o4 o5 x0 x1 x2 x3 x4 x5 y0 y1 y2 y3 y4 y5 z0 z1 z2 z3 z4 z5 tmp w hc hb ht0 ht1 hW hq _ rfl hi n0 no rfl rfl
    · have e : (if (simpL 7 2 ⟨x0, x1, x2, x3, x4, x5⟩ ⟨y0, y1, y2, y3, y4, y5⟩ tmp).2 = true then simpL 7 2 ⟨x0, x1, x2, x3, x4, x5⟩ ⟨y0, y1, y2, y3, y4, y5⟩ tmp else ([], false)) = ([], false) := by
        rfl
      rw [e]
      exact rs_N7 b off cap c0 c1 _ c3 c4 c5 o0 o1 2 o3 o4 o5 x0 x1 x2 x3 x4 x5 y0 y1 y2 y3 y4 y5 z0 z1 z2 z3 z4 z5 tmp w hc hb ht0 ht1 hW hq _ rfl hi n0 no rfl rfl
    · have e : (if (simpL 8 2 ⟨x0, x1, x2, x3, x4, x5⟩ ⟨y0, y1, y2, y3, y4, y5⟩ tmp).2 = true then simpL 8 2 ⟨x0, x1, x2, x3, x4, x5⟩ ⟨y0, y1, y2, y3, y4, y5⟩ tmp else ([], false)) = ([⟨4, 1, 18, 0, [⟨x0, x1, x2, x3, x4, x5⟩, ⟨y0, y1, y2, y3, y4, y5⟩]⟩, ⟨3, 32, 2, 0, [tmpA tmp]⟩], true) := by
        have e1 : (if (simpL 8 2 ⟨x0, x1, x2, x3, x4, x5⟩ ⟨y0, y1, y2, y3, y4, y5⟩ tmp).2 = true then simpL 8 2 ⟨x0, x1, x2, x3, x4, x5⟩ ⟨y0, y1, y2, y3, y4, y5⟩ tmp else ([], false)) = ([⟨4, 1, 18, 0, [⟨x0, x1, x2, x3, x4, x5⟩, ⟨y0, y1, y2, y3, y4, y5⟩]⟩, ⟨3, 32, 2, 0, [tmpA (tmp + ((0 : Nat) : Int))]⟩], true) := rfl
        rw [e1, e0]
      rw [e]
      exact rs_A b off cap c0 c1 _ c3 c4 c5 o0 o1 2 o3 o4 o5 x0 x1 x2 x3 x4 x5 y0 y1 y2 y3 y4 y5 z0 z1 z2 z3 z4 z5 tmp w hc hb ht0 ht1 hW hq _ rfl hi n0 no rfl (by decide) [⟨x0, x1, x2, x3, x4, x5⟩, ⟨y0, y1, y2, y3, y4, y5⟩] rfl rfl
    · have e : (if (simpL 9 2 ⟨x0, x1, x2, x3, x4, x5⟩ ⟨y0, y1, y2, y3, y4, y5⟩ tmp).2 = true then simpL 9 2 ⟨x0, x1, x2, x3, x4, x5⟩ ⟨y0, y1, y2, y3, y4, y5⟩ tmp else ([], false)) = ([⟨4, 1, 16, 0, [⟨y0, y1, y2, y3, y4, y5⟩, ⟨x0, x1, x2, x3, x4, x5⟩]⟩, ⟨3, 32, 2, 0, [tmpA tmp]⟩], true) := by
        have e1 : (if (simpL 9 2 ⟨x0, x1, x2, x3, x4, x5⟩ ⟨y0, y1, y2, y3, y4, y5⟩ tmp).2 = true then simpL 9 2 ⟨x0, x1, x2, x3, x4, x5⟩ ⟨y0, y1, y2, y3, y4, y5⟩ tmp else ([], false)) = ([⟨4, 1, 16, 0, [⟨y0, y1, y2, y3, y4, y5⟩, ⟨x0, x1, x2, x3, x4, x5⟩]⟩, ⟨3, 32, 2, 0, [tmpA (tmp + ((0 : Nat) : Int))]⟩], true) := rfl
        rw [e1, e0]
      rw [e]
      exact rs_A b off cap c0 c1 _ c3 c4 c5 o0 o1 2 o3 o4 o5 x0 x1 x2 x3 x4 x5 y0 y1 y2 y3 y4 y5 z0 z1 z2 z3 z4 z5 tmp w hc hb ht0 ht1 hW hq _ rfl hi n0 no rfl (by decide) [⟨y0, y1, y2, y3, y4, y5⟩, ⟨x0, x1, x2, x3, x4, x5⟩] rfl rfl
    · have e : (if (simpL 10 2 ⟨x0, x1, x2, x3, x4, x5⟩ ⟨y0, y1, y2, y3, y4, y5⟩ tmp).2 = true then simpL 10 2 ⟨x0, x1, x2, x3, x4, x5⟩ ⟨y0, y1, y2, y3, y4, y5⟩ tmp else ([], false)) = ([⟨4, 1, 17, 0, [⟨x0, x1, x2, x3, x4, x5⟩, ⟨y0, y1, y2, y3, y4, y5⟩]⟩, ⟨3, 32, 2, 0, [tmpA tmp]⟩], true) := by
        have e1 : (if (simpL 10 2 ⟨x0, x1, x2, x3, x4, x5⟩ ⟨y0, y1, y2, y3, y4, y5⟩ tmp).2 = true then simpL 10 2 ⟨x0, x1, x2, x3, x4, x5⟩ ⟨y0, y1, y2, y3, y4, y5⟩ tmp else ([], false)) = ([⟨4, 1, 17, 0, [⟨x0, x1, x2, x3, x4, x5⟩, ⟨y0, y1, y2, y3, y4, y5⟩]⟩, ⟨3, 32, 2, 0, [tmpA (tmp + ((0 : Nat) : Int))]⟩], true) := rfl
        rw [e1, e0]
      rw [e]
      exact rs_A b off cap c0 c1 _ c3 c4 c5 o0 o1 2 o3 o4 o5 x0 x1 x2 x3 x4 x5 y0 y1 y2 y3 y4 y5 z0 z1 z2 z3 z4 z5 tmp w hc hb ht0 ht1 hW hq _ rfl hi n0 no rfl (by decide) [⟨x0, x1, x2, x3, x4, x5⟩, ⟨y0, y1, y2, y3, y4, y5⟩] rfl rfl
    · have e : (if (simpL 11 2 ⟨x0, x1, x2, x3, x4, x5⟩ ⟨y0, y1, y2, y3, y4, y5⟩ tmp).2 = true then simpL 11 2 ⟨x0, x1, x2, x3, x4, x5⟩ ⟨y0, y1, y2, y3, y4, y5⟩ tmp else ([], false)) = ([⟨4, 1, 19, 0, [⟨y0, y1, y2, y3, y4, y5⟩, ⟨x0, x1, x2, x3, x4, x5⟩]⟩, ⟨3, 32, 2, 0, [tmpA tmp]⟩], true) := by
        have e1 : (if (simpL 11 2 ⟨x0, x1, x2, x3, x4, x5⟩ ⟨y0, y1, y2, y3, y4, y5⟩ tmp).2 = true then simpL 11 2 ⟨x0, x1, x2, x3, x4, x5⟩ ⟨y0, y1, y2, y3, y4, y5⟩ tmp else ([], false)) = ([⟨4, 1, 19, 0, [⟨y0, y1, y2, y3, y4, y5⟩, ⟨x0, x1, x2, x3, x4, x5⟩]⟩, ⟨3, 32, 2, 0, [tmpA (tmp + ((0 : Nat) : Int))]⟩], true) := rfl
        rw [e1, e0]
      rw [e]
      exact rs_A b off cap c0 c1 _ c3 c4 c5 o0 o1 2 o3 o4 o5 x0 x1 x2 x3 x4 x5 y0 y1 y2 y3 y4 y5 z0 z1 z2 z3 z4 z5 tmp w hc hb ht0 ht1 hW hq _ rfl hi n0 no rfl (by decide) [⟨y0, y1, y2, y3, y4, y5⟩, ⟨x0, x1, x2, x3, x4, x5⟩] rfl rfl
    · have e : (if (simpL 12 2 ⟨x0, x1, x2, x3, x4, x5⟩ ⟨y0, y1, y2, y3, y4, y5⟩ tmp).2 = true then simpL 12 2 ⟨x0, x1, x2, x3, x4, x5⟩ ⟨y0, y1, y2, y3, y4, y5⟩ tmp else ([], false)) = ([⟨4, 1, 19, 0, [⟨x0, x1, x2, x3, x4, x5⟩, ⟨y0, y1, y2, y3, y4, y5⟩]⟩, ⟨3, 32, 2, 0, [tmpA tmp]⟩], true) := by
        have e1 : (if (simpL 12 2 ⟨x0, x1, x2, x3, x4, x5⟩ ⟨y0, y1, y2, y3, y4, y5⟩ tmp).2 = true then simpL 12 2 ⟨x0, x1, x2, x3, x4, x5⟩ ⟨y0, y1, y2, y3, y4, y5⟩ tmp else ([], false)) = ([⟨4, 1, 19, 0, [⟨x0, x1, x2, x3, x4, x5⟩, ⟨y0, y1, y2, y3, y4, y5⟩]⟩, ⟨3, 32, 2, 0, [tmpA (tmp + ((0 : Nat) : Int))]⟩], true) := rfl
        rw [e1, e0]
      rw [e]
      exact rs_A b off cap c0 c1 _ c3 c4 c5 o0 o1 2 o3 o4 o5 x0 x1 x2 x3 x4 x5 y0 y1 y2 y3 y4 y5 z0 z1 z2 z3 z4 z5 tmp w hc hb ht0 ht1 hW hq _ rfl hi n0 no rfl (by decide) [⟨x0, x1, x2, x3, x4, x5⟩, ⟨y0, y1, y2, y3, y4, y5⟩] rfl rfl
    · have e : (if (simpL 13 2 ⟨x0, x1, x2, x3, x4, x5⟩ ⟨y0, y1, y2, y3, y4, y5⟩ tmp).2 = true then simpL 13 2 ⟨x0, x1, x2, x3, x4, x5⟩ ⟨y0, y1, y2, y3, y4, y5⟩ tmp else ([], false)) = ([⟨4, 1, 17, 0, [⟨y0, y1, y2, y3, y4, y5⟩, ⟨x0, x1, x2, x3, x4, x5⟩]⟩, ⟨3, 32, 2, 0, [tmpA tmp]⟩], true) := by
        have e1 : (if (simpL 13 2 ⟨x0, x1, x2, x3, x4, x5⟩ ⟨y0, y1, y2, y3, y4, y5⟩ tmp).2 = true then simpL 13 2 ⟨x0, x1, x2, x3, x4, x5⟩ ⟨y0, y1, y2, y3, y4, y5⟩ tmp else ([], false)) = ([⟨4, 1, 17, 0, [⟨y0, y1, y2, y3, y4, y5⟩, ⟨x0, x1, x2, x3, x4, x5⟩]⟩, ⟨3, 32, 2, 0, [tmpA (tmp + ((0 : Nat) : Int))]⟩], true) := rfl
        rw [e1, e0]
      rw [e]
      exact rs_A b off cap c0 c1 _ c3 c4 c5 o0 o1 2 o3 o4 o5 x0 x1 x2 x3 x4 x5 y0 y1 y2 y3 y4 y5 z0 z1 z2 z3 z4 z5 tmp w hc hb ht0 ht1 hW hq _ rfl hi n0 no rfl (by decide) [⟨y0, y1, y2, y3, y4, y5⟩, ⟨x0, x1, x2, x3, x4, x5⟩] rfl rfl
  · rcases hx with rfl | rfl | rfl | rfl | rfl | rfl | rfl | rfl | rfl | rfl | rfl | rfl | rfl | rfl
    · have e : (if (simpL 0 3 ⟨x0, x1, x2, x3, x4, x5⟩ ⟨y0, y1, y2, y3, y4, y5⟩ tmp).2 = true then simpL 0 3 ⟨x0, x1, x2, x3, x4, x5⟩ ⟨y0, y1, y2, y3, y4, y5⟩ tmp else ([], false)) = ([⟨4, 1, 14, 0, [⟨x0, x1, x2, x3, x4, x5⟩, (wordA 0)]⟩, ⟨3, 32, 2, 0, [tmpA tmp]⟩], true) := by
        have e1 : (if (simpL 0 3 ⟨x0, x1, x2, x3, x4, x5⟩ ⟨y0, y1, y2, y3, y4, y5⟩ tmp).2 = true then simpL 0 3 ⟨x0, x1, x2, x3, x4, x5⟩ ⟨y0, y1, y2, y3, y4, y5⟩ tmp else ([], false)) = ([⟨4, 1, 14, 0, [⟨x0, x1, x2, x3, x4, x5⟩, (wordA 0)]⟩, ⟨3, 32, 2, 0, [tmpA (tmp + ((0 : Nat) : Int))]⟩], true) := rfl
        rw [e1, e0]
      rw [e]
      exact rs_B b off cap c0 c1 _ c3 c4 c5 o0 o1 3 o3 o4 o5 x0 x1 x2 x3 x4 x5 y0 y1 y2 y3 y4 y5 z0 z1 z2 z3 z4 z5 tmp w hc hb ht0 ht1 hW hq _ rfl hi n0 no rfl (by decide) [⟨x0, x1, x2, x3, x4, x5⟩, (wordA 0)] rfl rfl
    · have e : (if (simpL 1 3 ⟨x0, x1, x2, x3, x4, x5⟩ ⟨y0, y1, y2, y3, y4, y5⟩ tmp).2 = true then simpL 1 3 ⟨x0, x1, x2, x3, x4, x5⟩ ⟨y0, y1, y2, y3, y4, y5⟩ tmp else ([], false)) = ([⟨4, 1, 15, 0, [⟨x0, x1, x2, x3, x4, x5⟩, (wordA 0)]⟩, ⟨3, 32, 2, 0, [tmpA tmp]⟩], true) := by
        have e1 : (if (simpL 1 3 ⟨x0, x1, x2, x3, x4, x5⟩ ⟨y0, y1, y2, y3, y4, y5⟩ tmp).2 = true then simpL 1 3 ⟨x0, x1, x2, x3, x4, x5⟩ ⟨y0, y1, y2, y3, y4, y5⟩ tmp else ([], false)) = ([⟨4, 1, 15, 0, [⟨x0, x1, x2, x3, x4, x5⟩, (wordA 0)]⟩, ⟨3, 32, 2, 0, [tmpA (tmp + ((0 : Nat) : Int))]⟩], true) := rfl
        rw [e1, e0]
      rw [e]
      exact rs_B b off cap c0 c1 _ c3 c4 c5 o0 o1 3 o3 o4 o5 x0 x1 x2 x3 x4 x5 y0 y1 y2 y3 y4 y5 z0 z1 z2 z3 z4 z5 tmp w hc hb ht0 ht1 hW hq _ rfl hi n0 no rfl (by decide) [⟨x0, x1, x2, x3, x4, x5⟩, (wordA 0)] rfl rfl
    · have e : (if (simpL 2 3 ⟨x0, x1, x2, x3, x4, x5⟩ ⟨y0, y1, y2, y3, y4, y5⟩ tmp).2 = true then simpL 2 3 ⟨x0, x1, x2, x3, x4, x5⟩ ⟨y0, y1, y2, y3, y4, y5⟩ tmp else ([], false)) = ([⟨1, 32, 0, 0, [wordA 0]⟩], true) := by
        rfl
      rw [e]
      exact rs_C2 b off cap c0 c1 _ c3 c4 c5 o0 o1 3 o3 o4 o5 x0 x1 x2 x3 x4 x5 y0 y1 y2 y3 y4 y5 z0 z1 z2 z3 z4 z5 tmp w hc hb ht0 ht1 hW hq _ rfl hi n0 no rfl rfl
    · have e : (if (simpL 3 3 ⟨x0, x1, x2, x3, x4, x5⟩ ⟨y0, y1, y2, y3, y4, y5⟩ tmp).2 = true then simpL 3 3 ⟨x0, x1, x2, x3, x4, x5⟩ ⟨y0, y1, y2, y3, y4, y5⟩ tmp else ([], false)) = ([⟨1, 32, 0, 0, [wordA 1]⟩], true) := by
        rfl
      rw [e]
      exact rs_C3 b off cap c0 c1 _ c3 c4 c5 o0 o1 3 o3 o4 o5 x0 x1 x2 x3 x4 x5 y0 y1 y2 y3 y4 y5 z0 z1 z2 z3 z4 z5 tmp w hc hb ht0 ht1 hW hq _ rfl hi n0 no rfl rfl
    · have e : (if (simpL 4 3 ⟨x0, x1, x2, x3, x4, x5⟩ ⟨y0, y1, y2, y3, y4, y5⟩ tmp).2 = true then simpL 4 3 ⟨x0, x1, x2, x3, x4, x5⟩ ⟨y0, y1, y2, y3, y4, y5⟩ tmp else ([], false)) = ([⟨4, 1, 17, 0, [⟨x0, x1, x2, x3, x4, x5⟩, (wordA 0)]⟩, ⟨3, 32, 2, 0, [tmpA tmp]⟩], true) := by
        have e1 : (if (simpL 4 3 ⟨x0, x1, x2, x3, x4, x5⟩ ⟨y0, y1, y2, y3, y4, y5⟩ tmp).2 = true then simpL 4 3 ⟨x0, x1, x2, x3, x4, x5⟩ ⟨y0, y1, y2, y3, y4, y5⟩ tmp else ([], false)) = ([⟨4, 1, 17, 0, [⟨x0, x1, x2, x3, x4, x5⟩, (wordA 0)]⟩, ⟨3, 32, 2, 0, [tmpA (tmp + ((0 : Nat) : Int))]⟩], true) := rfl
        rw [e1, e0]
      rw [e]
      exact rs_B b off cap c0 c1 _ c3 c4 c5 o0 o1 3 o3 o4 o5 x0 x1 x2 x3 x4 x5 y0 y1 y2 y3 y4 y5 z0 z1 z2 z3 z4 z5 tmp w hc hb ht0 ht1 hW hq _ rfl hi n0 no rfl (by decide) [⟨x0, x1, x2, x3, x4, x5⟩, (wordA 0)] rfl rfl
    · have e : (if (simpL 5 3 ⟨x0, x1, x2, x3, x4, x5⟩ ⟨y0, y1, y2, y3, y4, y5⟩ tmp).2 = true then simpL 5 3 ⟨x0, x1, x2, x3, x4, x5⟩ ⟨y0, y1, y2, y3, y4, y5⟩ tmp else ([], false)) = ([⟨4, 1, 19, 0, [(wordA 0), ⟨x0, x1, x2, x3, x4, x5⟩]⟩, ⟨3, 32, 2, 0, [tmpA tmp]⟩], true) := by
        have e1 : (if (simpL 5 3 ⟨x0, x1, x2, x3, x4, x5⟩ ⟨y0, y1, y2, y3, y4, y5⟩ tmp).2 = true then simpL 5 3 ⟨x0, x1, x2, x3, x4, x5⟩ ⟨y0, y1, y2, y3, y4, y5⟩ tmp else ([], false)) = ([⟨4, 1, 19, 0, [(wordA 0), ⟨x0, x1, x2, x3, x4, x5⟩]⟩, ⟨3, 32, 2, 0, [tmpA (tmp + ((0 : Nat) : Int))]⟩], true) := rfl
        rw [e1, e0]
      rw [e]
      exact rs_B b off cap c0 c1 _ c3 c4 c5 o0 o1 3 o3 o4 o5 x0 x1 x2 x3 x4 x5 y0 y1 y2 y3 y4 y5 z0 z1 z2 z3 z4 z5 tmp w hc hb ht0 ht1 hW hq _ rfl hi n0 no rfl (by decide) [(wordA 0), ⟨x0, x1, x2, x3, x4, x5⟩] rfl rfl
    · have e : (if (simpL 6 3 ⟨x0, x1, x2, x3, x4, x5⟩ ⟨y0, y1, y2, y3, y4, y5⟩ tmp).2 = true then simpL 6 3 ⟨x0, x1, x2, x3, x4, x5⟩ ⟨y0, y1, y2, y3, y4, y5⟩ tmp else ([], false)) = ([⟨1, 32, 0, 0, [wordA 0]⟩], true) := by
        rfl
      rw [e]
      exact rs_C6 b off cap c0 c1 _ c3 c4 c5 o0 o1 3 o3 o4 o5 x0 x1 x2 x3 x4 x5 y0 y1 y2 y3 y4 y5 z0 z1 z2 z3 z4 z5 tmp w hc hb ht0 ht1 hW hq _ rfl hi n0 no rfl rfl
    · have e : (if (simpL 7 3 ⟨x0, x1, x2, x3, x4, x5⟩ ⟨y0, y1, y2, y3, y4, y5⟩ tmp).2 = true then simpL 7 3 ⟨x0, x1, x2, x3, x4, x5⟩ ⟨y0, y1, y2, y3, y4, y5⟩ tmp else ([], false)) = ([⟨1, 32, 0, 0, [wordA 1]⟩], true) := by
        rfl
      rw [e]
      exact rs_C7 b off cap c0 c1 _ c3 c4 c5 o0 o1 3 o3 o4 o5 x0 x1 x2 x3 x4 x5 y0 y1 y2 y3 y4 y5 z0 z1 z2 z3 z4 z5 tmp w hc hb ht0 ht1 hW hq _ rfl hi n0 no rfl rfl
    · have e : (if (simpL 8 3 ⟨x0, x1, x2, x3, x4, x5⟩ ⟨y0, y1, y2, y3, y4, y5⟩ tmp).2 = true then simpL 8 3 ⟨x0, x1, x2, x3, x4, x5⟩ ⟨y0, y1, y2, y3, y4, y5⟩ tmp else ([], false)) = ([⟨4, 1, 14, 0, [⟨x0, x1, x2, x3, x4, x5⟩, (wordA 0)]⟩, ⟨3, 32, 2, 0, [tmpA tmp]⟩], true) := by
        have e1 : (if (simpL 8 3 ⟨x0, x1, x2, x3, x4, x5⟩ ⟨y0, y1, y2, y3, y4, y5⟩ tmp).2 = true then simpL 8 3 ⟨x0, x1, x2, x3, x4, x5⟩ ⟨y0, y1, y2, y3, y4, y5⟩ tmp else ([], false)) = ([⟨4, 1, 14, 0, [⟨x0, x1, x2, x3, x4, x5⟩, (wordA 0)]⟩, ⟨3, 32, 2, 0, [tmpA (tmp + ((0 : Nat) : Int))]⟩], true) := rfl
        rw [e1, e0]
      rw [e]
      exact rs_B b off cap c0 c1 _ c3 c4 c5 o0 o1 3 o3 o4 o5 x0 x1 x2 x3 x4 x5 y0 y1 y2 y3 y4 y5 z0 z1 z2 z3 z4 z5 tmp w hc hb ht0 ht1 hW hq _ rfl hi n0 no rfl (by decide) [⟨x0, x1, x2, x3, x4, x5⟩, (wordA 0)] rfl rfl
    · have e : (if (simpL 9 3 ⟨x0, x1, x2, x3, x4, x5⟩ ⟨y0, y1, y2, y3, y4, y5⟩ tmp).2 = true then simpL 9 3 ⟨x0, x1, x2, x3, x4, x5⟩ ⟨y0, y1, y2, y3, y4, y5⟩ tmp else ([], false)) = ([⟨4, 1, 15, 0, [⟨x0, x1, x2, x3, x4, x5⟩, (wordA 0)]⟩, ⟨3, 32, 2, 0, [tmpA tmp]⟩], true) := by
        have e1 : (if (simpL 9 3 ⟨x0, x1, x2, x3, x4, x5⟩ ⟨y0, y1, y2, y3, y4, y5⟩ tmp).2 = true then simpL 9 3 ⟨x0, x1, x2, x3, x4, x5⟩ ⟨y0, y1, y2, y3, y4, y5⟩ tmp else ([], false)) = ([⟨4, 1, 15, 0, [⟨x0, x1, x2, x3, x4, x5⟩, (wordA 0)]⟩, ⟨3, 32, 2, 0, [tmpA (tmp + ((0 : Nat) : Int))]⟩], true) := rfl
        rw [e1, e0]
      rw [e]
      exact rs_B b off cap c0 c1 _ c3 c4 c5 o0 o1 3 o3 o4 o5 x0 x1 x2 x3 x4 x5 y0 y1 y2 y3 y4 y5 z0 z1 z2 z3 z4 z5 tmp w hc hb ht0 ht1 hW hq _ rfl hi n0 no rfl (by decide) [⟨x0, x1, x2, x3, x4, x5⟩, (wordA 0)] rfl rfl
    · have e : (if (simpL 10 3 ⟨x0, x1, x2, x3, x4, x5⟩ ⟨y0, y1, y2, y3, y4, y5⟩ tmp).2 = true then simpL 10 3 ⟨x0, x1, x2, x3, x4, x5⟩ ⟨y0, y1, y2, y3, y4, y5⟩ tmp else ([], false)) = ([⟨4, 1, 17, 0, [⟨x0, x1, x2, x3, x4, x5⟩, (wordA 0)]⟩, ⟨3, 32, 2, 0, [tmpA tmp]⟩], true) := by
        have e1 : (if (simpL 10 3 ⟨x0, x1, x2, x3, x4, x5⟩ ⟨y0, y1, y2, y3, y4, y5⟩ tmp).2 = true then simpL 10 3 ⟨x0, x1, x2, x3, x4, x5⟩ ⟨y0, y1, y2, y3, y4, y5⟩ tmp else ([], false)) = ([⟨4, 1, 17, 0, [⟨x0, x1, x2, x3, x4, x5⟩, (wordA 0)]⟩, ⟨3, 32, 2, 0, [tmpA (tmp + ((0 : Nat) : Int))]⟩], true) := rfl
        rw [e1, e0]
      rw [e]
      exact rs_B b off cap c0 c1 _ c3 c4 c5 o0 o1 3 o3 o4 o5 x0 x1 x2 x3 x4 x5 y0 y1 y2 y3 y4 y5 z0 z1 z2 z3 z4 z5 tmp w hc hb ht0 ht1 hW hq _ rfl hi n0 no rfl (by decide) [⟨x0, x1, x2, x3, x4, x5⟩, (wordA 0)] rfl rfl
    · have e : (if (simpL 11 3 ⟨x0, x1, x2, x3, x4, x5⟩ ⟨y0, y1, y2, y3, y4, y5⟩ tmp).2 = true then simpL 11 3 ⟨x0, x1, x2, x3, x4, x5⟩ ⟨y0, y1, y2, y3, y4, y5⟩ tmp else ([], false)) = ([⟨4, 1, 19, 0, [(wordA 0), ⟨x0, x1, x2, x3, x4, x5⟩]⟩, ⟨3, 32, 2, 0, [tmpA tmp]⟩], true) := by
        have e1 : (if (simpL 11 3 ⟨x0, x1, x2, x3, x4, x5⟩ ⟨y0, y1, y2, y3, y4, y5⟩ tmp).2 = true then simpL 11 3 ⟨x0, x1, x2, x3, x4, x5⟩ ⟨y0, y1, y2, y3, y4, y5⟩ tmp else ([], false)) = ([⟨4, 1, 19, 0, [(wordA 0), ⟨x0, x1, x2, x3, x4, x5⟩]⟩, ⟨3, 32, 2, 0, [tmpA (tmp + ((0 : Nat) : Int))]⟩], true) := rfl
        rw [e1, e0]
      rw [e]
      exact rs_B b off cap c0 c1 _ c3 c4 c5 o0 o1 3 o3 o4 o5 x0 x1 x2 x3 x4 x5 y0 y1 y2 y3 y4 y5 z0 z1 z2 z3 z4 z5 tmp w hc hb ht0 ht1 hW hq _ rfl hi n0 no rfl (by decide) [(wordA 0), ⟨x0, x1, x2, x3, x4, x5⟩] rfl rfl
    · have e : (if (simpL 12 3 ⟨x0, x1, x2, x3, x4, x5⟩ ⟨y0, y1, y2, y3, y4, y5⟩ tmp).2 = true then simpL 12 3 ⟨x0, x1, x2, x3, x4, x5⟩ ⟨y0, y1, y2, y3, y4, y5⟩ tmp else ([], false)) = ([⟨4, 1, 19, 0, [⟨x0, x1, x2, x3, x4, x5⟩, (wordA 0)]⟩, ⟨3, 32, 2, 0, [tmpA tmp]⟩], true) := by
        have e1 : (if (simpL 12 3 ⟨x0, x1, x2, x3, x4, x5⟩ ⟨y0, y1, y2, y3, y4, y5⟩ tmp).2 = true then simpL 12 3 ⟨x0, x1, x2, x3, x4, x5⟩ ⟨y0, y1, y2, y3, y4, y5⟩ tmp else ([], false)) = ([⟨4, 1, 19, 0, [⟨x0, x1, x2, x3, x4, x5⟩, (wordA 0)]⟩, ⟨3, 32, 2, 0, [tmpA (tmp + ((0 : Nat) : Int))]⟩], true) := rfl
        rw [e1, e0]
      rw [e]
      exact rs_B b off cap c0 c1 _ c3 c4 c5 o0 o1 3 o3 o4 o5 x0 x1 x2 x3 x4 x5 y0 y1 y2 y3 y4 y5 z0 z1 z2 z3 z4 z5 tmp w hc hb ht0 ht1 hW hq _ rfl hi n0 no rfl (by decide) [⟨x0, x1, x2, x3, x4, x5⟩, (wordA 0)] rfl rfl
    · have e : (if (simpL 13 3 ⟨x0, x1, x2, x3, x4, x5⟩ ⟨y0, y1, y2, y3, y4, y5⟩ tmp).2 = true then simpL 13 3 ⟨x0, x1, x2, x3, x4, x5⟩ ⟨y0, y1, y2, y3, y4, y5⟩ tmp else ([], false)) = ([⟨4, 1, 17, 0, [(wordA 0), ⟨x0, x1, x2, x3, x4, x5⟩]⟩, ⟨3, 32, 2, 0, [tmpA tmp]⟩], true) := by
        have e1 : (if (simpL 13 3 ⟨x0, x1, x2, x3, x4, x5⟩ ⟨y0, y1, y2, y3, y4, y5⟩ tmp).2 = true then simpL 13 3 ⟨x0, x1, x2, x3, x4, x5⟩ ⟨y0, y1, y2, y3, y4, y5⟩ tmp else ([], false)) = ([⟨4, 1, 17, 0, [(wordA 0), ⟨x0, x1, x2, x3, x4, x5⟩]⟩, ⟨3, 32, 2, 0, [tmpA (tmp + ((0 : Nat) : Int))]⟩], true) := rfl
        rw [e1, e0]
      rw [e]
      exact rs_B b off cap c0 c1 _ c3 c4 c5 o0 o1 3 o3 o4 o5 x0 x1 x2 x3 x4 x5 y0 y1 y2 y3 y4 y5 z0 z1 z2 z3 z4 z5 tmp w hc hb ht0 ht1 hW hq _ rfl hi n0 no rfl (by decide) [(wordA 0), ⟨x0, x1, x2, x3, x4, x5⟩] rfl rfl
  · rcases hx with rfl | rfl | rfl | rfl | rfl | rfl | rfl | rfl | rfl | rfl | rfl | rfl | rfl | rfl
    · have e : (if (simpL 0 4 ⟨x0, x1, x2, x3, x4, x5⟩ ⟨y0, y1, y2, y3, y4, y5⟩ tmp).2 = true then simpL 0 4 ⟨x0, x1, x2, x3, x4, x5⟩ ⟨y0, y1, y2, y3, y4, y5⟩ tmp else ([], false)) = ([⟨4, 32, 11, 0, [⟨x0, x1, x2, x3, x4, x5⟩, ⟨y0, y1, y2, y3, y4, y5⟩]⟩, ⟨4, 1, 14, 0, [(tmpA tmp), (wordA 0)]⟩, ⟨3, 32, 2, 0, [tmpA (tmp + 1)]⟩], true) := by
        rfl
      rw [e]
      exact rs_G0_4 b off cap c0 c1 _ c3 c4 c5 o0 o1 4 o3 o4 o5 x0 x1 x2 x3 x4 x5 y0 y1 y2 y3 y4 y5 z0 z1 z2 z3 z4 z5 tmp w hc hb ht0 ht1 hW hq _ rfl hi n0 no rfl rfl
    · have e : (if (simpL 1 4 ⟨x0, x1, x2, x3, x4, x5⟩ ⟨y0, y1, y2, y3, y4, y5⟩ tmp).2 = true then simpL 1 4 ⟨x0, x1, x2, x3, x4, x5⟩ ⟨y0, y1, y2, y3, y4, y5⟩ tmp else ([], false)) = ([⟨4, 32, 11, 0, [⟨x0, x1, x2, x3, x4, x5⟩, ⟨y0, y1, y2, y3, y4, y5⟩]⟩, ⟨4, 1, 15, 0, [(tmpA tmp), (wordA 0)]⟩, ⟨3, 32, 2, 0, [tmpA (tmp + 1)]⟩], true) := by
        rfl
      rw [e]
      exact rs_G1_4 b off cap c0 c1 _ c3 c4 c5 o0 o1 4 o3 o4 o5 x0 x1 x2 x3 x4 x5 y0 y1 y2 y3 y4 y5 z0 z1 z2 z3 z4 z5 tmp w hc hb ht0 ht1 hW hq _ rfl hi n0 no rfl rfl
    · have e : (if (simpL 2 4 ⟨x0, x1, x2, x3, x4, x5⟩ ⟨y0, y1, y2, y3, y4, y5⟩ tmp).2 = true then simpL 2 4 ⟨x0, x1, x2, x3, x4, x5⟩ ⟨y0, y1, y2, y3, y4, y5⟩ tmp else ([], false)) = ([], false) := by
        rfl
      rw [e]
      exact rs_H4 b off cap c0 c1 _ c3 c4 c5 o0 o1 4 o3 o4 o5 x0 x1 x2 x3 x4 x5 y0 y1 y2 y3 y4 y5 z0 z1 z2 z3 z4 z5 tmp w hc hb ht0 ht1 hW hq _ rfl hi n0 no rfl (by decide) trivial
    · have e : (if (simpL 3 4 ⟨x0, x1, x2, x3, x4, x5⟩ ⟨y0, y1, y2, y3, y4, y5⟩ tmp).2 = true then simpL 3 4 ⟨x0, x1, x2, x3, x4, x5⟩ ⟨y0, y1, y2, y3, y4, y5⟩ tmp else ([], false)) = ([], false) := by
        rfl
      rw [e]
      exact rs_H4 b off cap c0 c1 _ c3 c4 c5 o0 o1 4 o3 o4 o5 x0 x1 x2 x3 x4 x5 y0 y1 y2 y3 y4 y5 z0 z1 z2 z3 z4 z5 tmp w hc hb ht0 ht1 hW hq _ rfl hi n0 no rfl (by decide) trivial
    · have e : (if (simpL 4 4 ⟨x0, x1, x2, x3, x4, x5⟩ ⟨y0, y1, y2, y3, y4, y5⟩ tmp).2 = true then simpL 4 4 ⟨x0, x1, x2, x3, x4, x5⟩ ⟨y0, y1, y2, y3, y4, y5⟩ tmp else ([], false)) = ([⟨4, 32, 11, 0, [⟨x0, x1, x2, x3, x4, x5⟩, ⟨y0, y1, y2, y3, y4, y5⟩]⟩, ⟨4, 1, 17, 0, [(tmpA tmp), (wordA 0)]⟩, ⟨3, 32, 2, 0, [tmpA (tmp + 1)]⟩], true) := by
        rfl
      rw [e]
      exact rs_G4_4 b off cap c0 c1 _ c3 c4 c5 o0 o1 4 o3 o4 o5 x0 x1 x2 x3 x4 x5 y0 y1 y2 y3 y4 y5 z0 z1 z2 z3 z4 z5 tmp w hc hb ht0 ht1 hW hq _ rfl hi n0 no rfl rfl
    · have e : (if (simpL 5 4 ⟨x0, x1, x2, x3, x4, x5⟩ ⟨y0, y1, y2, y3, y4, y5⟩ tmp).2 = true then simpL 5 4 ⟨x0, x1, x2, x3, x4, x5⟩ ⟨y0, y1, y2, y3, y4, y5⟩ tmp else ([], false)) = ([⟨4, 32, 11, 0, [⟨x0, x1, x2, x3, x4, x5⟩, ⟨y0, y1, y2, y3, y4, y5⟩]⟩, ⟨4, 1, 19, 0, [(wordA 0), (tmpA tmp)]⟩, ⟨3, 32, 2, 0, [tmpA (tmp + 1)]⟩], true) := by
        rfl
      rw [e]
      exact rs_G5_4 b off cap c0 c1 _ c3 c4 c5 o0 o1 4 o3 o4 o5 x0 x1 x2 x3 x4 x5 y0 y1 y2 y3 y4 y5 z0 z1 z2 z3 z4 z5 tmp w hc hb ht0 ht1 hW hq _ rfl hi n0 no rfl rfl
    · have e : (if (simpL 6 4 ⟨x0, x1, x2, x3, x4, x5⟩ ⟨y0, y1, y2, y3, y4, y5⟩ tmp).2 = true then simpL 6 4 ⟨x0, x1, x2, x3, x4, x5⟩ ⟨y0, y1, y2, y3, y4, y5⟩ tmp else ([], false)) = ([], false) := by
        rfl
      rw [e]
      exact rs_H4 b off cap c0 c1 _ c3 c4 c5 o0 o1 4 o3 o4 o5 x0 x1 x2 x3 x4 x5 y0 y1 y2 y3 y4 y5 z0 z1 z2 z3 z4 z5 tmp w hc hb ht0 ht1 hW hq _ rfl hi n0 no rfl (by decide) trivial
    · have e : (if (simpL 7 4 ⟨x0, x1, x2, x3, x4, x5⟩ ⟨y0, y1, y2, y3, y4, y5⟩ tmp).2 = true then simpL 7 4 ⟨x0, x1, x2, x3, x4, x5⟩ ⟨y0, y1, y2, y3, y4, y5⟩ tmp else ([], false)) = ([], false) := by
        rfl
      rw [e]
      exact rs_H4 b off cap c0 c1 _ c3 c4 c5 o0 o1 4 o3 o4 o5 x0 x1 x2 x3 x4 x5 y0 y1 y2 y3 y4 y5 z0 z1 z2 z3 z4 z5 tmp w hc hb ht0 ht1 hW hq _ rfl hi n0 no rfl (by decide) trivial
    · have e : (if (simpL 8 4 ⟨x0, x1, x2, x3, x4, x5⟩ ⟨y0, y1, y2, y3, y4, y5⟩ tmp).2 = true then simpL 8 4 ⟨x0, x1, x2, x3, x4, x5⟩ ⟨y0, y1, y2, y3, y4, y5⟩ tmp else ([], false)) = ([], false) := by
        rfl
      rw [e]
      exact rs_H4 b off cap c0 c1 _ c3 c4 c5 o0 o1 4 o3 o4 o5 x0 x1 x2 x3 x4 x5 y0 y1 y2 y3 y4 y5 z0 z1 z2 z3 z4 z5 tmp w hc hb ht0 ht1 hW hq _ rfl hi n0 no rfl (by decide) trivial
    · have e : (if (simpL 9 4 ⟨x0, x1, x2, x3, x4, x5⟩ ⟨y0, y1, y2, y3, y4, y5⟩ tmp).2 = true then simpL 9 4 ⟨x0, x1, x2, x3, x4, x5⟩ ⟨y0, y1, y2, y3, y4, y5⟩ tmp else ([], false)) = ([], false) := by
        rfl
      rw [e]
      exact rs_H4 b off cap c0 c1 _ c3 c4 c5 o0 o1 4 o3 o4 o5 x0 x1 x2 x3 x4 x5 y0 y1 y2 y3 y4 y5 z0 z1 z2 z3 z4 z5 tmp w hc hb ht0 ht1 hW hq _ rfl hi n0 no rfl (by decide) trivial
    · have e : (if (simpL 10 4 ⟨x0, x1, x2, x3, x4, x5⟩ ⟨y0, y1, y2, y3, y4, y5⟩ tmp).2 = true then simpL 10 4 ⟨x0, x1, x2, x3, x4, x5⟩ ⟨y0, y1, y2, y3, y4, y5⟩ tmp else ([], false)) = ([], false) := by
        rfl
      rw [e]
      exact rs_H4 b off cap c0 c1 _ c3 c4 c5 o0 o1 4 o3 o4 o5 x0 x1 x2 x3 x4 x5 y0 y1 y2 y3 y4 y5 z0 z1 z2 z3 z4 z5 tmp w hc hb ht0 ht1 hW hq _ rfl hi n0 no rfl (by decide) trivial
    · have e : (if (simpL 11 4 ⟨x0, x1, x2, x3, x4, x5⟩ ⟨y0, y1, y2, y3, y4, y5⟩ tmp).2 = true then simpL 11 4 ⟨x0, x1, x2, x3, x4, x5⟩ ⟨y0, y1, y2, y3, y4, y5⟩ tmp else ([], false)) = ([], false) := by
        rfl
      rw [e]
      exact rs_H4 b off cap c0 c1 _ c3 c4 c5 o0 o1 4 o3 o4 o5 x0 x1 x2 x3 x4 x5 y0 y1 y2 y3 y4 y5 z0 z1 z2 z3 z4 z5 tmp w hc hb ht0 ht1 hW hq _ rfl hi n0 no rfl (by decide) trivial
    · have e : (if (simpL 12 4 ⟨x0, x1, x2, x3, x4, x5⟩ ⟨y0, y1, y2, y3, y4, y5⟩ tmp).2 = true then simpL 12 4 ⟨x0, x1, x2, x3, x4, x5⟩ ⟨y0, y1, y2, y3, y4, y5⟩ tmp else ([], false)) = ([], false) := by
        rfl
      rw [e]
      exact rs_H4 b off cap c0 c1 _ c3 c4 c5 o0 o1 4 o3 o4 o5 x0 x1 x2 x3 x4 x5 y0 y1 y2 y3 y4 y5 z0 z1 z2 z3 z4 z5 tmp w hc hb ht0 ht1 hW hq _ rfl hi n0 no rfl (by decide) trivial
    · have e : (if (simpL 13 4 ⟨x0, x1, x2, x3, x4, x5⟩ ⟨y0, y1, y2, y3, y4, y5⟩ tmp).2 = true then simpL 13 4 ⟨x0, x1, x2, x3, x4, x5⟩ ⟨y0, y1, y2, y3, y4, y5⟩ tmp else ([], false)) = ([], false) := by
        rfl
      rw [e]
      exact rs_H4 b off cap c0 c1 _ c3 c4 c5 o0 o1 4 o3 o4 o5 x0 x1 x2 x3 x4 x5 y0 y1 y2 y3 y4 y5 z0 z1 z2 z3 z4 z5 tmp w hc hb ht0 ht1 hW hq _ rfl hi n0 no rfl (by decide) trivial
  · rcases hx with rfl | rfl | rfl | rfl | rfl | rfl | rfl | rfl | rfl | rfl | rfl | rfl | rfl | rfl
    · have e : (if (simpL 0 5 ⟨x0, x1, x2, x3, x4, x5⟩ ⟨y0, y1, y2, y3, y4, y5⟩ tmp).2 = true then simpL 0 5 ⟨x0, x1, x2, x3, x4, x5⟩ ⟨y0, y1, y2, y3, y4, y5⟩ tmp else ([], false)) = ([⟨4, 32, 12, 0, [⟨x0, x1, x2, x3, x4, x5⟩, ⟨y0, y1, y2, y3, y4, y5⟩]⟩, ⟨4, 1, 14, 0, [(tmpA tmp), (wordA 0)]⟩, ⟨3, 32, 2, 0, [tmpA (tmp + 1)]⟩], true) := by
        rfl
      rw [e]
      exact rs_G0_5 b off cap c0 c1 _ c3 c4 c5 o0 o1 5 o3 o4 o5 x0 x1 x2 x3 x4 x5 y0 y1 y2 y3 y4 y5 z0 z1 z2 z3 z4 z5 tmp w hc hb ht0 ht1 hW hq _ rfl hi n0 no rfl rfl
    · have e : (if (simpL 1 5 ⟨x0, x1, x2, x3, x4, x5⟩ ⟨y0, y1, y2, y3, y4, y5⟩ tmp).2 = true then simpL 1 5 ⟨x0, x1, x2, x3, x4, x5⟩ ⟨y0, y1, y2, y3, y4, y5⟩ tmp else ([], false)) = ([⟨4, 32, 12, 0, [⟨x0, x1, x2, x3, x4, x5⟩, ⟨y0, y1, y2, y3, y4, y5⟩]⟩, ⟨4, 1, 15, 0, [(tmpA tmp), (wordA 0)]⟩, ⟨3, 32, 2, 0, [tmpA (tmp + 1)]⟩], true) := by
        rfl
      rw [e]
      exact rs_G1_5 b off cap c0 c1 _ c3 c4 c5 o0 o1 5 o3 o4 o5 x0 x1 x2 x3 x4 x5 y0 y1 y2 y3 y4 y5 z0 z1 z2 z3 z4 z5 tmp w hc hb ht0 ht1 hW hq _ rfl hi n0 no rfl rfl
    · have e : (if (simpL 2 5 ⟨x0, x1, x2, x3, x4, x5⟩ ⟨y0, y1, y2, y3, y4, y5⟩ tmp).2 = true then simpL 2 5 ⟨x0, x1, x2, x3, x4, x5⟩ ⟨y0, y1, y2, y3, y4, y5⟩ tmp else ([], false)) = ([], false) := by
        rfl
      rw [e]
      exact rs_H5 b off cap c0 c1 _ c3 c4 c5 o0 o1 5 o3 o4 o5 x0 x1 x2 x3 x4 x5 y0 y1 y2 y3 y4 y5 z0 z1 z2 z3 z4 z5 tmp w hc hb ht0 ht1 hW hq _ rfl hi n0 no rfl (by decide) trivial
    · have e : (if (simpL 3 5 ⟨x0, x1, x2, x3, x4, x5⟩ ⟨y0, y1, y2, y3, y4, y5⟩ tmp).2 = true then simpL 3 5 ⟨x0, x1, x2, x3, x4, x5⟩ ⟨y0, y1, y2, y3, y4, y5⟩ tmp else ([], false)) = ([], false) := by
        rfl
      rw [e]
      exact rs_H5 b off cap c0 c1 _ c3 c4 c5 o0 o1 5 o3 o4 o5 x0 x1 x2 x3 x4 x5 y0 y1 y2 y3 y4 y5 z0 z1 z2 z3 z4 z5 tmp w hc hb ht0 ht1 hW hq _ rfl hi n0 no rfl (by decide) trivial
    · have e : (if (simpL 4 5 ⟨x0, x1, x2, x3, x4, x5⟩ ⟨y0, y1, y2, y3, y4, y5⟩ tmp).2 = true then simpL 4 5 ⟨x0, x1, x2, x3, x4, x5⟩ ⟨y0, y1, y2, y3, y4, y5⟩ tmp else ([], false)) = ([⟨4, 32, 12, 0, [⟨x0, x1, x2, x3, x4, x5⟩, ⟨y0, y1, y2, y3, y4, y5⟩]⟩, ⟨4, 1, 17, 0, [(tmpA tmp), (wordA 0)]⟩, ⟨3, 32, 2, 0, [tmpA (tmp + 1)]⟩], true) := by
        rfl
      rw [e]
      exact rs_G4_5 b off cap c0 c1 _ c3 c4 c5 o0 o1 5 o3 o4 o5 x0 x1 x2 x3 x4 x5 y0 y1 y2 y3 y4 y5 z0 z1 z2 z3 z4 z5 tmp w hc hb ht0 ht1 hW hq _ rfl hi n0 no rfl rfl
    · have e : (if (simpL 5 5 ⟨x0, x1, x2, x3, x4, x5⟩ ⟨y0, y1, y2, y3, y4, y5⟩ tmp).2 = true then simpL 5 5 ⟨x0, x1, x2, x3, x4, x5⟩ ⟨y0, y1, y2, y3, y4, y5⟩ tmp else ([], false)) = ([⟨4, 32, 12, 0, [⟨x0, x1, x2, x3, x4, x5⟩, ⟨y0, y1, y2, y3, y4, y5⟩]⟩, ⟨4, 1, 19, 0, [(wordA 0), (tmpA tmp)]⟩, ⟨3, 32, 2, 0, [tmpA (tmp + 1)]⟩], true) := by
        rfl
      rw [e]
      exact rs_G5_5 b off cap c0 c1 _ c3 c4 c5 o0 o1 5 o3 o4 o5 x0 x1 x2 x3 x4 x5 y0 y1 y2 y3 y4 y5 z0 z1 z2 z3 z4 z5 tmp w hc hb ht0 ht1 hW hq _ rfl hi n0 no rfl rfl
    · have e : (if (simpL 6 5 ⟨x0, x1, x2, x3, x4, x5⟩ ⟨y0, y1, y2, y3, y4, y5⟩ tmp).2 = true then simpL 6 5 ⟨x0, x1, x2, x3, x4, x5⟩ ⟨y0, y1, y2, y3, y4, y5⟩ tmp else ([], false)) = ([], false) := by
        rfl
      rw [e]
      exact rs_H5 b off cap c0 c1 _ c3 c4 c5 o0 o1 5 o3 o4 o5 x0 x1 x2 x3 x4 x5 y0 y1 y2 y3 y4 y5 z0 z1 z2 z3 z4 z5 tmp w hc hb ht0 ht1 hW hq _ rfl hi n0 no rfl (by decide) trivial
    · have e : (if (simpL 7 5 ⟨x0, x1, x2, x3, x4, x5⟩ ⟨y0, y1, y2, y3, y4, y5⟩ tmp).2 = true then simpL 7 5 ⟨x0, x1, x2, x3, x4, x5⟩ ⟨y0, y1, y2, y3, y4, y5⟩ tmp else ([], false)) = ([], false) := by
        rfl
      rw [e]
      exact rs_H5 b off cap c0 c1 _ c3 c4 c5 o0 o1 5 o3 o4 o5 x0 x1 x2 x3 x4 x5 y0 y1 y2 y3 y4 y5 z0 z1 z2 z3 z4 z5 tmp w hc hb ht0 ht1 hW hq _ rfl hi n0 no rfl (by decide) trivial
    · have e : (if (simpL 8 5 ⟨x0, x1, x2, x3, x4, x5⟩ ⟨y0, y1, y2, y3, y4, y5⟩ tmp).2 = true then simpL 8 5 ⟨x0, x1, x2, x3, x4, x5⟩ ⟨y0, y1, y2, y3, y4, y5⟩ tmp else ([], false)) = ([], false) := by
        rfl
      rw [e]
      exact rs_H5 b off cap c0 c1 _ c3 c4 c5 o0 o1 5 o3 o4 o5 x0 x1 x2 x3 x4 x5 y0 y1 y2 y3 y4 y5 z0 z1 z2 z3 z4 z5 tmp w hc hb ht0 ht1 hW hq _ rfl hi n0 no rfl (by decide) trivial
    · have e : (if (simpL 9 5 ⟨x0, x1, x2, x3, x4, x5⟩ ⟨y0, y1, y2, y3, y4, y5⟩ tmp).2 = true then simpL 9 5 ⟨x0, x1, x2, x3, x4, x5⟩ ⟨y0, y1, y2, y3, y4, y5⟩ tmp else ([], false)) = ([], false) := by
        rfl
      rw [e]
      exact rs_H5 b off cap c0 c1 _ c3 c4 c5 o0 o1 5 o3 o4 o5 x0 x1 x2 x3 x4 x5 y0 y1 y2 y3 y4 y5 z0 z1 z2 z3 z4 z5 tmp w hc hb ht0 ht1 hW hq _ rfl hi n0 no rfl (by decide) trivial
    · have e : (if (simpL 10 5 ⟨x0, x1, x2, x3, x4, x5⟩ ⟨y0, y1, y2, y3, y4, y5⟩ tmp).2 = true then simpL 10 5 ⟨x0, x1, x2, x3, x4, x5⟩ ⟨y0, y1, y2, y3, y4, y5⟩ tmp else ([], false)) = ([], false) := by
        rfl
      rw [e]
      exact rs_H5 b off cap c0 c1 _ c3 c4 c5 o0 o1 5 o3 o4 o5 x0 x1 x2 x3 x4 x5 y0 y1 y2 y3 y4 y5 z0 z1 z2 z3 z4 z5 tmp w hc hb ht0 ht1 hW hq _ rfl hi n0 no rfl (by decide) trivial
    · have e : (if (simpL 11 5 ⟨x0, x1, x2, x3, x4, x5⟩ ⟨y0, y1, y2, y3, y4, y5⟩ tmp).2 = true then simpL 11 5 ⟨x0, x1, x2, x3, x4, x5⟩ ⟨y0, y1, y2, y3, y4, y5⟩ tmp else ([], false)) = ([], false) := by
        rfl
      rw [e]
      exact rs_H5 b off cap c0 c1 _ c3 c4 c5 o0 o1 5 o3 o4 o5 x0 x1 x2 x3 x4 x5 y0 y1 y2 y3 y4 y5 z0 z1 z2 z3 z4 z5 tmp w hc hb ht0 ht1 hW hq _ rfl hi n0 no rfl (by decide) trivial
    · have e : (if (simpL 12 5 ⟨x0, x1, x2, x3, x4, x5⟩ ⟨y0, y1, y2, y3, y4, y5⟩ tmp).2 = true then simpL 12 5 ⟨x0, x1, x2, x3, x4, x5⟩ ⟨y0, y1, y2, y3, y4, y5⟩ tmp else ([], false)) = ([], false) := by
        rfl
      rw [e]
      exact rs_H5 b off cap c0 c1 _ c3 c4 c5 o0 o1 5 o3 o4 o5 x0 x1 x2 x3 x4 x5 y0 y1 y2 y3 y4 y5 z0 z1 z2 z3 z4 z5 tmp w hc hb ht0 ht1 hW hq _ rfl hi n0 no rfl (by decide) trivial
    · have e : (if (simpL 13 5 ⟨x0, x1, x2, x3, x4, x5⟩ ⟨y0, y1, y2, y3, y4, y5⟩ tmp).2 = true then simpL 13 5 ⟨x0, x1, x2, x3, x4, x5⟩ ⟨y0, y1, y2, y3, y4, y5⟩ tmp else ([], false)) = ([], false) := by
        rfl
      rw [e]
      exact rs_H5 b off cap c0 c1 _ c3 c4 c5 o0 o1 5 o3 o4 o5 x0 x1 x2 x3 x4 x5 y0 y1 y2 y3 y4 y5 z0 z1 z2 z3 z4 z5 tmp w hc hb ht0 ht1 hW hq _ rfl hi n0 no rfl (by decide) trivial
  · rcases hx with rfl | rfl | rfl | rfl | rfl | rfl | rfl | rfl | rfl | rfl | rfl | rfl | rfl | rfl
    · have e : (if (simpL 0 6 ⟨x0, x1, x2, x3, x4, x5⟩ ⟨y0, y1, y2, y3, y4, y5⟩ tmp).2 = true then simpL 0 6 ⟨x0, x1, x2, x3, x4, x5⟩ ⟨y0, y1, y2, y3, y4, y5⟩ tmp else ([], false)) = ([⟨4, 32, 13, 0, [⟨x0, x1, x2, x3, x4, x5⟩, ⟨y0, y1, y2, y3, y4, y5⟩]⟩, ⟨4, 1, 14, 0, [(tmpA tmp), (wordA 0)]⟩, ⟨3, 32, 2, 0, [tmpA (tmp + 1)]⟩], true) := by
        rfl
      rw [e]
      exact rs_G0_6 b off cap c0 c1 _ c3 c4 c5 o0 o1 6 o3 o4 o5 x0 x1 x2 x3 x4 x5 y0 y1 y2 y3 y4 y5 z0 z1 z2 z3 z4 z5 tmp w hc hb ht0 ht1 hW hq _ rfl hi n0 no rfl rfl
    · have e : (if (simpL 1 6 ⟨x0, x1, x2, x3, x4, x5⟩ ⟨y0, y1, y2, y3, y4, y5⟩ tmp).2 = true then simpL 1 6 ⟨x0, x1, x2, x3, x4, x5⟩ ⟨y0, y1, y2, y3, y4, y5⟩ tmp else ([], false)) = ([⟨4, 32, 13, 0, [⟨x0, x1, x2, x3, x4, x5⟩, ⟨y0, y1, y2, y3, y4, y5⟩]⟩, ⟨4, 1, 15, 0, [(tmpA tmp), (wordA 0)]⟩, ⟨3, 32, 2, 0, [tmpA (tmp + 1)]⟩], true) := by
        rfl
      rw [e]
      exact rs_G1_6 b off cap c0 c1 _ c3 c4 c5 o0 o1 6 o3 o4 o5 x0 x1 x2 x3 x4 x5 y0 y1 y2 y3 y4 y5 z0 z1 z2 z3 z4 z5 tmp w hc hb ht0 ht1 hW hq _ rfl hi n0 no rfl rfl
    · have e : (if (simpL 2 6 ⟨x0, x1, x2, x3, x4, x5⟩ ⟨y0, y1, y2, y3, y4, y5⟩ tmp).2 = true then simpL 2 6 ⟨x0, x1, x2, x3, x4, x5⟩ ⟨y0, y1, y2, y3, y4, y5⟩ tmp else ([], false)) = ([], false) := by
        rfl
      rw [e]
      exact rs_H6 b off cap c0 c1 _ c3 c4 c5 o0 o1 6 o3 o4 o5 x0 x1 x2 x3 x4 x5 y0 y1 y2 y3 y4 y5 z0 z1 z2 z3 z4 z5 tmp w hc hb ht0 ht1 hW hq _ rfl hi n0 no rfl (by decide) trivial
    · have e : (if (simpL 3 6 ⟨x0, x1, x2, x3, x4, x5⟩ ⟨y0, y1, y2, y3, y4, y5⟩ tmp).2 = true then simpL 3 6 ⟨x0, x1, x2, x3, x4, x5⟩ ⟨y0, y1, y2, y3, y4, y5⟩ tmp else ([], false)) = ([], false) := by
        rfl
      rw [e]
      exact rs_H6 b off cap c0 c1 _ c3 c4 c5 o0 o1 6 o3 o4 o5 x0 x1 x2 x3 x4 x5 y0 y1 y2 y3 y4 y5 z0 z1 z2 z3 z4 z5 tmp w hc hb ht0 ht1 hW hq _ rfl hi n0 no rfl (by decide) trivial
    · have e : (if (simpL 4 6 ⟨x0, x1, x2, x3, x4, x5⟩ ⟨y0, y1, y2, y3, y4, y5⟩ tmp).2 = true then simpL 4 6 ⟨x0, x1, x2, x3, x4, x5⟩ ⟨y0, y1, y2, y3, y4, y5⟩ tmp else ([], false)) = ([⟨4, 32, 13, 0, [⟨x0, x1, x2, x3, x4, x5⟩, ⟨y0, y1, y2, y3, y4, y5⟩]⟩, ⟨4, 1, 17, 0, [(tmpA tmp), (wordA 0)]⟩, ⟨3, 32, 2, 0, [tmpA (tmp + 1)]⟩], true) := by
        rfl
      rw [e]
      exact rs_G4_6 b off cap c0 c1 _ c3 c4 c5 o0 o1 6 o3 o4 o5 x0 x1 x2 x3 x4 x5 y0 y1 y2 y3 y4 y5 z0 z1 z2 z3 z4 z5 tmp w hc hb ht0 ht1 hW hq _ rfl hi n0 no rfl rfl
    · have e : (if (simpL 5 6 ⟨x0, x1, x2, x3, x4, x5⟩ ⟨y0, y1, y2, y3, y4, y5⟩ tmp).2 = true then simpL 5 6 ⟨x0, x1, x2, x3, x4, x5⟩ ⟨y0, y1, y2, y3, y4, y5⟩ tmp else ([], false)) = ([⟨4, 32, 13, 0, [⟨x0, x1, x2, x3, x4, x5⟩, ⟨y0, y1, y2, y3, y4, y5⟩]⟩, ⟨4, 1, 19, 0, [(wordA 0), (tmpA tmp)]⟩, ⟨3, 32, 2, 0, [tmpA (tmp + 1)]⟩], true) := by
        rfl
      rw [e]
      exact rs_G5_6 b off cap c0 c1 _ c3 c4 c5 o0 o1 6 o3 o4 o5 x0 x1 x2 x3 x4 x5 y0 y1 y2 y3 y4 y5 z0 z1 z2 z3 z4 z5 tmp w hc hb ht0 ht1 hW hq _ rfl hi n0 no rfl rfl
    · have e : (if (simpL 6 6 ⟨x0, x1, x2, x3, x4, x5⟩ ⟨y0, y1, y2, y3, y4, y5⟩ tmp).2 = true then simpL 6 6 ⟨x0, x1, x2, x3, x4, x5⟩ ⟨y0, y1, y2, y3, y4, y5⟩ tmp else ([], false)) = ([], false) := by
        rfl
      rw [e]
      exact rs_H6 b off cap c0 c1 _ c3 c4 c5 o0 o1 6 o3 o4 o5 x0 x1 x2 x3 x4 x5 y0 y1 y2 y3 y4 y5 z0 z1 z2 z3 z4 z5 tmp w hc hb ht0 ht1 hW hq _ rfl hi n0 no rfl (by decide) trivial
    · have e : (if (simpL 7 6 ⟨x0, x1, x2, x3, x4, x5⟩ ⟨y0, y1, y2, y3, y4, y5⟩ tmp).2 = true then simpL 7 6 ⟨x0, x1, x2, x3, x4, x5⟩ ⟨y0, y1, y2, y3, y4, y5⟩ tmp else ([], false)) = ([], false) := by
        rfl
      rw [e]
      exact rs_H6 b off cap c0 c1 _ c3 c4 c5 o0 o1 6 o3 o4 o5 x0 x1 x2 x3 x4 x5 y0 y1 y2 y3 y4 y5 z0 z1 z2 z3 z4 z5 tmp w hc hb ht0 ht1 hW hq _ rfl hi n0 no rfl (by decide) trivial
    · have e : (if (simpL 8 6 ⟨x0, x1, x2, x3, x4, x5⟩ ⟨y0, y1, y2, y3, y4, y5⟩ tmp).2 = true then simpL 8 6 ⟨x0, x1, x2, x3, x4, x5⟩ ⟨y0, y1, y2, y3, y4, y5⟩ tmp else ([], false)) = ([], false) := by
        rfl
      rw [e]
      exact rs_H6 b off cap c0 c1 _ c3 c4 c5 o0 o1 6 o3 o4 o5 x0 x1 x2 x3 x4 x5 y0 y1 y2 y3 y4 y5 z0 z1 z2 z3 z4 z5 tmp w hc hb ht0 ht1 hW hq _ rfl hi n0 no rfl (by decide) trivial
    · have e : (if (simpL 9 6 ⟨x0, x1, x2, x3, x4, x5⟩ ⟨y0, y1, y2, y3, y4, y5⟩ tmp).2 = true then simpL 9 6 ⟨x0, x1, x2, x3, x4, x5⟩ ⟨y0, y1, y2, y3, y4, y5⟩ tmp else ([], false)) = ([], false) := by
        rfl
      rw [e]
      exact rs_H6 b off cap c0 c1 _ c3 c4 c5 o0 o1 6 o3 o4 o5 x0 x1 x2 x3 x4 x5 y0 y1 y2 y3 y4 y5 z0 z1 z2 z3 z4 z5 tmp w hc hb ht0 ht1 hW hq _ rfl hi n0 no rfl (by decide) trivial
    · have e : (if (simpL 10 6 ⟨x0, x1, x2, x3, x4, x5⟩ ⟨y0, y1, y2, y3, y4, y5⟩ tmp).2 = true then simpL 10 6 ⟨x0, x1, x2, x3, x4, x5⟩ ⟨y0, y1, y2, y3, y4, y5⟩ tmp else ([], false)) = ([], false) := by
        rfl
      rw [e]
      exact rs_H6 b off cap c0 c1 _ c3 c4 c5 o0 o1 6 o3 o4 o5 x0 x1 x2 x3 x4 x5 y0 y1 y2 y3 y4 y5 z0 z1 z2 z3 z4 z5 tmp w hc hb ht0 ht1 hW hq _ rfl hi n0 no rfl (by decide) trivial
    · have e : (if (simpL 11 6 ⟨x0, x1, x2, x3, x4, x5⟩ ⟨y0, y1, y2, y3, y4, y5⟩ tmp).2 = true then simpL 11 6 ⟨x0, x1, x2, x3, x4, x5⟩ ⟨y0, y1, y2, y3, y4, y5⟩ tmp else ([], false)) = ([], false) := by
        rfl
      rw [e]
      exact rs_H6 b off cap c0 c1 _ c3 c4 c5 o0 o1 6 o3 o4 o5 x0 x1 x2 x3 x4 x5 y0 y1 y2 y3 y4 y5 z0 z1 z2 z3 z4 z5 tmp w hc hb ht0 ht1 hW hq _ rfl hi n0 no rfl (by decide) trivial
    · have e : (if (simpL 12 6 ⟨x0, x1, x2, x3, x4, x5⟩ ⟨y0, y1, y2, y3, y4, y5⟩ tmp).2 = true then simpL 12 6 ⟨x0, x1, x2, x3, x4, x5⟩ ⟨y0, y1, y2, y3, y4, y5⟩ tmp else ([], false)) = ([], false) := by
        rfl
      rw [e]
      exact rs_H6 b off cap c0 c1 _ c3 c4 c5 o0 o1 6 o3 o4 o5 x0 x1 x2 x3 x4 x5 y0 y1 y2 y3 y4 y5 z0 z1 z2 z3 z4 z5 tmp w hc hb ht0 ht1 hW hq _ rfl hi n0 no rfl (by decide) trivial
    · have e : (if (simpL 13 6 ⟨x0, x1, x2, x3, x4, x5⟩ ⟨y0, y1, y2, y3, y4, y5⟩ tmp).2 = true then simpL 13 6 ⟨x0, x1, x2, x3, x4, x5⟩ ⟨y0, y1, y2, y3, y4, y5⟩ tmp else ([], false)) = ([], false) := by
        rfl
      rw [e]
      exact rs_H6 b off cap c0 c1 _ c3 c4 c5 o0 o1 6 o3 o4 o5 x0 x1 x2 x3 x4 x5 y0 y1 y2 y3 y4 y5 z0 z1 z2 z3 z4 z5 tmp w hc hb ht0 ht1 hW hq _ rfl hi n0 no rfl (by decide) trivial
  · have e : (if (simpL i o2 ⟨x0, x1, x2, x3, x4, x5⟩ ⟨y0, y1, y2, y3, y4, y5⟩ tmp).2 = true then simpL i o2 ⟨x0, x1, x2, x3, x4, x5⟩ ⟨y0, y1, y2, y3, y4, y5⟩ tmp else ([], false)) = ([], false) := by
      have e1 : simpL i o2 ⟨x0, x1, x2, x3, x4, x5⟩ ⟨y0, y1, y2, y3, y4, y5⟩ tmp = ([], false) := by
        have h0 : opB o2 = 0 := by unfold opB; rw [if_neg (by omega), if_neg (by omega), if_neg (by omega), if_neg (by omega), if_neg (by omega)]
        unfold simpL
        rw [if_neg (fun q => by omega), if_neg (by omega), if_neg (by omega), if_neg (by omega), if_neg (by omega)]
        split
        · first | rfl | (rw [if_pos h0])
        · rfl
      rw [e1]; rfl
    rw [e]
    exact rs_X b off cap c0 c1 _ c3 c4 c5 o0 o1 o2 o3 o4 o5 x0 x1 x2 x3 x4 x5 y0 y1 y2 y3 y4 y5 z0 z1 z2 z3 z4 z5 tmp w hc hb ht0 ht1 hW hq i rfl hi n0 no ho
theorem rs_five (b off cap : Nat) (c0 c1 c2 c3 c4 c5 o0 o1 o2 o3 o4 o5 x0 x1 x2 x3 x4 x5 y0 y1 y2 y3 y4 y5 z0 z1 z2 z3 z4 z5 tmp : Int) (w : World) (hc : AtomsIn w b off [⟨c0, c1, c2, c3, c4, c5⟩, ⟨o0, o1, o2, o3, o4, o5⟩, ⟨x0, x1, x2, x3, x4, x5⟩, ⟨y0, y1, y2, y3, y4, y5⟩, ⟨z0, z1, z2, z3, z4, z5⟩]) (hb : b < w.heap.size) (hok : ∀ a ∈ ([⟨c0, c1, c2, c3, c4, c5⟩, ⟨o0, o1, o2, o3, o4, o5⟩, ⟨x0, x1, x2, x3, x4, x5⟩, ⟨y0, y1, y2, y3, y4, y5⟩, ⟨z0, z1, z2, z3, z4, z5⟩] : List Atom), Atom.ok a) (ht0 : 0 ≤ tmp) (ht1 : tmp ≤ 4000) (hW : ∀ a ∈ [⟨c0, c1, c2, c3, c4, c5⟩, ⟨o0, o1, o2, o3, o4, o5⟩, ⟨x0, x1, x2, x3, x4, x5⟩, ⟨y0, y1, y2, y3, y4, y5⟩, ⟨z0, z1, z2, z3, z4, z5⟩], isW a = true) :
    Calls Try.prog 14 #[.slice (some ⟨b, off, none⟩) 5 cap, .int .i64 tmp] w (RfPost (simp5 ⟨c0, c1, c2, c3, c4, c5⟩ ⟨o0, o1, o2, o3, o4, o5⟩ ⟨x0, x1, x2, x3, x4, x5⟩ ⟨y0, y1, y2, y3, y4, y5⟩ ⟨z0, z1, z2, z3, z4, z5⟩ tmp) w) := by
  have kc := hok (⟨c0, c1, c2, c3, c4, c5⟩ : Atom) (by simp)
  have ko := hok (⟨o0, o1, o2, o3, o4, o5⟩ : Atom) (by simp)
  have ka := hok (⟨x0, x1, x2, x3, x4, x5⟩ : Atom) (by simp)
  have kb := hok (⟨y0, y1, y2, y3, y4, y5⟩ : Atom) (by simp)
  have kd := hok (⟨z0, z1, z2, z3, z4, z5⟩ : Atom) (by simp)
  unfold Atom.ok at kc ko ka kb kd
  dsimp only at kc ko ka kb kd
  unfold simp5
  dsimp only
  by_cases hall : c0 < 0 ∧ o0 < 0 ∧ x0 < 0 ∧ y0 < 0 ∧ z0 < 0
  · rw [if_pos hall]
    have hq : allNeg [⟨c0, c1, c2, c3, c4, c5⟩, ⟨o0, o1, o2, o3, o4, o5⟩, ⟨x0, x1, x2, x3, x4, x5⟩, ⟨y0, y1, y2, y3, y4, y5⟩, ⟨z0, z1, z2, z3, z4, z5⟩] = true := by simp [allNeg, hall]
    by_cases h16 : c2 < 16
    · have e : (if c2 ≤ 15 ∧ condF c2 o2 x2 y2 z2 = true then (1 : Int) else 0) = if condF c2 o2 x2 y2 z2 = true then 1 else 0 := by
        by_cases hcd : condF c2 o2 x2 y2 z2 = true
        · rw [if_pos ⟨by omega, hcd⟩, if_pos hcd]
        · rw [if_neg (fun q => hcd q.2), if_neg hcd]
      rw [e]
      exact rs_all b off cap c0 c1 c2 c3 c4 c5 o0 o1 o2 o3 o4 o5 x0 x1 x2 x3 x4 x5 y0 y1 y2 y3 y4 y5 z0 z1 z2 z3 z4 z5 tmp w hc hb ht0 ht1 hW hq hall.1 kc.1 ko ka kb kd h16 _ rfl
    · have e : (if c2 ≤ 15 ∧ condF c2 o2 x2 y2 z2 = true then (1 : Int) else 0) = if condF 16 o2 x2 y2 z2 = true then 1 else 0 := by
        have h1 : condF 16 o2 x2 y2 z2 = false := by unfold condF holdsF; rw [if_pos (by omega)]
        rw [if_neg (fun q => by omega), h1]; rfl
      rw [e]
      exact rs_allx b off cap c0 c1 c2 c3 c4 c5 o0 o1 o2 o3 o4 o5 x0 x1 x2 x3 x4 x5 y0 y1 y2 y3 y4 y5 z0 z1 z2 z3 z4 z5 tmp w hc hb ht0 ht1 hW hq hall.1 kc.1 ko ka kb kd (by omega) _ rfl
  · rw [if_neg hall]
    have hq : allNeg [⟨c0, c1, c2, c3, c4, c5⟩, ⟨o0, o1, o2, o3, o4, o5⟩, ⟨x0, x1, x2, x3, x4, x5⟩, ⟨y0, y1, y2, y3, y4, y5⟩, ⟨z0, z1, z2, z3, z4, z5⟩] = false := by
      cases h : allNeg [⟨c0, c1, c2, c3, c4, c5⟩, ⟨o0, o1, o2, o3, o4, o5⟩, ⟨x0, x1, x2, x3, x4, x5⟩, ⟨y0, y1, y2, y3, y4, y5⟩, ⟨z0, z1, z2, z3, z4, z5⟩]
      · rfl
      · exact absurd (by simpa [allNeg] using h) hall
    by_cases n0 : c0 < 0
    · by_cases h15 : c2 ≤ 15
      · rw [if_neg (fun q => q ⟨n0, h15⟩)]
        by_cases h14 : 14 ≤ c2
        · rw [if_pos h14]
          by_cases e14 : c2 = 14
          · rw [if_pos e14]
            exact rs_14 b off cap c0 c1 c2 c3 c4 c5 o0 o1 o2 o3 o4 o5 x0 x1 x2 x3 x4 x5 y0 y1 y2 y3 y4 y5 z0 z1 z2 z3 z4 z5 tmp w hc hb ht0 ht1 hW hq n0 e14
          · rw [if_neg e14]
            exact rs_15 b off cap c0 c1 c2 c3 c4 c5 o0 o1 o2 o3 o4 o5 x0 x1 x2 x3 x4 x5 y0 y1 y2 y3 y4 y5 z0 z1 z2 z3 z4 z5 tmp w hc hb ht0 ht1 hW hq n0 (by omega)
        · rw [if_neg h14]
          by_cases no : 0 ≤ o0
          · rw [if_pos no]
            exact rs_o b off cap c0 c1 c2 c3 c4 c5 o0 o1 o2 o3 o4 o5 x0 x1 x2 x3 x4 x5 y0 y1 y2 y3 y4 y5 z0 z1 z2 z3 z4 z5 tmp w hc hb ht0 ht1 hW hq n0 kc.1 (by omega) no
          · rw [if_neg no]
            obtain ⟨i, hi⟩ := Int.eq_ofNat_of_zero_le kc.1
            subst hi
            rw [Int.toNat_natCast]
            exact rs_six b off cap c0 c1 c3 c4 c5 o0 o1 o2 o3 o4 o5 x0 x1 x2 x3 x4 x5 y0 y1 y2 y3 y4 y5 z0 z1 z2 z3 z4 z5 tmp w i hc hb ht0 ht1 hW hq (by omega) n0 (by omega) ko.1
      · rw [if_pos (fun q => h15 q.2)]
        exact rs_k b off cap c0 c1 c2 c3 c4 c5 o0 o1 o2 o3 o4 o5 x0 x1 x2 x3 x4 x5 y0 y1 y2 y3 y4 y5 z0 z1 z2 z3 z4 z5 tmp w hc hb ht0 ht1 hW hq n0 (by omega)
    · rw [if_pos (fun q => n0 q.1)]
      exact rs_c b off cap c0 c1 c2 c3 c4 c5 o0 o1 o2 o3 o4 o5 x0 x1 x2 x3 x4 x5 y0 y1 y2 y3 y4 y5 z0 z1 z2 z3 z4 z5 tmp w hc hb ht0 ht1 hW hq (by omega)
theorem rsimplify_c (p : Option Addr) (cap : Nat) (l : List Atom) (tmp : Int) (w : World) (h : AtomsAt w p l) :
    Calls Try.prog 14 #[.slice p l.length cap, .int .i64 tmp] w (RfPost (simpF l tmp) w) := by
  have none : simpF l tmp = ([], false) → ∀ (e : Ending) (w' : World), (e = .returned (.tuple #[.slice none 0 0, .bool false]) ∧ New w w') → RfPost (simpF l tmp) w e w' := fun hF e w' ⟨he, hw⟩ => by
    rw [hF]
    exact ⟨_, he, (fun h => nomatch h), fun _ => rfl, hw⟩
  by_cases h5 : l.length = 5
  · obtain ⟨a0, a1, a2, a3, a4, rfl⟩ := five_of l h5
    by_cases t0 : tmp < 0
    · exact (rs_lo p 5 cap tmp w t0).mono (none (by unfold simpF; dsimp only; rw [if_pos (.inl t0)]))
    · by_cases t1 : 4000 < tmp
      · exact (rs_hi p 5 cap tmp w t1).mono (none (by unfold simpF; dsimp only; rw [if_pos (.inr (.inl t1))]))
      · rcases h.1 with h1 | ⟨b, off, rfl, hb, hc⟩
        · cases h1
        · obtain ⟨c0, c1, c2, c3, c4, c5⟩ := a0
          obtain ⟨o0, o1, o2, o3, o4, o5⟩ := a1
          obtain ⟨x0, x1, x2, x3, x4, x5⟩ := a2
          obtain ⟨y0, y1, y2, y3, y4, y5⟩ := a3
          obtain ⟨z0, z1, z2, z3, z4, z5⟩ := a4
          by_cases hW : ∀ a ∈ [⟨c0, c1, c2, c3, c4, c5⟩, ⟨o0, o1, o2, o3, o4, o5⟩, ⟨x0, x1, x2, x3, x4, x5⟩, ⟨y0, y1, y2, y3, y4, y5⟩, ⟨z0, z1, z2, z3, z4, z5⟩], isW a = true
          · have e : simpF [⟨c0, c1, c2, c3, c4, c5⟩, ⟨o0, o1, o2, o3, o4, o5⟩, ⟨x0, x1, x2, x3, x4, x5⟩, ⟨y0, y1, y2, y3, y4, y5⟩, ⟨z0, z1, z2, z3, z4, z5⟩] tmp = simp5 ⟨c0, c1, c2, c3, c4, c5⟩ ⟨o0, o1, o2, o3, o4, o5⟩ ⟨x0, x1, x2, x3, x4, x5⟩ ⟨y0, y1, y2, y3, y4, y5⟩ ⟨z0, z1, z2, z3, z4, z5⟩ tmp := by
              unfold simpF
              dsimp only
              have hno : ¬ (tmp < 0 ∨ 4000 < tmp ∨ ¬ ∀ x ∈ [⟨c0, c1, c2, c3, c4, c5⟩, ⟨o0, o1, o2, o3, o4, o5⟩, ⟨x0, x1, x2, x3, x4, x5⟩, ⟨y0, y1, y2, y3, y4, y5⟩, ⟨z0, z1, z2, z3, z4, z5⟩], isW x = true) := fun q => by
                rcases q with q | q | q
                · exact t0 q
                · exact t1 q
                · exact q hW
              rw [if_neg hno]
            rw [e]
            exact rs_five b off cap c0 c1 c2 c3 c4 c5 o0 o1 o2 o3 o4 o5 x0 x1 x2 x3 x4 x5 y0 y1 y2 y3 y4 y5 z0 z1 z2 z3 z4 z5 tmp w hc hb h.2 (by omega) (by omega) hW
          · have e : simpF [⟨c0, c1, c2, c3, c4, c5⟩, ⟨o0, o1, o2, o3, o4, o5⟩, ⟨x0, x1, x2, x3, x4, x5⟩, ⟨y0, y1, y2, y3, y4, y5⟩, ⟨z0, z1, z2, z3, z4, z5⟩] tmp = ([], false) := by
              unfold simpF
              dsimp only
              rw [if_pos (.inr (.inr hW))]
            rw [e]
            exact rs_bad b off cap c0 c1 c2 c3 c4 c5 o0 o1 o2 o3 o4 o5 x0 x1 x2 x3 x4 x5 y0 y1 y2 y3 y4 y5 z0 z1 z2 z3 z4 z5 tmp w hc hb (by omega) (by omega) hW
  · exact (rs_len p l.length cap tmp w h5).mono (none (simpF_len l tmp h5))
end Go.Proofs.Ytmkjgkldbonpnaa
