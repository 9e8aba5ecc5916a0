/- ThunkChains holds: carries of chains of additions and subtractions are those of the whole numbers. No condition. -/
import Derived.Test.YtmkjgkldbonpnaaKitLaw
import Derived.Test.YtmkjgkldbonpnaaWSane2
import Derived.Test.YtmkjgkldbonpnaaPlainChains
import Derived.Test.YtmkjgkldbonpnaaKitSlice
namespace Go.Proofs.Ytmkjgkldbonpnaa
open Go Go.RowKit Go.Cd Go.ChangeShapes Go.WideShapes Go.ChangeAt
set_option linter.unusedVariables false
attribute [local go_sem ↓] Go.wp_at_zero Go.wp_at_succ 
set_option maxRecDepth 100000 in
set_option maxHeartbeats 4000000 in
theorem chains_some (b off b' off' la lb ca cb : Nat) (xs ys : List Int) (w : World) (hla : xs.length = la) (hlb : ys.length = lb) (h1 : la ≤ 9223372036854775807) (h2 : lb ≤ 9223372036854775807) (hx : ICells .u32 w b off xs) (hy : ICells .u32 w b' off' ys) (hb : b < w.heap.size) (hb' : b' < w.heap.size) :
    Calls Try.prog 6 #[.slice (some ⟨b, off, none⟩) la ca, .slice (some ⟨b', off', none⟩) lb cb] w fun e w' => e = .returned (.bool true) ∧ New w w' := by
  have HX := Lib.hid hx
  have HY := Lib.hid hy
  have HLA := Lib.hid hla
  have HLB := Lib.hid hlb
  clear hx hy hla hlb
  go_enter Try.func6, Try.ntmps6
  go_wp2_with fail
  refine (sane_c _).mono ?_
  rintro e w1 ⟨rfl, hb1⟩
  have N1 := Lib.hid hb1
  clear hb1
  go_upto_region 3 with (fail)
  go_cut [5] (fun v w' => ∃ n : Nat, v = .int .i64 n ∧ n ≤ la ∧ n ≤ lb ∧ n ≤ 30 ∧ w' = w1)
  case first =>
    by_cases e1 : lb < la
    · by_cases e2 : (lb : Int) ≤ 30
      · go_wp2_with fail
        go_meet
        case rel => exact ⟨lb, rfl, by omega, by omega, by omega, rfl⟩
      · go_wp2_with fail
        go_meet
        case rel => exact ⟨30, rfl, by omega, by omega, by omega, rfl⟩
    · have e3 : la ≤ lb := by omega
      by_cases e2 : (la : Int) ≤ 30
      · go_wp2_with fail
        go_meet
        case rel => exact ⟨la, rfl, by omega, by omega, by omega, rfl⟩
      · go_wp2_with fail
        go_meet
        case rel => exact ⟨30, rfl, by omega, by omega, by omega, rfl⟩
  case rest =>
    obtain ⟨n, rfl, hna, hnb, hn, rfl⟩ := hcut
    go_wp2_with fail
    go_loopg [6, 7, 8, 9, 23] n (fun g s l p m c w' => ∃ (i : Nat) (S q r : Int) (L : Bool), s = .int .u64 S ∧ l = .bool L ∧ p = .int .u32 q ∧ m = .int .u32 r ∧ c = .int .i64 i ∧ i + g = n ∧ 0 ≤ S ∧ S < 18446744073709551616 ∧ S / 4294967296 = q ∧ 0 ≤ q ∧ q ≤ 1 ∧ r = (if L then 1 else 0) ∧ (i = 0 → q = 0 ∧ L = false) ∧ New w w')
    case atStart => exact ⟨0, 0, 0, 0, false, rfl, rfl, rfl, rfl, rfl, by omega, by decide, by decide, by decide, by decide, by decide, rfl, fun _ => ⟨rfl, rfl⟩, N1.out⟩
    case round =>
      obtain ⟨i, S, q, r, L, rfl, rfl, rfl, rfl, rfl, hig, hS0, hS1, hSq, hq0, hq1, hr, hz, hN⟩ := hrel
      have HN := Lib.hid hN
      have HR := Lib.hid hr
      have HSQ := Lib.hid hSq
      have HZ := Lib.hid hz
      have HIG := Lib.hid hig
      clear hN hr hSq hz N1
      by_cases hin : i < n
      · have hia : i < xs.length := by rw [HLA.out]; omega
        have hib : i < ys.length := by rw [HLB.out]; omega
        obtain ⟨x, hxx⟩ : ∃ x, xs.getD i 0 = x := ⟨_, rfl⟩
        obtain ⟨y, hyy⟩ : ∃ y, ys.getD i 0 = y := ⟨_, rfl⟩
        obtain ⟨cx, wx⟩ := HX.out i hia
        obtain ⟨cy, wy⟩ := HY.out i hib
        rw [hxx] at cx wx
        rw [hyy] at cy wy
        obtain ⟨x0, x1⟩ := wf_u32 wx
        obtain ⟨y0, y1⟩ := wf_u32 wy
        clear wx wy
        have ex := (HN.out.cell (p := ⟨b, off + i, none⟩) hb).trans cx
        have ey := (HN.out.cell (p := ⟨b', off' + i, none⟩) hb').trans cy
        have ez := HN.out.size
        have lx : b < wr.heap.size := by omega
        have ly : b' < wr.heap.size := by omega
        have r0 : 0 ≤ r ∧ r ≤ 1 := by rw [HR.out]; split <;> decide
        have hi1 : (0 : Int) ≤ i := by omega
        have hi2 : (i : Int) < la := by omega
        have hi3 : (i : Int) < lb := by omega
        clear hxx hyy cx cy ez hig
        go_wp2_with fail
        go_quiet (fail)
        go_upto_region 10 with (fail)
        have hd : New wr (wr.drewN nq) := below_drewN (New.refl _) nq
        have ex2 := (hd.cell (p := ⟨b, off + i, none⟩) lx).trans ex
        have ey2 := (hd.cell (p := ⟨b', off' + i, none⟩) ly).trans ey
        have lx2 := Nat.lt_of_lt_of_le lx hd.size
        have ly2 := Nat.lt_of_lt_of_le ly hd.size
        have HN2 := Lib.hid (HN.out.trans (hd.mono HN.out.size))
        clear ex ey lx ly hd
        generalize wr.drewN nq = w2 at *
        go_cut [7] (fun v w' => v = .bool (decide (x < y + r)) ∧ New w2 w')
        case first =>
          by_cases hxy : x < y
          · go_quiet (fail)
            go_wp2_with fail
            go_meet
            case rel => exact ⟨congrArg Value.bool (by rw [Bool.eq_iff_iff, decide_eq_true_iff]; simp; omega), below_drewN (New.refl _) _⟩
          · have hge : y ≤ x := by omega
            have hfalse : decide (x < y) = false := by simp; omega
            cases L
            · have hr0 := Lib.hid (show r = 0 from HR.out)
              go_quiet (fail)
              go_wp2_with fail
              go_meet
              case rel => exact ⟨congrArg Value.bool (by have := hr0.out; rw [Bool.eq_iff_iff, decide_eq_true_iff]; simp; omega), below_drewN (New.refl _) _⟩
            · have hr0 := Lib.hid (show r = 1 from HR.out)
              go_quiet (fail)
              go_wp2_with fail
              go_meet
              case rel => exact ⟨congrArg Value.bool (by have := hr0.out; rw [Bool.eq_iff_iff, decide_eq_true_iff]; simp; omega), below_drewN (New.refl _) _⟩
        case rest =>
          obtain ⟨rfl, hn2⟩ := hcut
          have ex3 := (hn2.cell (p := ⟨b, off + i, none⟩) lx2).trans ex2
          have ey3 := (hn2.cell (p := ⟨b', off' + i, none⟩) ly2).trans ey2
          have lx3 := Nat.lt_of_lt_of_le lx2 hn2.size
          have ly3 := Nat.lt_of_lt_of_le ly2 hn2.size
          have HN3 := Lib.hid (HN2.out.trans (hn2.mono HN2.out.size))
          clear ex2 ey2 lx2 ly2 hn2
          by_cases hz0 : i = 0
          · obtain ⟨hq1, hL⟩ := HZ.out hz0
            have hr0 : r = 0 := by rw [HR.out, hL]; rfl
            have hi0 : (((i : Nat) : Int) == 0) = true := by simpa using hz0
            clear hz0
            have F1 : carryOf (flagsF 1 x y q) = (x + y + q) / 4294967296 := by rw [carry_add0 x y q ⟨x0, x1⟩ ⟨y0, y1⟩, hq1, Int.add_zero]
            have F2 : carryOf (flagsF 2 x y r) = if x < y + r then 1 else 0 := by rw [carry_sub0, hr0, Int.add_zero]
            have d1 : ∀ w : World, Calls Try.prog 19 #[.int .u32 1, .int .u32 x, .int .u32 y, .int .u32 q] w fun e w' => e = .returned (.int .i64 (flagsF 1 x y q)) ∧ New w w' := fun w => tflags_c 1 x y q w (by decide) (by decide) x0 x1 y0 y1 (by omega) (by omega)
            obtain ⟨f1, hf1⟩ : ∃ f, flagsF 1 x y q = f := ⟨_, rfl⟩
            rw [hf1] at d1 F1
            have C1 := Lib.hid d1
            have K1 := Lib.hid F1
            clear d1 F1 hf1
            have d2 : ∀ w : World, Calls Try.prog 19 #[.int .u32 2, .int .u32 x, .int .u32 y, .int .u32 r] w fun e w' => e = .returned (.int .i64 (flagsF 2 x y r)) ∧ New w w' := fun w => tflags_c 2 x y r w (by decide) (by decide) x0 x1 y0 y1 (by omega) (by omega)
            obtain ⟨f2, hf2⟩ : ∃ f, flagsF 2 x y r = f := ⟨_, rfl⟩
            rw [hf2] at d2 F2
            have C2 := Lib.hid d2
            have K2 := Lib.hid F2
            clear d2 F2 hf2
            have HR0 := Lib.hid hr0
            have HQ0 := Lib.hid hq1
            clear hr0 hq1 hL
            go_wp2_with fail
            go_region_held3 (fun w' => w'.cell? ⟨b, off + i, none⟩ = some (.int .u32 x) ∧ b < w'.heap.size ∧ w'.cell? ⟨b', off' + i, none⟩ = some (.int .u32 y) ∧ b' < w'.heap.size ∧ New wc w') (((try dsimp only); (repeat' apply And.intro) <;> (first | assumption | go_keep | omega | go_grown)))
              (first | (go_at_call 19; (with_reducible refine (C1.out _).mono ?_); rintro e u1 ⟨rfl, hb1⟩; have hH1 := ‹_ ∧ _ ∧ _ ∧ _ ∧ _›; have e10 := (hb1.cell (p := ⟨b, off + i, none⟩) hH1.2.1).trans hH1.1; have el10 := Nat.lt_of_lt_of_le hH1.2.1 hb1.size; have e11 := (hb1.cell (p := ⟨b', off' + i, none⟩) hH1.2.2.2.1).trans hH1.2.2.1; have el11 := Nat.lt_of_lt_of_le hH1.2.2.2.1 hb1.size; have hn1 := hH1.2.2.2.2.trans (hb1.mono hH1.2.2.2.2.size); clear hH1 hb1) | (go_at_call 19; (with_reducible refine (C2.out _).mono ?_); rintro e u2 ⟨rfl, hb2⟩; have hH2 := ‹_ ∧ _ ∧ _ ∧ _ ∧ _›; have e20 := (hb2.cell (p := ⟨b, off + i, none⟩) hH2.2.1).trans hH2.1; have el20 := Nat.lt_of_lt_of_le hH2.2.1 hb2.size; have e21 := (hb2.cell (p := ⟨b', off' + i, none⟩) hH2.2.2.2.1).trans hH2.2.2.1; have el21 := Nat.lt_of_lt_of_le hH2.2.2.2.1 hb2.size; have hn2 := hH2.2.2.2.2.trans (hb2.mono hH2.2.2.2.2.size); clear hH2 hb2))
            have HN5 := Lib.hid (HN3.out.trans (hn2.mono HN3.out.size))
            clear e10 el10 e11 el11 hn1 e20 el20 e21 el21 hn2 ex3 ey3 lx3 ly3
            obtain ⟨p1, hp1⟩ : ∃ p, (x + y + q) / 4294967296 = p := ⟨_, rfl⟩
            have p10 : 0 ≤ p1 := by omega
            have p11 : p1 ≤ 1 := by omega
            have k1 : bits .and .u32 (f1 % 4294967296 / 4) 1 = p1 := K1.out.trans hp1
            have k3 : (S / 4294967296 + x + y) / 4294967296 = p1 := by rw [HSQ.out, ← hp1]; congr 1; omega
            obtain ⟨r2, hr2⟩ : ∃ p, (if x < y + r then (1 : Int) else 0) = p := ⟨_, rfl⟩
            have k2 : bits .and .u32 (f2 % 4294967296 / 4) 1 = r2 := K2.out.trans hr2
            have k4 : (r2 == 1) = decide (x < y + r) := by rw [← hr2]; exact one_if _
            have HR2 := Lib.hid hr2
            clear hp1 hr2
            have S1 := HSQ.out ▸ (show 0 ≤ S / 4294967296 from by omega)
            go_wp2
            go_roundg (gk - 1)
            case measure => have := HIG.out; omega
            case rel => exact ⟨i + 1, S / 4294967296 + x + y, p1, r2, decide (x < y + r), rfl, rfl, rfl, rfl, by go_num, by have := HIG.out; omega, by omega, by omega, k3, p10, p11, by rw [← HR2.out]; exact dec_if _, fun h => by omega, HN5.out⟩
          · have hi0 : (((i : Nat) : Int) == 0) = false := by simpa using hz0
            clear hz0
            have F1 : carryOf (flagsF 7 x y q) = (x + y + q) / 4294967296 := by exact carry_adc x y q ⟨x0, x1⟩ ⟨y0, y1⟩ hq0 hq1
            have F2 : carryOf (flagsF 8 x y r) = if x < y + r then 1 else 0 := by exact carry_sbb x y r r0.1 r0.2
            have d1 : ∀ w : World, Calls Try.prog 19 #[.int .u32 7, .int .u32 x, .int .u32 y, .int .u32 q] w fun e w' => e = .returned (.int .i64 (flagsF 7 x y q)) ∧ New w w' := fun w => tflags_c 7 x y q w (by decide) (by decide) x0 x1 y0 y1 (by omega) (by omega)
            obtain ⟨f1, hf1⟩ : ∃ f, flagsF 7 x y q = f := ⟨_, rfl⟩
            rw [hf1] at d1 F1
            have C1 := Lib.hid d1
            have K1 := Lib.hid F1
            clear d1 F1 hf1
            have d2 : ∀ w : World, Calls Try.prog 19 #[.int .u32 8, .int .u32 x, .int .u32 y, .int .u32 r] w fun e w' => e = .returned (.int .i64 (flagsF 8 x y r)) ∧ New w w' := fun w => tflags_c 8 x y r w (by decide) (by decide) x0 x1 y0 y1 (by omega) (by omega)
            obtain ⟨f2, hf2⟩ : ∃ f, flagsF 8 x y r = f := ⟨_, rfl⟩
            rw [hf2] at d2 F2
            have C2 := Lib.hid d2
            have K2 := Lib.hid F2
            clear d2 F2 hf2
            go_wp2_with fail
            go_region_held3 (fun w' => w'.cell? ⟨b, off + i, none⟩ = some (.int .u32 x) ∧ b < w'.heap.size ∧ w'.cell? ⟨b', off' + i, none⟩ = some (.int .u32 y) ∧ b' < w'.heap.size ∧ New wc w') (((try dsimp only); (repeat' apply And.intro) <;> (first | assumption | go_keep | omega | go_grown)))
              (first | (go_at_call 19; (with_reducible refine (C1.out _).mono ?_); rintro e u1 ⟨rfl, hb1⟩; have hH1 := ‹_ ∧ _ ∧ _ ∧ _ ∧ _›; have e10 := (hb1.cell (p := ⟨b, off + i, none⟩) hH1.2.1).trans hH1.1; have el10 := Nat.lt_of_lt_of_le hH1.2.1 hb1.size; have e11 := (hb1.cell (p := ⟨b', off' + i, none⟩) hH1.2.2.2.1).trans hH1.2.2.1; have el11 := Nat.lt_of_lt_of_le hH1.2.2.2.1 hb1.size; have hn1 := hH1.2.2.2.2.trans (hb1.mono hH1.2.2.2.2.size); clear hH1 hb1) | (go_at_call 19; (with_reducible refine (C2.out _).mono ?_); rintro e u2 ⟨rfl, hb2⟩; have hH2 := ‹_ ∧ _ ∧ _ ∧ _ ∧ _›; have e20 := (hb2.cell (p := ⟨b, off + i, none⟩) hH2.2.1).trans hH2.1; have el20 := Nat.lt_of_lt_of_le hH2.2.1 hb2.size; have e21 := (hb2.cell (p := ⟨b', off' + i, none⟩) hH2.2.2.2.1).trans hH2.2.2.1; have el21 := Nat.lt_of_lt_of_le hH2.2.2.2.1 hb2.size; have hn2 := hH2.2.2.2.2.trans (hb2.mono hH2.2.2.2.2.size); clear hH2 hb2))
            have HN5 := Lib.hid (HN3.out.trans (hn2.mono HN3.out.size))
            clear e10 el10 e11 el11 hn1 e20 el20 e21 el21 hn2 ex3 ey3 lx3 ly3
            obtain ⟨p1, hp1⟩ : ∃ p, (x + y + q) / 4294967296 = p := ⟨_, rfl⟩
            have p10 : 0 ≤ p1 := by omega
            have p11 : p1 ≤ 1 := by omega
            have k1 : bits .and .u32 (f1 % 4294967296 / 4) 1 = p1 := K1.out.trans hp1
            have k3 : (S / 4294967296 + x + y) / 4294967296 = p1 := by rw [HSQ.out, ← hp1]; congr 1; omega
            obtain ⟨r2, hr2⟩ : ∃ p, (if x < y + r then (1 : Int) else 0) = p := ⟨_, rfl⟩
            have k2 : bits .and .u32 (f2 % 4294967296 / 4) 1 = r2 := K2.out.trans hr2
            have k4 : (r2 == 1) = decide (x < y + r) := by rw [← hr2]; exact one_if _
            have HR2 := Lib.hid hr2
            clear hp1 hr2
            have S1 := HSQ.out ▸ (show 0 ≤ S / 4294967296 from by omega)
            go_wp2
            go_roundg (gk - 1)
            case measure => have := HIG.out; omega
            case rel => exact ⟨i + 1, S / 4294967296 + x + y, p1, r2, decide (x < y + r), rfl, rfl, rfl, rfl, by go_num, by have := HIG.out; omega, by omega, by omega, k3, p10, p11, by rw [← HR2.out]; exact dec_if _, fun h => by omega, HN5.out⟩
      · have : i = n := by omega
        go_wp2
        go_ret
        exact ⟨rfl, HN.out⟩
set_option maxRecDepth 100000 in
set_option maxHeartbeats 4000000 in
theorem chains_none (p p' : Option Addr) (la lb ca cb : Nat) (w : World) (h1 : la ≤ 9223372036854775807) (h2 : lb ≤ 9223372036854775807) (hz : la = 0 ∨ lb = 0) :
    Calls Try.prog 6 #[.slice p la ca, .slice p' lb cb] w fun e w' => e = .returned (.bool true) ∧ New w w' := by
  go_enter Try.func6, Try.ntmps6
  go_wp2_with fail
  refine (sane_c _).mono ?_
  rintro e w1 ⟨rfl, hb1⟩
  have N1 := Lib.hid hb1
  clear hb1
  go_upto_region 3 with (fail)
  go_cut [5] (fun v w' => v = .int .i64 0 ∧ w' = w1)
  case first =>
    have HZ := Lib.hid hz
    clear hz
    by_cases e1 : lb < la
    · have e2 : (lb : Int) ≤ 30 := by have := HZ.out; omega
      go_wp2_with fail
      go_meet
      case rel => exact ⟨congrArg (Value.int .i64) (by have := HZ.out; omega), rfl⟩
    · have e3 : la ≤ lb := by omega
      have e2 : (la : Int) ≤ 30 := by have := HZ.out; omega
      go_wp2_with fail
      go_meet
      case rel => exact ⟨congrArg (Value.int .i64) (by have := HZ.out; omega), rfl⟩
  case rest =>
    obtain ⟨rfl, rfl⟩ := hcut
    go_wp2_with fail
    refine wp_loop_rounds 1 ?_
    rw [rounds_succ]
    go_wp2
    go_ret
    exact ⟨rfl, N1.out⟩
theorem thunkChains_c (p p' : Option Addr) (la ca lb cb : Nat) (xs ys : List Int) (w : World) (h1 : la ≤ 9223372036854775807) (hla : xs.length = la) (hx : la = 0 ∨ ∃ b off, p = some ⟨b, off, none⟩ ∧ b < w.heap.size ∧ ICells .u32 w b off xs)
    (h2 : lb ≤ 9223372036854775807) (hlb : ys.length = lb) (hy : lb = 0 ∨ ∃ b off, p' = some ⟨b, off, none⟩ ∧ b < w.heap.size ∧ ICells .u32 w b off ys) :
    Calls Try.prog 6 #[.slice p la ca, .slice p' lb cb] w fun e w' => e = .returned (.bool true) ∧ New w w' := by
  rcases hx with hx | ⟨b, off, rfl, hb, hx⟩
  · exact chains_none p p' la lb ca cb w h1 h2 (.inl hx)
  · rcases hy with hy | ⟨b', off', rfl, hb', hy⟩
    · exact chains_none _ p' la lb ca cb w h1 h2 (.inr hy)
    · exact chains_some b off b' off' la lb ca cb xs ys w hla hlb h1 h2 hx hy hb hb'

theorem thunkChains_own : ownKnob Try.prog.godebug = none := by kernel_rfl
set_option maxRecDepth 100000 in
theorem thunkChains_lifted (os : Os) (started : os.Started) (H : Type) (enc : TypeId × Value → H) :
    ReturnsInHanded {} Try.checked os 6 .any (Rows.thunkChainsSpec.pre6 enc Try.prog Try.f6 Rows.thunkChainsRow.domain false) (Rows.thunkChainsSpec.post enc Try.prog Try.f6 false true false false) := by
  refine returnsInHanded_of_change (C := Try.checked) thunkChains_own started (by kernel_rfl) Try.func6
    (ChangeSpec.witness6 (enc := enc) (C := Try.checked) false ⟨#[], #[.slice none 0 0, .slice none 0 0], []⟩ 8 (by kernel_rfl) (by kernel_rfl) (by kernel_rfl) (by kernel_rfl)) ?_
  intro W base args ds gs before hval0 hW hcnd _
  have hval : ∀ (j : Nat) t v, Try.f6.params[j]? = some t → args[j]? = some v → Value.okWide Try.prog W .any base t v := hval0
  have hW' := hW
  obtain ⟨p, q, hA0, hV, rfl, hfz, hnd⟩ := hW
  have hA : DataW.TrodAll enc Try.prog W 0 (fun _ => true) true Try.f6.params.toList args.toList ds p := hA0
  rw [Try.params6] at hA hval
  obtain ⟨v0, vs0, d0, ds0, p0, q0, hargs, rfl, rfl, h0, r0⟩ := trodAll_cons hA
  obtain ⟨v1, vs1, d1, ds1, p1, q1, rfl, rfl, rfl, h1, r1⟩ := trodAll_cons r0
  obtain ⟨rfl, rfl, rfl⟩ := trodAll_nil r1
  obtain rfl : args = #[v0, v1] := by cases args; simp_all
  obtain ⟨a0, l0, c0, z0, rfl, x0, y0, s0⟩ := open_nums Try.underlying38 Try.underlying29 (by kernel_rfl) (hval 0 38 v0 rfl rfl) h0
  obtain ⟨a1, l1, c1, z1, rfl, x1, y1, s1⟩ := open_nums Try.underlying38 Try.underlying29 (by kernel_rfl) (hval 1 38 v1 rfl rfl) h1
  exact (thunkChains_c a0 a1 l0 c0 l1 c1 z0 z1 W x0 y0 s0 x1 y1 s1).mono fun e W' ⟨he, hg⟩ =>
    ⟨_, he, law_post (tb := 4) (by kernel_rfl) (by decide +kernel) rfl Try.underlying4 rfl hW' rfl hg⟩
theorem thunkChains_holds : Rows.ThunkChainsSaid :=
  OpenClaim.holds_of_wide 6 Try.f6 rfl rfl rfl rfl rfl rfl rfl ⟨rfl, rfl, rfl, rfl, rfl⟩ rfl rfl rfl rfl rfl (by kernel_rfl) Try.func6 (by kernel_rfl)
    (of_decide_eq_true (by kernel_rfl)) (by unfold Func.isWrapper; first | (rw [if_pos (by decide +kernel)]; kernel_rfl) | (rw [if_neg (by decide +kernel)]; exact ⟨rfl, rfl⟩))
    (fun os started H enc _ => thunkChains_lifted os started H enc)
#print axioms thunkChains_holds
end Go.Proofs.Ytmkjgkldbonpnaa
