/- CpuCompares holds: conditions behind a subtraction compare its operands; odd ones are the opposite. No condition. -/
import Derived.Test.YtpooghnemlnopaaKitLaw
import Derived.Test.YtpooghnemlnopaaPlainCmp
import Derived.Test.YtpooghnemlnopaaSxSane
namespace Go.Proofs.Ytpooghnemlnopaa
open Go Go.RowKit Go.Cd Go.ChangeShapes Go.WideShapes Go.ChangeAt
set_option linter.unusedVariables false
attribute [local go_sem ↓] Go.wp_at_zero Go.wp_at_succ
theorem alu_sub (a b : Int) (f : Int) (hf : difFl a b 0 = f) (ha : 0 ≤ a ∧ a < 4294967296) (hb : 0 ≤ b ∧ b < 4294967296) (w : World) :
    Calls Try.prog 10 #[.int .i64 4, .int .u32 a, .int .u32 b, .int .i64 0] w fun e w' => e = .returned (.tuple #[.int .u32 (difR a b 0), .int .i64 f, .bool true]) ∧ New w w' := by
  have h := alu_c 4 a b 0 w ha hb
  rw [show aluT 4 a b 0 = (difR a b 0, difFl a b 0, true) from rfl, hf] at h
  exact h
set_option maxRecDepth 100000 in
set_option maxHeartbeats 4000000 in
theorem cpuCompares_w (a b fl f : Int) (hf : difFl a b 0 = f) (h0 : 0 ≤ a ∧ a < 4294967296) (h1 : 0 ≤ b ∧ b < 4294967296) (w : World) :
    Calls Try.prog 3 #[.int .u32 a, .int .u32 b, .int .i64 fl] w fun e w' => e = .returned (.bool true) ∧ New w w' := by
  have hmm := @run_makeMap Try.prog
  have m0 := fun (v0 : Value) (w : World) r hr => run_mapInsert (P := Try.prog) (T := 26) Try.underlying26 Try.underlying3 #[] 0 0 v0 w r hr rfl
  have m1 := fun (v0 v1 : Value) (w : World) r hr => run_mapInsert (P := Try.prog) (T := 26) Try.underlying26 Try.underlying3 #[{ key := .int .i64 0, val := v0, born := 0 }] 1 2 v1 w r hr rfl
  have m2 := fun (v0 v1 v2 : Value) (w : World) r hr => run_mapInsert (P := Try.prog) (T := 26) Try.underlying26 Try.underlying3 #[{ key := .int .i64 0, val := v0, born := 0 }, { key := .int .i64 2, val := v1, born := 1 }] 2 8 v2 w r hr rfl
  have m3 := fun (v0 v1 v2 v3 : Value) (w : World) r hr => run_mapInsert (P := Try.prog) (T := 26) Try.underlying26 Try.underlying3 #[{ key := .int .i64 0, val := v0, born := 0 }, { key := .int .i64 2, val := v1, born := 1 }, { key := .int .i64 8, val := v2, born := 2 }] 3 10 v3 w r hr rfl
  have m4 := fun (v0 v1 v2 v3 v4 : Value) (w : World) r hr => run_mapInsert (P := Try.prog) (T := 26) Try.underlying26 Try.underlying3 #[{ key := .int .i64 0, val := v0, born := 0 }, { key := .int .i64 2, val := v1, born := 1 }, { key := .int .i64 8, val := v2, born := 2 }, { key := .int .i64 10, val := v3, born := 3 }] 4 12 v4 w r hr rfl
  have m5 := fun (v0 v1 v2 v3 v4 v5 : Value) (w : World) r hr => run_mapInsert (P := Try.prog) (T := 26) Try.underlying26 Try.underlying3 #[{ key := .int .i64 0, val := v0, born := 0 }, { key := .int .i64 2, val := v1, born := 1 }, { key := .int .i64 8, val := v2, born := 2 }, { key := .int .i64 10, val := v3, born := 3 }, { key := .int .i64 12, val := v4, born := 4 }] 5 4 v5 w r hr rfl
  have m6 := fun (v0 v1 v2 v3 v4 v5 v6 : Value) (w : World) r hr => run_mapInsert (P := Try.prog) (T := 26) Try.underlying26 Try.underlying3 #[{ key := .int .i64 0, val := v0, born := 0 }, { key := .int .i64 2, val := v1, born := 1 }, { key := .int .i64 8, val := v2, born := 2 }, { key := .int .i64 10, val := v3, born := 3 }, { key := .int .i64 12, val := v4, born := 4 }, { key := .int .i64 4, val := v5, born := 5 }] 6 6 v6 w r hr rfl
  have m7 := fun (v0 v1 v2 v3 v4 v5 v6 v7 : Value) (w : World) r hr => run_mapInsert (P := Try.prog) (T := 26) Try.underlying26 Try.underlying3 #[{ key := .int .i64 0, val := v0, born := 0 }, { key := .int .i64 2, val := v1, born := 1 }, { key := .int .i64 8, val := v2, born := 2 }, { key := .int .i64 10, val := v3, born := 3 }, { key := .int .i64 12, val := v4, born := 4 }, { key := .int .i64 4, val := v5, born := 5 }, { key := .int .i64 6, val := v6, born := 6 }] 7 14 v7 w r hr rfl
  have rr := fun (w : World) es c r hr => run_range_new (P := Try.prog) (t := 26) Try.underlying26 w es c r hr
  have HK := Lib.hid (cmp_entries a b h0 h1)
  rw [hf] at HK
  go_enter Try.func3, Try.ntmps3
  go_wp2_with fail
  refine (sane_c _).mono ?_
  rintro e w1 ⟨rfl, hb1⟩
  have N1 := Lib.hid hb1
  clear hb1
  go_wp2_with fail
  refine (alu_sub a b f hf h0 h1 _).mono ?_
  rintro e w2 ⟨rfl, hb2⟩
  have N2 := Lib.hid (N1.out.trans (hb2.mono N1.out.size))
  clear hb2 N1
  go_wp2_with fail
  clear m0 m1 m2 m3 m4 m5 m6 m7 hmm rr
  have RS := Lib.hid (Rng.start w2 #[{ key := .int .i64 0, val := .bool (a == b), born := 0 }, { key := .int .i64 2, val := .bool (decide (a < b)), born := 1 }, { key := .int .i64 8, val := .bool (decide (a ≤ b)), born := 2 }, { key := .int .i64 10, val := .bool (decide (wrap32 a < wrap32 b)), born := 3 }, { key := .int .i64 12, val := .bool (decide (wrap32 a ≤ wrap32 b)), born := 4 }, { key := .int .i64 4, val := .bool (decide (wrap32 ((a - b) % 4294967296) < 0)), born := 5 }, { key := .int .i64 6, val := .bool (wrap64 (wrap64 (wrap32 a) - wrap64 (wrap32 b)) != wrap64 (wrap32 ((a - b) % 4294967296))), born := 6 }, { key := .int .i64 14, val := .bool true, born := 7 }] w2.heap.size (w2.heap.size + 1) 8 rfl rfl rfl)
  have N3 := Lib.hid ((N2.out.alloc N2.out.size (.map #[{ key := .int .i64 0, val := .bool (a == b), born := 0 }, { key := .int .i64 2, val := .bool (decide (a < b)), born := 1 }, { key := .int .i64 8, val := .bool (decide (a ≤ b)), born := 2 }, { key := .int .i64 10, val := .bool (decide (wrap32 a < wrap32 b)), born := 3 }, { key := .int .i64 12, val := .bool (decide (wrap32 a ≤ wrap32 b)), born := 4 }, { key := .int .i64 4, val := .bool (decide (wrap32 ((a - b) % 4294967296) < 0)), born := 5 }, { key := .int .i64 6, val := .bool (wrap64 (wrap64 (wrap32 a) - wrap64 (wrap32 b)) != wrap64 (wrap32 ((a - b) % 4294967296))), born := 6 }, { key := .int .i64 14, val := .bool true, born := 7 }] 8)).alloc (by have := N2.out.size; simp; omega) (.mapIter (some w2.heap.size) 8 #[] 8))
  generalize (w2.alloc (.map #[{ key := .int .i64 0, val := .bool (a == b), born := 0 }, { key := .int .i64 2, val := .bool (decide (a < b)), born := 1 }, { key := .int .i64 8, val := .bool (decide (a ≤ b)), born := 2 }, { key := .int .i64 10, val := .bool (decide (wrap32 a < wrap32 b)), born := 3 }, { key := .int .i64 12, val := .bool (decide (wrap32 a ≤ wrap32 b)), born := 4 }, { key := .int .i64 4, val := .bool (decide (wrap32 ((a - b) % 4294967296) < 0)), born := 5 }, { key := .int .i64 6, val := .bool (wrap64 (wrap64 (wrap32 a) - wrap64 (wrap32 b)) != wrap64 (wrap32 ((a - b) % 4294967296))), born := 6 }, { key := .int .i64 14, val := .bool true, born := 7 }] 8)).alloc (.mapIter (some w2.heap.size) 8 #[] 8) = w3 at *
  generalize (#[{ key := .int .i64 0, val := .bool (a == b), born := 0 }, { key := .int .i64 2, val := .bool (decide (a < b)), born := 1 }, { key := .int .i64 8, val := .bool (decide (a ≤ b)), born := 2 }, { key := .int .i64 10, val := .bool (decide (wrap32 a < wrap32 b)), born := 3 }, { key := .int .i64 12, val := .bool (decide (wrap32 a ≤ wrap32 b)), born := 4 }, { key := .int .i64 4, val := .bool (decide (wrap32 ((a - b) % 4294967296) < 0)), born := 5 }, { key := .int .i64 6, val := .bool (wrap64 (wrap64 (wrap32 a) - wrap64 (wrap32 b)) != wrap64 (wrap32 ((a - b) % 4294967296))), born := 6 }, { key := .int .i64 14, val := .bool true, born := 7 }] : Array MapEntry) = es at *
  have hb : w.heap.size ≤ w2.heap.size := N2.out.size
  clear N2
  generalize w2.heap.size = q at *
  go_loopw [12, 13] (fun _ _ w' => ∃ seen, Rng es q (q + 1) seen w' ∧ New w w') (fun _ _ w' => (leftOf es (w'.iterSeen (q + 1))).size)
  case atStart => exact ⟨#[], RS.out, N3.out⟩
  case round =>
    obtain ⟨seen, hr, hw⟩ := hrel
    have HR := Lib.hid hr
    have HW := Lib.hid hw
    clear hr hw RS N3
    go_wp2_with (at_next; refine wpList_next_known _ rfl _ rfl es q (q + 1) seen (by rfl) HR.out (CmpE f) HK.out ?_ ?_)
    · go_wp2
      go_ret
      exact ⟨rfl, HW.out⟩
    · intro k v w4 seen4 hkv hr4 hlt4 hb4 hs4 hen
      obtain ⟨cd, hcd, rfl, rfl⟩ := hkv
      have HR4 := Lib.hid hr4
      have N4 := Lib.hid (HW.out.trans (hb4.mono (by omega)))
      have L4 := Lib.hid hlt4
      have k0 : 0 ≤ cd := by unfold evenCd at hcd; omega
      have k1 : cd ≤ 14 := by unfold evenCd at hcd; omega
      obtain ⟨x, hx⟩ : ∃ x, holdsF cd f = x := ⟨_, rfl⟩
      obtain ⟨y, hy⟩ : ∃ y, holdsF cd fl = y := ⟨_, rfl⟩
      have c1 : ∀ w : World, Calls Try.prog 11 #[.int .i64 cd, .int .i64 f] w fun e w' => e = .returned (.bool x) ∧ New w w' := fun w => by
        have h := holds_c cd f w
        rw [hx] at h; exact h
      have c2 : ∀ w : World, Calls Try.prog 11 #[.int .i64 (cd + 1), .int .i64 f] w fun e w' => e = .returned (.bool !x) ∧ New w w' := fun w => by
        have h := holds_c (cd + 1) f w
        rw [holds_flip cd f hcd, hx] at h; exact h
      have c3 : ∀ w : World, Calls Try.prog 11 #[.int .i64 cd, .int .i64 fl] w fun e w' => e = .returned (.bool y) ∧ New w w' := fun w => by
        have h := holds_c cd fl w
        rw [hy] at h; exact h
      have c4 : ∀ w : World, Calls Try.prog 11 #[.int .i64 (cd + 1), .int .i64 fl] w fun e w' => e = .returned (.bool !y) ∧ New w w' := fun w => by
        have h := holds_c (cd + 1) fl w
        rw [holds_flip cd fl hcd, hy] at h; exact h
      rw [hx] at hen
      have C1 := Lib.hid c1
      have C2 := Lib.hid c2
      have C3 := Lib.hid c3
      have C4 := Lib.hid c4
      clear hr4 hb4 hs4 hlt4 hcd hx hy c1 c2 c3 c4 hf
      cases x <;> cases y
      all_goals
        go_wp2_with fail
        refine (C1.out _).mono ?_
        rintro e w5 ⟨rfl, hb5⟩
        have N5 := Lib.hid (N4.out.trans (hb5.mono N4.out.size))
        have R5 := Lib.hid (HR4.out.new hb5)
        clear hb5 hen
        go_wp2_with fail
        refine (C2.out _).mono ?_
        rintro e w6 ⟨rfl, hb6⟩
        have N6 := Lib.hid (N5.out.trans (hb6.mono N5.out.size))
        have R6 := Lib.hid (R5.out.new hb6)
        clear hb6
        go_wp2_with fail
        refine (C3.out _).mono ?_
        rintro e w7 ⟨rfl, hb7⟩
        have N7 := Lib.hid (N6.out.trans (hb7.mono N6.out.size))
        have R7 := Lib.hid (R6.out.new hb7)
        clear hb7
        go_wp2_with fail
        refine (C4.out _).mono ?_
        rintro e w8 ⟨rfl, hb8⟩
        have N8 := Lib.hid (N7.out.trans (hb8.mono N7.out.size))
        have R8 := Lib.hid (R7.out.new hb8)
        clear hb8
        go_wp2
        go_roundw
        case rel => exact ⟨seen4, R8.out, N8.out⟩
        case measure => rw [R8.out.seen, HR.out.seen]; exact L4.out
theorem cpuCompares_c (a b fl : Int) (h0 : 0 ≤ a ∧ a < 4294967296) (h1 : 0 ≤ b ∧ b < 4294967296) (w : World) :
    Calls Try.prog 3 #[.int .u32 a, .int .u32 b, .int .i64 fl] w fun e w' => e = .returned (.bool true) ∧ New w w' := cpuCompares_w a b fl _ rfl h0 h1 w

theorem cpuCompares_own : ownKnob Try.prog.godebug = none := by kernel_rfl
set_option maxRecDepth 100000 in
theorem cpuCompares_lifted (os : Os) (started : os.Started) (H : Type) (enc : TypeId × Value → H) :
    ReturnsInHanded {} Try.checked os 3 .any (Rows.cpuComparesSpec.pre6 enc Try.prog Try.f3 Rows.cpuComparesRow.domain false) (Rows.cpuComparesSpec.post enc Try.prog Try.f3 false true false false) := by
  refine returnsInHanded_of_change (C := Try.checked) cpuCompares_own started (by kernel_rfl) Try.func3
    (ChangeSpec.witness6 (enc := enc) (C := Try.checked) false ⟨#[], #[.int .u32 0, .int .u32 0, .int .i64 0], []⟩ 8 (by kernel_rfl) (by kernel_rfl) (by kernel_rfl) (by kernel_rfl)) ?_
  intro W base args ds gs before hval0 hW hcnd _
  have hval : ∀ (j : Nat) t v, Try.f3.params[j]? = some t → args[j]? = some v → Value.okWide Try.prog W .any base t v := hval0
  have hW' := hW
  obtain ⟨p, q, hA0, hV, rfl, hfz, hnd⟩ := hW
  have hA : DataW.TrodAll enc Try.prog W 0 (fun _ => true) true Try.f3.params.toList args.toList ds p := hA0
  rw [Try.params3] at hA hval
  obtain ⟨v0, vs0, d0, ds0, p0, q0, hargs, rfl, rfl, h0, r0⟩ := trodAll_cons hA
  obtain ⟨v1, vs1, d1, ds1, p1, q1, rfl, rfl, rfl, h1, r1⟩ := trodAll_cons r0
  obtain ⟨v2, vs2, d2, ds2, p2, q2, rfl, rfl, rfl, h2, r2⟩ := trodAll_cons r1
  obtain ⟨rfl, rfl, rfl⟩ := trodAll_nil r2
  obtain rfl : args = #[v0, v1, v2] := by cases args; simp_all
  obtain ⟨a0, rfl, rfl, rfl, w0⟩ := open_int Try.underlying22 (hval 0 22 v0 rfl rfl) h0
  obtain ⟨a1, rfl, rfl, rfl, w1⟩ := open_int Try.underlying22 (hval 1 22 v1 rfl rfl) h1
  obtain ⟨a2, rfl, rfl, rfl, w2⟩ := open_int Try.underlying3 (hval 2 3 v2 rfl rfl) h2
  exact (cpuCompares_c a0 a1 a2 (wf_u32 w0) (wf_u32 w1) W).mono fun e W' ⟨he, hg⟩ =>
    ⟨_, he, law_post (tb := 4) (by kernel_rfl) (by decide +kernel) rfl Try.underlying4 rfl hW' rfl hg⟩
theorem cpuCompares_holds : Rows.CpuComparesSaid :=
  OpenClaim.holds_of_wide 3 Try.f3 rfl rfl rfl rfl rfl rfl rfl ⟨rfl, rfl, rfl, rfl, rfl⟩ rfl rfl rfl rfl rfl (by kernel_rfl) Try.func3 (by kernel_rfl)
    (of_decide_eq_true (by kernel_rfl)) (by unfold Func.isWrapper; first | (rw [if_pos (by decide +kernel)]; kernel_rfl) | (rw [if_neg (by decide +kernel)]; exact ⟨rfl, rfl⟩))
    (fun os started H enc _ => cpuCompares_lifted os started H enc)
#print axioms cpuCompares_holds
end Go.Proofs.Ytpooghnemlnopaa
