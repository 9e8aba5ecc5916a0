/- ThunkOrders holds: conditions behind a subtraction compare its operands, signed and unsigned. No condition. -/
import Derived.Test.YtmkjgkldbonpnaaKitLaw
import Derived.Test.YtmkjgkldbonpnaaWSane2
import Derived.Test.YtmkjgkldbonpnaaPlainOrders
import Derived.Test.YtmkjgkldbonpnaaKitRange
namespace Go.Proofs.Ytmkjgkldbonpnaa
open Go Go.RowKit Go.Cd Go.ChangeShapes Go.WideShapes Go.ChangeAt
set_option linter.unusedVariables false
attribute [local go_sem ↓] Go.wp_at_zero Go.wp_at_succ 
def OrdE (a b c : Int) (k v : Value) : Prop := ∃ cd : Int, 0 ≤ cd ∧ cd ≤ 15 ∧ k = .int .i64 cd ∧ v = .bool (condF cd 2 a b c)
theorem ord_entries (a b c : Int) (h0 : 0 ≤ a ∧ a < 4294967296) (h1 : 0 ≤ b ∧ b < 4294967296) : EsOk (OrdE a b c) #[{ key := .int .i64 0, val := .bool (a == b), born := 0 }, { key := .int .i64 1, val := .bool (a != b), born := 1 }, { key := .int .i64 2, val := .bool (decide (a < b)), born := 2 }, { key := .int .i64 3, val := .bool (decide (b ≤ a)), born := 3 }, { key := .int .i64 8, val := .bool (decide (a ≤ b)), born := 4 }, { key := .int .i64 9, val := .bool (decide (b < a)), born := 5 }, { key := .int .i64 10, val := .bool (decide (wrap32 a < wrap32 b)), born := 6 }, { key := .int .i64 11, val := .bool (decide (wrap32 b ≤ wrap32 a)), born := 7 }, { key := .int .i64 12, val := .bool (decide (wrap32 a ≤ wrap32 b)), born := 8 }, { key := .int .i64 13, val := .bool (decide (wrap32 b < wrap32 a)), born := 9 }, { key := .int .i64 14, val := .bool true, born := 10 }, { key := .int .i64 15, val := .bool false, born := 11 }] := by
  refine ⟨by simp, by simp, ?_⟩
  have hs := sg_eq a b h0 h1
  rw [sg_wrap a h0, sg_wrap b h1]
  intro e he
  simp only [List.mem_cons, List.not_mem_nil, or_false] at he
  have K : ∀ cd : Int, 0 ≤ cd → cd ≤ 15 → ∀ x : Bool, x = condF cd 2 a b c → OrdE a b c (.int .i64 cd) (.bool x) := fun cd k0 k1 x hx => ⟨cd, k0, k1, rfl, by rw [hx]⟩
  rcases he with rfl | rfl | rfl | rfl | rfl | rfl | rfl | rfl | rfl | rfl | rfl | rfl
  all_goals refine K _ (by decide) (by decide) _ ?_
  all_goals rw [cond_sub _ a b c h0 h1 (by decide) (by decide)]
  all_goals rw [Bool.eq_iff_iff]
  all_goals simp
  all_goals omega
set_option maxRecDepth 100000 in
set_option maxHeartbeats 4000000 in
theorem thunkOrders_c (a0 a1 a2 : Int) (h0 : 0 ≤ a0 ∧ a0 < 4294967296) (h1 : 0 ≤ a1 ∧ a1 < 4294967296) (h2 : 0 ≤ a2 ∧ a2 < 4294967296) (w : World) :
    Calls Try.prog 4 #[.int .u32 a0, .int .u32 a1, .int .u32 a2] w fun e w' => e = .returned (.bool true) ∧ New w w' := by
  have hmm := @run_makeMap Try.prog
  have m0 := fun (v0 : Value) (w : World) r hr => run_mapInsert (P := Try.prog) (T := 30) Try.underlying30 Try.underlying3 #[] 0 0 v0 w r hr rfl
  have m1 := fun (v0 v1 : Value) (w : World) r hr => run_mapInsert (P := Try.prog) (T := 30) Try.underlying30 Try.underlying3 #[{ key := .int .i64 0, val := v0, born := 0 }] 1 1 v1 w r hr rfl
  have m2 := fun (v0 v1 v2 : Value) (w : World) r hr => run_mapInsert (P := Try.prog) (T := 30) Try.underlying30 Try.underlying3 #[{ key := .int .i64 0, val := v0, born := 0 }, { key := .int .i64 1, val := v1, born := 1 }] 2 2 v2 w r hr rfl
  have m3 := fun (v0 v1 v2 v3 : Value) (w : World) r hr => run_mapInsert (P := Try.prog) (T := 30) Try.underlying30 Try.underlying3 #[{ key := .int .i64 0, val := v0, born := 0 }, { key := .int .i64 1, val := v1, born := 1 }, { key := .int .i64 2, val := v2, born := 2 }] 3 3 v3 w r hr rfl
  have m4 := fun (v0 v1 v2 v3 v4 : Value) (w : World) r hr => run_mapInsert (P := Try.prog) (T := 30) Try.underlying30 Try.underlying3 #[{ key := .int .i64 0, val := v0, born := 0 }, { key := .int .i64 1, val := v1, born := 1 }, { key := .int .i64 2, val := v2, born := 2 }, { key := .int .i64 3, val := v3, born := 3 }] 4 8 v4 w r hr rfl
  have m5 := fun (v0 v1 v2 v3 v4 v5 : Value) (w : World) r hr => run_mapInsert (P := Try.prog) (T := 30) Try.underlying30 Try.underlying3 #[{ key := .int .i64 0, val := v0, born := 0 }, { key := .int .i64 1, val := v1, born := 1 }, { key := .int .i64 2, val := v2, born := 2 }, { key := .int .i64 3, val := v3, born := 3 }, { key := .int .i64 8, val := v4, born := 4 }] 5 9 v5 w r hr rfl
  have m6 := fun (v0 v1 v2 v3 v4 v5 v6 : Value) (w : World) r hr => run_mapInsert (P := Try.prog) (T := 30) Try.underlying30 Try.underlying3 #[{ key := .int .i64 0, val := v0, born := 0 }, { key := .int .i64 1, val := v1, born := 1 }, { key := .int .i64 2, val := v2, born := 2 }, { key := .int .i64 3, val := v3, born := 3 }, { key := .int .i64 8, val := v4, born := 4 }, { key := .int .i64 9, val := v5, born := 5 }] 6 10 v6 w r hr rfl
  have m7 := fun (v0 v1 v2 v3 v4 v5 v6 v7 : Value) (w : World) r hr => run_mapInsert (P := Try.prog) (T := 30) Try.underlying30 Try.underlying3 #[{ key := .int .i64 0, val := v0, born := 0 }, { key := .int .i64 1, val := v1, born := 1 }, { key := .int .i64 2, val := v2, born := 2 }, { key := .int .i64 3, val := v3, born := 3 }, { key := .int .i64 8, val := v4, born := 4 }, { key := .int .i64 9, val := v5, born := 5 }, { key := .int .i64 10, val := v6, born := 6 }] 7 11 v7 w r hr rfl
  have m8 := fun (v0 v1 v2 v3 v4 v5 v6 v7 v8 : Value) (w : World) r hr => run_mapInsert (P := Try.prog) (T := 30) Try.underlying30 Try.underlying3 #[{ key := .int .i64 0, val := v0, born := 0 }, { key := .int .i64 1, val := v1, born := 1 }, { key := .int .i64 2, val := v2, born := 2 }, { key := .int .i64 3, val := v3, born := 3 }, { key := .int .i64 8, val := v4, born := 4 }, { key := .int .i64 9, val := v5, born := 5 }, { key := .int .i64 10, val := v6, born := 6 }, { key := .int .i64 11, val := v7, born := 7 }] 8 12 v8 w r hr rfl
  have m9 := fun (v0 v1 v2 v3 v4 v5 v6 v7 v8 v9 : Value) (w : World) r hr => run_mapInsert (P := Try.prog) (T := 30) Try.underlying30 Try.underlying3 #[{ key := .int .i64 0, val := v0, born := 0 }, { key := .int .i64 1, val := v1, born := 1 }, { key := .int .i64 2, val := v2, born := 2 }, { key := .int .i64 3, val := v3, born := 3 }, { key := .int .i64 8, val := v4, born := 4 }, { key := .int .i64 9, val := v5, born := 5 }, { key := .int .i64 10, val := v6, born := 6 }, { key := .int .i64 11, val := v7, born := 7 }, { key := .int .i64 12, val := v8, born := 8 }] 9 13 v9 w r hr rfl
  have m10 := fun (v0 v1 v2 v3 v4 v5 v6 v7 v8 v9 v10 : Value) (w : World) r hr => run_mapInsert (P := Try.prog) (T := 30) Try.underlying30 Try.underlying3 #[{ key := .int .i64 0, val := v0, born := 0 }, { key := .int .i64 1, val := v1, born := 1 }, { key := .int .i64 2, val := v2, born := 2 }, { key := .int .i64 3, val := v3, born := 3 }, { key := .int .i64 8, val := v4, born := 4 }, { key := .int .i64 9, val := v5, born := 5 }, { key := .int .i64 10, val := v6, born := 6 }, { key := .int .i64 11, val := v7, born := 7 }, { key := .int .i64 12, val := v8, born := 8 }, { key := .int .i64 13, val := v9, born := 9 }] 10 14 v10 w r hr rfl
  have m11 := fun (v0 v1 v2 v3 v4 v5 v6 v7 v8 v9 v10 v11 : Value) (w : World) r hr => run_mapInsert (P := Try.prog) (T := 30) Try.underlying30 Try.underlying3 #[{ key := .int .i64 0, val := v0, born := 0 }, { key := .int .i64 1, val := v1, born := 1 }, { key := .int .i64 2, val := v2, born := 2 }, { key := .int .i64 3, val := v3, born := 3 }, { key := .int .i64 8, val := v4, born := 4 }, { key := .int .i64 9, val := v5, born := 5 }, { key := .int .i64 10, val := v6, born := 6 }, { key := .int .i64 11, val := v7, born := 7 }, { key := .int .i64 12, val := v8, born := 8 }, { key := .int .i64 13, val := v9, born := 9 }, { key := .int .i64 14, val := v10, born := 10 }] 11 15 v11 w r hr rfl
  have rr := fun (w : World) es c r hr => run_range_new (P := Try.prog) (t := 30) Try.underlying30 w es c r hr
  have HK := Lib.hid (ord_entries a0 a1 a2 h0 h1)
  go_enter Try.func4, Try.ntmps4
  go_wp2_with fail
  refine (sane_c _).mono ?_
  rintro e w1 ⟨rfl, hb1⟩
  have N1 := Lib.hid hb1
  clear hb1
  go_wp2_with fail
  clear m0 m1 m2 m3 m4 m5 m6 m7 m8 m9 m10 m11 hmm rr
  have RS := Lib.hid (Rng.start w1 #[{ key := .int .i64 0, val := .bool (a0 == a1), born := 0 }, { key := .int .i64 1, val := .bool (a0 != a1), born := 1 }, { key := .int .i64 2, val := .bool (decide (a0 < a1)), born := 2 }, { key := .int .i64 3, val := .bool (decide (a1 ≤ a0)), born := 3 }, { key := .int .i64 8, val := .bool (decide (a0 ≤ a1)), born := 4 }, { key := .int .i64 9, val := .bool (decide (a1 < a0)), born := 5 }, { key := .int .i64 10, val := .bool (decide (wrap32 a0 < wrap32 a1)), born := 6 }, { key := .int .i64 11, val := .bool (decide (wrap32 a1 ≤ wrap32 a0)), born := 7 }, { key := .int .i64 12, val := .bool (decide (wrap32 a0 ≤ wrap32 a1)), born := 8 }, { key := .int .i64 13, val := .bool (decide (wrap32 a1 < wrap32 a0)), born := 9 }, { key := .int .i64 14, val := .bool true, born := 10 }, { key := .int .i64 15, val := .bool false, born := 11 }] w1.heap.size (w1.heap.size + 1) 12 rfl rfl rfl)
  have N2 := Lib.hid ((N1.out.alloc N1.out.size (.map #[{ key := .int .i64 0, val := .bool (a0 == a1), born := 0 }, { key := .int .i64 1, val := .bool (a0 != a1), born := 1 }, { key := .int .i64 2, val := .bool (decide (a0 < a1)), born := 2 }, { key := .int .i64 3, val := .bool (decide (a1 ≤ a0)), born := 3 }, { key := .int .i64 8, val := .bool (decide (a0 ≤ a1)), born := 4 }, { key := .int .i64 9, val := .bool (decide (a1 < a0)), born := 5 }, { key := .int .i64 10, val := .bool (decide (wrap32 a0 < wrap32 a1)), born := 6 }, { key := .int .i64 11, val := .bool (decide (wrap32 a1 ≤ wrap32 a0)), born := 7 }, { key := .int .i64 12, val := .bool (decide (wrap32 a0 ≤ wrap32 a1)), born := 8 }, { key := .int .i64 13, val := .bool (decide (wrap32 a1 < wrap32 a0)), born := 9 }, { key := .int .i64 14, val := .bool true, born := 10 }, { key := .int .i64 15, val := .bool false, born := 11 }] 12)).alloc (by have := N1.out.size; simp; omega) (.mapIter (some w1.heap.size) 12 #[] 12))
  generalize (w1.alloc (.map #[{ key := .int .i64 0, val := .bool (a0 == a1), born := 0 }, { key := .int .i64 1, val := .bool (a0 != a1), born := 1 }, { key := .int .i64 2, val := .bool (decide (a0 < a1)), born := 2 }, { key := .int .i64 3, val := .bool (decide (a1 ≤ a0)), born := 3 }, { key := .int .i64 8, val := .bool (decide (a0 ≤ a1)), born := 4 }, { key := .int .i64 9, val := .bool (decide (a1 < a0)), born := 5 }, { key := .int .i64 10, val := .bool (decide (wrap32 a0 < wrap32 a1)), born := 6 }, { key := .int .i64 11, val := .bool (decide (wrap32 a1 ≤ wrap32 a0)), born := 7 }, { key := .int .i64 12, val := .bool (decide (wrap32 a0 ≤ wrap32 a1)), born := 8 }, { key := .int .i64 13, val := .bool (decide (wrap32 a1 < wrap32 a0)), born := 9 }, { key := .int .i64 14, val := .bool true, born := 10 }, { key := .int .i64 15, val := .bool false, born := 11 }] 12)).alloc (.mapIter (some w1.heap.size) 12 #[] 12) = w2 at *
  generalize (#[{ key := .int .i64 0, val := .bool (a0 == a1), born := 0 }, { key := .int .i64 1, val := .bool (a0 != a1), born := 1 }, { key := .int .i64 2, val := .bool (decide (a0 < a1)), born := 2 }, { key := .int .i64 3, val := .bool (decide (a1 ≤ a0)), born := 3 }, { key := .int .i64 8, val := .bool (decide (a0 ≤ a1)), born := 4 }, { key := .int .i64 9, val := .bool (decide (a1 < a0)), born := 5 }, { key := .int .i64 10, val := .bool (decide (wrap32 a0 < wrap32 a1)), born := 6 }, { key := .int .i64 11, val := .bool (decide (wrap32 a1 ≤ wrap32 a0)), born := 7 }, { key := .int .i64 12, val := .bool (decide (wrap32 a0 ≤ wrap32 a1)), born := 8 }, { key := .int .i64 13, val := .bool (decide (wrap32 a1 < wrap32 a0)), born := 9 }, { key := .int .i64 14, val := .bool true, born := 10 }, { key := .int .i64 15, val := .bool false, born := 11 }] : Array MapEntry) = es at *
  have hb : w.heap.size ≤ w1.heap.size := N1.out.size
  clear N1
  generalize w1.heap.size = b at *
  go_loopw [9, 10] (fun _ _ w' => ∃ seen, Rng es b (b + 1) seen w' ∧ New w w') (fun _ _ w' => (leftOf es (w'.iterSeen (b + 1))).size)
  case atStart => exact ⟨#[], RS.out, N2.out⟩
  case round =>
    obtain ⟨seen, hr, hw⟩ := hrel
    have HR := Lib.hid hr
    have HW := Lib.hid hw
    clear hr hw RS N2
    go_wp2_with (at_next; refine wpList_next_known _ rfl _ rfl es b (b + 1) seen (by rfl) HR.out (OrdE a0 a1 a2) HK.out ?_ ?_)
    · go_wp2
      go_ret
      exact ⟨rfl, HW.out⟩
    · intro k v w3 seen3 hkv hr3 hlt3 hb3 hs3 hen
      obtain ⟨cd, k0, k1, rfl, rfl⟩ := hkv
      have HR3 := Lib.hid hr3
      have N3 := Lib.hid (HW.out.trans (hb3.mono (by omega)))
      have L3 := Lib.hid hlt3
      clear hr3 hb3 hs3 hlt3
      go_wp2_with fail
      refine (cond_c cd 2 a0 a1 a2 _ (by decide) (by decide) h0.1 h0.2 h1.1 h1.2 h2.1 h2.2).mono ?_
      rintro e w4 ⟨rfl, hb4⟩
      have R4 := Lib.hid (HR3.out.new hb4)
      have N4 := Lib.hid (N3.out.trans (hb4.mono N3.out.size))
      clear hb4 hen
      go_wp2
      go_roundw
      case rel => exact ⟨seen3, R4.out, N4.out⟩
      case measure => rw [R4.out.seen, HR.out.seen]; exact L3.out

theorem thunkOrders_own : ownKnob Try.prog.godebug = none := by kernel_rfl
set_option maxRecDepth 100000 in
theorem thunkOrders_lifted (os : Os) (started : os.Started) (H : Type) (enc : TypeId × Value → H) :
    ReturnsInHanded {} Try.checked os 4 .any (Rows.thunkOrdersSpec.pre6 enc Try.prog Try.f4 Rows.thunkOrdersRow.domain false) (Rows.thunkOrdersSpec.post enc Try.prog Try.f4 false true false false) := by
  refine returnsInHanded_of_change (C := Try.checked) thunkOrders_own started (by kernel_rfl) Try.func4
    (ChangeSpec.witness6 (enc := enc) (C := Try.checked) false ⟨#[], #[.int .u32 0, .int .u32 0, .int .u32 0], []⟩ 8 (by kernel_rfl) (by kernel_rfl) (by kernel_rfl) (by kernel_rfl)) ?_
  intro W base args ds gs before hval0 hW hcnd _
  have hval : ∀ (j : Nat) t v, Try.f4.params[j]? = some t → args[j]? = some v → Value.okWide Try.prog W .any base t v := hval0
  have hW' := hW
  obtain ⟨p, q, hA0, hV, rfl, hfz, hnd⟩ := hW
  have hA : DataW.TrodAll enc Try.prog W 0 (fun _ => true) true Try.f4.params.toList args.toList ds p := hA0
  rw [Try.params4] at hA hval
  obtain ⟨v0, vs0, d0, ds0, p0, q0, hargs, rfl, rfl, h0, r0⟩ := trodAll_cons hA
  obtain ⟨v1, vs1, d1, ds1, p1, q1, rfl, rfl, rfl, h1, r1⟩ := trodAll_cons r0
  obtain ⟨v2, vs2, d2, ds2, p2, q2, rfl, rfl, rfl, h2, r2⟩ := trodAll_cons r1
  obtain ⟨rfl, rfl, rfl⟩ := trodAll_nil r2
  obtain rfl : args = #[v0, v1, v2] := by cases args; simp_all
  obtain ⟨a0, rfl, rfl, rfl, w0⟩ := open_int Try.underlying29 (hval 0 29 v0 rfl rfl) h0
  obtain ⟨a1, rfl, rfl, rfl, w1⟩ := open_int Try.underlying29 (hval 1 29 v1 rfl rfl) h1
  obtain ⟨a2, rfl, rfl, rfl, w2⟩ := open_int Try.underlying29 (hval 2 29 v2 rfl rfl) h2
  exact (thunkOrders_c a0 a1 a2 (wf_u32 w0) (wf_u32 w1) (wf_u32 w2) W).mono fun e W' ⟨he, hg⟩ =>
    ⟨_, he, law_post (tb := 4) (by kernel_rfl) (by decide +kernel) rfl Try.underlying4 rfl hW' rfl hg⟩
theorem thunkOrders_holds : Rows.ThunkOrdersSaid :=
  OpenClaim.holds_of_wide 4 Try.f4 rfl rfl rfl rfl rfl rfl rfl ⟨rfl, rfl, rfl, rfl, rfl⟩ rfl rfl rfl rfl rfl (by kernel_rfl) Try.func4 (by kernel_rfl)
    (of_decide_eq_true (by kernel_rfl)) (by unfold Func.isWrapper; first | (rw [if_pos (by decide +kernel)]; kernel_rfl) | (rw [if_neg (by decide +kernel)]; exact ⟨rfl, rfl⟩))
    (fun os started H enc _ => thunkOrders_lifted os started H enc)
#print axioms thunkOrders_holds
end Go.Proofs.Ytmkjgkldbonpnaa
