/- Contracts of thunk's small functions. -/
import Derived.Test.YtmkjgkldbonpnaaWHolds
import Derived.Test.YtmkjgkldbonpnaaWFlags4
namespace Go.Proofs.Ytmkjgkldbonpnaa
open Go Go.RowKit Go.Cd
set_option linter.unusedVariables false

/-- Is a number a condition? -/
def isCd (cd : Int) : Bool := decide (0 ≤ cd) && decide (cd ≤ 15)
theorem iscond_c (cd : Int) (w : World) :
    Calls Try.prog 55 #[.int .i64 cd] w fun e w' => e = .returned (.bool (isCd cd)) ∧ w = w' := by
  go_enter Try.func55, Try.ntmps55
  go_wp2
  all_goals go_ret
  all_goals refine ⟨ret_bool ?_, rfl⟩
  all_goals unfold isCd
  all_goals first | (simp_all; done) | (rw [eq_comm]; simp; omega)
theorem xor1 (cd : Int) (h0 : 0 ≤ cd) (h1 : cd ≤ 15) : bits .xor .i64 cd 1 = if cd % 2 = 0 then cd + 1 else cd - 1 := by
  have : cd = 0 ∨ cd = 1 ∨ cd = 2 ∨ cd = 3 ∨ cd = 4 ∨ cd = 5 ∨ cd = 6 ∨ cd = 7 ∨ cd = 8 ∨ cd = 9 ∨ cd = 10 ∨ cd = 11 ∨ cd = 12 ∨ cd = 13 ∨ cd = 14 ∨ cd = 15 := by omega
  rcases this with rfl | rfl | rfl | rfl | rfl | rfl | rfl | rfl | rfl | rfl | rfl | rfl | rfl | rfl | rfl | rfl <;> decide +kernel
def invF (cd : Int) : Int := if cd < 0 ∨ 15 < cd then -1 else if cd % 2 = 0 then cd + 1 else cd - 1
def usesI (i : Int) : Int := if i = 0 then 1 else if i = 1 then 4 else if i = 2 then 2 else if i = 3 then 8 else if i = 4 then 5 else if i = 5 then 10 else if i = 6 then 11 else 0
def usesF (cd : Int) : Int := if cd < 0 ∨ 15 < cd then 0 else usesI (cd / 2)
theorem inverse_c (cd : Int) (w : World) :
    Calls Try.prog 29 #[.int .i64 cd] w fun e w' => e = .returned (.int .i64 (invF cd)) ∧ w = w' := by
  by_cases h : cd < 0 ∨ 15 < cd
  · have e : isCd cd = false := by unfold isCd; simp; omega
    go_enter Try.func29, Try.ntmps29
    go_wp2_with (go_at_call 55; refine (iscond_c _ _).mono ?_; rw [e]; rintro e w1 ⟨rfl, rfl⟩)
    go_ret
    exact ⟨ret_int (by unfold invF; rw [if_pos h]), rfl⟩
  · have e : isCd cd = true := by unfold isCd; simp; omega
    go_enter Try.func29, Try.ntmps29
    go_wp2_with (go_at_call 55; refine (iscond_c _ _).mono ?_; rw [e]; rintro e w1 ⟨rfl, rfl⟩)
    go_ret
    refine ⟨ret_int ?_, rfl⟩
    unfold invF; rw [if_neg h]
    exact xor1 cd (by omega) (by omega)
theorem uses_ix (i : Int) (h0 : 0 ≤ i) (h1 : i < 8) (w : World) : (Instr.index 94 (.agg #[.int .i64 1, .int .i64 4, .int .i64 2, .int .i64 8, .int .i64 5, .int .i64 10, .int .i64 11, .int .i64 0]) (.int .i64 i)).run Try.prog w
    = .ok (.int .i64 (usesI i)) w := by
  have : i = 0 ∨ i = 1 ∨ i = 2 ∨ i = 3 ∨ i = 4 ∨ i = 5 ∨ i = 6 ∨ i = 7 := by omega
  rcases this with rfl | rfl | rfl | rfl | rfl | rfl | rfl | rfl <;> (show _ = _; kernel_rfl)
theorem uses_in (cd : Int) (w : World) (h : ¬ (cd < 0 ∨ 15 < cd)) (h0 : 0 ≤ cd) (e : isCd cd = true) (r : Int)
    (hr : ∀ w, (Instr.index 94 (.agg #[.int .i64 1, .int .i64 4, .int .i64 2, .int .i64 8, .int .i64 5, .int .i64 10, .int .i64 11, .int .i64 0]) (.int .i64 (cd / 2))).run Try.prog w = .ok (.int .i64 r) w) :
    Calls Try.prog 31 #[.int .i64 cd] w fun e w' => e = .returned (.int .i64 r) ∧ New w w' := by
  go_enter Try.func31, Try.ntmps31
  go_wp2_with (go_at_call 55; refine (iscond_c _ _).mono ?_; rw [e]; rintro e w1 ⟨rfl, rfl⟩)
  go_ret
  exact ⟨rfl, by go_grown⟩
theorem uses_c (cd : Int) (w : World) :
    Calls Try.prog 31 #[.int .i64 cd] w fun e w' => e = .returned (.int .i64 (usesF cd)) ∧ New w w' := by
  by_cases h : cd < 0 ∨ 15 < cd
  · have e : isCd cd = false := by unfold isCd; simp; omega
    go_enter Try.func31, Try.ntmps31
    go_wp2_with (go_at_call 55; refine (iscond_c _ _).mono ?_; rw [e]; rintro e w1 ⟨rfl, rfl⟩)
    go_ret
    exact ⟨ret_int (by unfold usesF; rw [if_pos h]), by go_grown⟩
  · have e : isCd cd = true := by unfold isCd; simp; omega
    have h2 := uses_ix (cd / 2) (by omega) (by omega)
    have e2 : usesF cd = usesI (cd / 2) := by unfold usesF; rw [if_neg h]
    rw [e2]
    exact uses_in cd w h (by omega) e _ h2
def fixedF (op : Int) : Int := if op = 3 then 12 else if op = 4 ∨ op = 5 ∨ op = 6 then 8 else if 8 < op then 15 else 0
theorem fixed_c (op : Int) (w : World) :
    Calls Try.prog 23 #[.int .u32 op] w fun e w' => e = .returned (.tuple #[.int .i64 (fixedF op), .int .i64 0]) ∧ w = w' := by
  go_enter Try.func23, Try.ntmps23
  go_wp2
  all_goals go_ret2
  all_goals refine ⟨congrArg (fun b => Ending.returned (.tuple #[.int .i64 b, .int .i64 0])) (?_ : _ = fixedF op), rfl⟩
  all_goals simp only [beq_iff_eq, beq_eq_false_iff_ne] at *
  all_goals unfold fixedF
  all_goals repeat' split
  all_goals omega
def condF (cd op d1 d2 d3 : Int) : Bool := holdsF cd (flagsF op d1 d2 d3)
theorem tflags_c (op d1 d2 d3 : Int) (w : World) (ho : 0 ≤ op) (ho' : op < 4294967296) (h1 : 0 ≤ d1) (h1' : d1 < 4294967296) (h2 : 0 ≤ d2) (h2' : d2 < 4294967296) (h3 : 0 ≤ d3) (h3' : d3 < 4294967296) :
    Calls Try.prog 19 #[.int .u32 op, .int .u32 d1, .int .u32 d2, .int .u32 d3] w fun e w' => e = .returned (.int .i64 (flagsF op d1 d2 d3)) ∧ New w w' := by
  go_enter Try.func19, Try.ntmps19
  go_wp2_with (go_at_call 48; refine (flags_c _ _ _ _ _ ho ho' h1 h1' h2 h2' h3 h3').mono ?_; rintro e w1 ⟨rfl, hb⟩)
  go_ret
  exact ⟨rfl, hb⟩
theorem cond_c (cd op d1 d2 d3 : Int) (w : World) (ho : 0 ≤ op) (ho' : op < 4294967296) (h1 : 0 ≤ d1) (h1' : d1 < 4294967296) (h2 : 0 ≤ d2) (h2' : d2 < 4294967296) (h3 : 0 ≤ d3) (h3' : d3 < 4294967296) :
    Calls Try.prog 16 #[.int .i64 cd, .int .u32 op, .int .u32 d1, .int .u32 d2, .int .u32 d3] w fun e w' => e = .returned (.bool (condF cd op d1 d2 d3)) ∧ New w w' := by
  go_enter Try.func16, Try.ntmps16
  go_wp2_with (first | (go_at_call 19; refine (tflags_c _ _ _ _ _ ho ho' h1 h1' h2 h2' h3 h3').mono ?_; rintro e w1 ⟨rfl, hb⟩) | (go_at_call 26; refine (tholds_c _ _ _).mono ?_; rintro e w2 ⟨rfl, hb2⟩))
  go_ret
  exact ⟨rfl, hb.trans (hb2.mono hb.size)⟩
end Go.Proofs.Ytmkjgkldbonpnaa
