/- Contracts of the specification's Flags. -/
import Derived.Test.YtmkjgkldbonpnaaWRefA
import Derived.Test.YtmkjgkldbonpnaaPlainFlags
namespace Go.Proofs.Ytmkjgkldbonpnaa
open Go Go.RowKit Go.Cd
set_option linter.unusedVariables false

set_option maxHeartbeats 1000000 in
theorem rflags_1 (d1 d2 d3 : Int) (w : World) (h1 : 0 ≤ d1) (h1' : d1 < 4294967296) (h2 : 0 ≤ d2) (h2' : d2 < 4294967296) (h3 : 0 ≤ d3) (h3' : d3 < 4294967296) :
    Calls Try.prog 25 #[.int .u32 1, .int .u32 d1, .int .u32 d2, .int .u32 d3] w fun e w' => e = .returned (.int .i64 (flagsF 1 d1 d2 d3)) ∧ w = w' := by
  have sb1 := sg_bd d1 h1 h1'
  have sb2 := sg_bd d2 h2 h2'
  go_enter Try.func25, Try.ntmps25
  go_wp2_with (first | (go_at_call 52; refine (rsigned_c _ _ (by omega) (by omega)).mono ?_; rintro e w1 ⟨rfl, rfl⟩) | (go_at_call 53; refine (rbit_c _ _ _ (by omega) (by omega) (by omega) (by omega)).mono ?_; rintro e w1 ⟨rfl, rfl⟩) | (go_at_call 51; refine (rresult_c _ _ _ _ ?_ ?_).mono ?_; (first | omega | exact bits_nonneg _ _ _); (first | omega | exact bits_lt _ _ _); rintro e w1 ⟨rfl, rfl⟩))
  all_goals go_ret
  all_goals refine ⟨ret_int ?_, rfl⟩
  all_goals exact pf_1 d1 d2 d3 h1 h1' h2 h2'
set_option maxHeartbeats 1000000 in
theorem rflags_2 (d1 d2 d3 : Int) (w : World) (h1 : 0 ≤ d1) (h1' : d1 < 4294967296) (h2 : 0 ≤ d2) (h2' : d2 < 4294967296) (h3 : 0 ≤ d3) (h3' : d3 < 4294967296) :
    Calls Try.prog 25 #[.int .u32 2, .int .u32 d1, .int .u32 d2, .int .u32 d3] w fun e w' => e = .returned (.int .i64 (flagsF 2 d1 d2 d3)) ∧ w = w' := by
  have sb1 := sg_bd d1 h1 h1'
  have sb2 := sg_bd d2 h2 h2'
  go_enter Try.func25, Try.ntmps25
  go_wp2_with (first | (go_at_call 52; refine (rsigned_c _ _ (by omega) (by omega)).mono ?_; rintro e w1 ⟨rfl, rfl⟩) | (go_at_call 53; refine (rbit_c _ _ _ (by omega) (by omega) (by omega) (by omega)).mono ?_; rintro e w1 ⟨rfl, rfl⟩) | (go_at_call 51; refine (rresult_c _ _ _ _ ?_ ?_).mono ?_; (first | omega | exact bits_nonneg _ _ _); (first | omega | exact bits_lt _ _ _); rintro e w1 ⟨rfl, rfl⟩))
  all_goals go_ret
  all_goals refine ⟨ret_int ?_, rfl⟩
  all_goals exact pf_2 d1 d2 d3 h1 h1' h2 h2'
set_option maxHeartbeats 1000000 in
theorem rflags_3 (d1 d2 d3 : Int) (w : World) (h1 : 0 ≤ d1) (h1' : d1 < 4294967296) (h2 : 0 ≤ d2) (h2' : d2 < 4294967296) (h3 : 0 ≤ d3) (h3' : d3 < 4294967296) :
    Calls Try.prog 25 #[.int .u32 3, .int .u32 d1, .int .u32 d2, .int .u32 d3] w fun e w' => e = .returned (.int .i64 (flagsF 3 d1 d2 d3)) ∧ w = w' := by
  go_enter Try.func25, Try.ntmps25
  go_wp2_with (first | (go_at_call 52; refine (rsigned_c _ _ (by omega) (by omega)).mono ?_; rintro e w1 ⟨rfl, rfl⟩) | (go_at_call 53; refine (rbit_c _ _ _ (by omega) (by omega) (by omega) (by omega)).mono ?_; rintro e w1 ⟨rfl, rfl⟩) | (go_at_call 51; refine (rresult_c _ _ _ _ ?_ ?_).mono ?_; (first | omega | exact bits_nonneg _ _ _); (first | omega | exact bits_lt _ _ _); rintro e w1 ⟨rfl, rfl⟩))
  all_goals go_ret
  all_goals refine ⟨ret_int ?_, rfl⟩
  all_goals exact pf_3 d1 d2 d3
set_option maxHeartbeats 1000000 in
theorem rflags_4 (d1 d2 d3 : Int) (w : World) (h1 : 0 ≤ d1) (h1' : d1 < 4294967296) (h2 : 0 ≤ d2) (h2' : d2 < 4294967296) (h3 : 0 ≤ d3) (h3' : d3 < 4294967296) :
    Calls Try.prog 25 #[.int .u32 4, .int .u32 d1, .int .u32 d2, .int .u32 d3] w fun e w' => e = .returned (.int .i64 (flagsF 4 d1 d2 d3)) ∧ w = w' := by
  go_enter Try.func25, Try.ntmps25
  go_wp2_with (first | (go_at_call 52; refine (rsigned_c _ _ (by omega) (by omega)).mono ?_; rintro e w1 ⟨rfl, rfl⟩) | (go_at_call 53; refine (rbit_c _ _ _ (by omega) (by omega) (by omega) (by omega)).mono ?_; rintro e w1 ⟨rfl, rfl⟩) | (go_at_call 51; refine (rresult_c _ _ _ _ ?_ ?_).mono ?_; (first | omega | exact bits_nonneg _ _ _); (first | omega | exact bits_lt _ _ _); rintro e w1 ⟨rfl, rfl⟩))
  all_goals go_ret
  all_goals refine ⟨ret_int ?_, rfl⟩
  all_goals first | exact pf_4a d1 d2 d3 (by assumption) | exact pf_4b d1 d2 d3 (by omega)
set_option maxHeartbeats 1000000 in
theorem rflags_5 (d1 d2 d3 : Int) (w : World) (h1 : 0 ≤ d1) (h1' : d1 < 4294967296) (h2 : 0 ≤ d2) (h2' : d2 < 4294967296) (h3 : 0 ≤ d3) (h3' : d3 < 4294967296) :
    Calls Try.prog 25 #[.int .u32 5, .int .u32 d1, .int .u32 d2, .int .u32 d3] w fun e w' => e = .returned (.int .i64 (flagsF 5 d1 d2 d3)) ∧ w = w' := by
  have hs0 : 0 ≤ d1 / 2 ^ (d2 % 32).toNat := Int.ediv_nonneg h1 (Int.le_of_lt (pow_pos' _))
  have hs1 : d1 / 2 ^ (d2 % 32).toNat < 4294967296 := Int.lt_of_le_of_lt (Int.ediv_le_self _ h1) h1'
  go_enter Try.func25, Try.ntmps25
  go_wp2_with (first | (go_at_call 52; refine (rsigned_c _ _ (by omega) (by omega)).mono ?_; rintro e w1 ⟨rfl, rfl⟩) | (go_at_call 53; refine (rbit_c _ _ _ (by omega) (by omega) (by omega) (by omega)).mono ?_; rintro e w1 ⟨rfl, rfl⟩) | (go_at_call 51; refine (rresult_c _ _ _ _ ?_ ?_).mono ?_; (first | omega | exact bits_nonneg _ _ _); (first | omega | exact bits_lt _ _ _); rintro e w1 ⟨rfl, rfl⟩))
  all_goals go_ret
  all_goals refine ⟨ret_int ?_, rfl⟩
  all_goals first | exact pf_5a d1 d2 d3 (by assumption) | exact pf_5b d1 d2 d3 (by omega)
set_option maxHeartbeats 1000000 in
theorem rflags_6 (d1 d2 d3 : Int) (w : World) (h1 : 0 ≤ d1) (h1' : d1 < 4294967296) (h2 : 0 ≤ d2) (h2' : d2 < 4294967296) (h3 : 0 ≤ d3) (h3' : d3 < 4294967296) :
    Calls Try.prog 25 #[.int .u32 6, .int .u32 d1, .int .u32 d2, .int .u32 d3] w fun e w' => e = .returned (.int .i64 (flagsF 6 d1 d2 d3)) ∧ w = w' := by
  have hs0 : 0 ≤ d1 / 2 ^ (d2 % 32).toNat := Int.ediv_nonneg h1 (Int.le_of_lt (pow_pos' _))
  have hs1 : d1 / 2 ^ (d2 % 32).toNat < 4294967296 := Int.lt_of_le_of_lt (Int.ediv_le_self _ h1) h1'
  go_enter Try.func25, Try.ntmps25
  go_wp2_with (first | (go_at_call 52; refine (rsigned_c _ _ (by omega) (by omega)).mono ?_; rintro e w1 ⟨rfl, rfl⟩) | (go_at_call 53; refine (rbit_c _ _ _ (by omega) (by omega) (by omega) (by omega)).mono ?_; rintro e w1 ⟨rfl, rfl⟩) | (go_at_call 51; refine (rresult_c _ _ _ _ ?_ ?_).mono ?_; (first | omega | exact bits_nonneg _ _ _); (first | omega | exact bits_lt _ _ _); rintro e w1 ⟨rfl, rfl⟩))
  all_goals go_ret
  all_goals refine ⟨ret_int ?_, rfl⟩
  all_goals first | exact pf_6a d1 d2 d3 h1 h1' (by assumption) (by assumption) | exact pf_6b d1 d2 d3 h1 (by omega) (by assumption) | exact pf_6c d1 d2 d3 h1 h1' (by omega)
set_option maxHeartbeats 1000000 in
theorem rflags_7 (d1 d2 d3 : Int) (w : World) (h1 : 0 ≤ d1) (h1' : d1 < 4294967296) (h2 : 0 ≤ d2) (h2' : d2 < 4294967296) (h3 : 0 ≤ d3) (h3' : d3 < 4294967296) :
    Calls Try.prog 25 #[.int .u32 7, .int .u32 d1, .int .u32 d2, .int .u32 d3] w fun e w' => e = .returned (.int .i64 (flagsF 7 d1 d2 d3)) ∧ w = w' := by
  have sb1 := sg_bd d1 h1 h1'
  have sb2 := sg_bd d2 h2 h2'
  go_enter Try.func25, Try.ntmps25
  go_wp2_with (first | (go_at_call 52; refine (rsigned_c _ _ (by omega) (by omega)).mono ?_; rintro e w1 ⟨rfl, rfl⟩) | (go_at_call 53; refine (rbit_c _ _ _ (by omega) (by omega) (by omega) (by omega)).mono ?_; rintro e w1 ⟨rfl, rfl⟩) | (go_at_call 51; refine (rresult_c _ _ _ _ ?_ ?_).mono ?_; (first | omega | exact bits_nonneg _ _ _); (first | omega | exact bits_lt _ _ _); rintro e w1 ⟨rfl, rfl⟩))
  all_goals go_ret
  all_goals refine ⟨ret_int ?_, rfl⟩
  all_goals exact pf_7 d1 d2 d3 h1 h1' h2 h2'
set_option maxHeartbeats 1000000 in
theorem rflags_8 (d1 d2 d3 : Int) (w : World) (h1 : 0 ≤ d1) (h1' : d1 < 4294967296) (h2 : 0 ≤ d2) (h2' : d2 < 4294967296) (h3 : 0 ≤ d3) (h3' : d3 < 4294967296) :
    Calls Try.prog 25 #[.int .u32 8, .int .u32 d1, .int .u32 d2, .int .u32 d3] w fun e w' => e = .returned (.int .i64 (flagsF 8 d1 d2 d3)) ∧ w = w' := by
  have sb1 := sg_bd d1 h1 h1'
  have sb2 := sg_bd d2 h2 h2'
  go_enter Try.func25, Try.ntmps25
  go_wp2_with (first | (go_at_call 52; refine (rsigned_c _ _ (by omega) (by omega)).mono ?_; rintro e w1 ⟨rfl, rfl⟩) | (go_at_call 53; refine (rbit_c _ _ _ (by omega) (by omega) (by omega) (by omega)).mono ?_; rintro e w1 ⟨rfl, rfl⟩) | (go_at_call 51; refine (rresult_c _ _ _ _ ?_ ?_).mono ?_; (first | omega | exact bits_nonneg _ _ _); (first | omega | exact bits_lt _ _ _); rintro e w1 ⟨rfl, rfl⟩))
  all_goals go_ret
  all_goals refine ⟨ret_int ?_, rfl⟩
  all_goals exact pf_8 d1 d2 d3 h1 h1' h2 h2'
theorem rflags_0 (d1 d2 d3 : Int) (w : World) (h1 : 0 ≤ d1) (h1' : d1 < 4294967296) (h2 : 0 ≤ d2) (h2' : d2 < 4294967296) :
    Calls Try.prog 25 #[.int .u32 0, .int .u32 d1, .int .u32 d2, .int .u32 d3] w fun e w' => e = .returned (.int .i64 (flagsF 0 d1 d2 d3)) ∧ w = w' := by
  go_enter Try.func25, Try.ntmps25
  go_wp2
  go_ret
  exact ⟨rfl, rfl⟩
theorem rflags_9 (op d1 d2 d3 : Int) (w : World) (h2 : 0 ≤ d2) (h2' : d2 < 4294967296) (ho : 8 < op) :
    Calls Try.prog 25 #[.int .u32 op, .int .u32 d1, .int .u32 d2, .int .u32 d3] w fun e w' => e = .returned (.int .i64 0) ∧ w = w' := by
  go_enter Try.func25, Try.ntmps25
  go_wp2
  all_goals first | (exfalso; omega) | (go_ret; exact ⟨rfl, rfl⟩)
theorem rflags_c (op d1 d2 d3 : Int) (w : World) (ho : 0 ≤ op) (ho' : op < 4294967296) (h1 : 0 ≤ d1) (h1' : d1 < 4294967296) (h2 : 0 ≤ d2) (h2' : d2 < 4294967296) (h3 : 0 ≤ d3) (h3' : d3 < 4294967296) :
    Calls Try.prog 25 #[.int .u32 op, .int .u32 d1, .int .u32 d2, .int .u32 d3] w fun e w' => e = .returned (.int .i64 (flagsF op d1 d2 d3)) ∧ w = w' := by
  by_cases h8 : 8 < op
  · have e : flagsF op d1 d2 d3 = 0 := by unfold flagsF; rw [if_pos h8]
    rw [e]; exact rflags_9 op d1 d2 d3 w h2 h2' h8
  · have hcase : op = 0 ∨ op = 1 ∨ op = 2 ∨ op = 3 ∨ op = 4 ∨ op = 5 ∨ op = 6 ∨ op = 7 ∨ op = 8 := by omega
    rcases hcase with rfl | rfl | rfl | rfl | rfl | rfl | rfl | rfl | rfl
    · exact rflags_0 d1 d2 d3 w h1 h1' h2 h2'
    · exact rflags_1 d1 d2 d3 w h1 h1' h2 h2' h3 h3'
    · exact rflags_2 d1 d2 d3 w h1 h1' h2 h2' h3 h3'
    · exact rflags_3 d1 d2 d3 w h1 h1' h2 h2' h3 h3'
    · exact rflags_4 d1 d2 d3 w h1 h1' h2 h2' h3 h3'
    · exact rflags_5 d1 d2 d3 w h1 h1' h2 h2' h3 h3'
    · exact rflags_6 d1 d2 d3 w h1 h1' h2 h2' h3 h3'
    · exact rflags_7 d1 d2 d3 w h1 h1' h2 h2' h3 h3'
    · exact rflags_8 d1 d2 d3 w h1 h1' h2 h2' h3 h3'
theorem rcond_c (cd op d1 d2 d3 : Int) (w : World) (ho : 0 ≤ op) (ho' : op < 4294967296) (h1 : 0 ≤ d1) (h1' : d1 < 4294967296) (h2 : 0 ≤ d2) (h2' : d2 < 4294967296) (h3 : 0 ≤ d3) (h3' : d3 < 4294967296) :
    Calls Try.prog 28 #[.int .i64 cd, .int .u32 op, .int .u32 d1, .int .u32 d2, .int .u32 d3] w fun e w' => e = .returned (.bool (condF cd op d1 d2 d3)) ∧ w = w' := by
  go_enter Try.func28, Try.ntmps28
  go_wp2_with (first | (go_at_call 25; refine (rflags_c _ _ _ _ _ ho ho' h1 h1' h2 h2' h3 h3').mono ?_; rintro e w1 ⟨rfl, rfl⟩) | (go_at_call 27; refine (rholds_c _ _ _).mono ?_; rintro e w2 ⟨rfl, rfl⟩))
  go_ret
  exact ⟨rfl, rfl⟩
end Go.Proofs.Ytmkjgkldbonpnaa
