/- The contract of thunk.Flags, for all thunks. -/
import Derived.Test.YtmkjgkldbonpnaaWFlags3
namespace Go.Proofs.Ytmkjgkldbonpnaa
open Go Go.RowKit Go.Cd
set_option linter.unusedVariables false

/-- Result, carry and overflow of a thunk operation from 1 to 8. -/
def thunkR (op d1 d2 d3 : Int) : Int :=
  if op = 1 then sumR d1 d2 0 else if op = 2 then difR d1 d2 0 else if op = 3 then d1 else if op = 4 then shlR d1 (d2 % 32)
  else if op = 5 then shrR d1 (d2 % 32) else if op = 6 then sarR d1 (d2 % 32) else if op = 7 then sumR d1 d2 (d3 % 2) else difR d1 d2 (d3 % 2)
def thunkC (op d1 d2 d3 : Int) : Bool :=
  if op = 1 then sumC d1 d2 0 else if op = 2 then difC d1 d2 0 else if op = 3 then false else if op = 4 then outB d1 (d2 % 32) (32 - d2 % 32)
  else if op = 5 then outB d1 (d2 % 32) ((d2 % 32 - 1) % 4294967296) else if op = 6 then outB d1 (d2 % 32) ((d2 % 32 - 1) % 4294967296) else if op = 7 then sumC d1 d2 (d3 % 2) else difC d1 d2 (d3 % 2)
def thunkV (op d1 d2 d3 : Int) : Bool :=
  if op = 1 then sumV d1 d2 0 else if op = 2 then difV d1 d2 0 else if op = 3 then false else if op = 4 then false
  else if op = 5 then false else if op = 6 then false else if op = 7 then sumV d1 d2 (d3 % 2) else difV d1 d2 (d3 % 2)
/-- The flags of a thunk. -/
def flagsF (op d1 d2 d3 : Int) : Int :=
  if 8 < op then 0 else if op = 0 then d1 % 16
  else flagNum (thunkR op d1 d2 d3 == 0) (thunkR op d1 d2 d3 / 2147483648 == 1) (thunkC op d1 d2 d3) (thunkV op d1 d2 d3)

theorem flags_0 (op d1 d2 d3 : Int) (w : World) (ho : 0 ≤ op) (ho' : op < 4294967296) (h1 : 0 ≤ d1) (h1' : d1 < 4294967296) (hop : 8 < op) :
    Calls Try.prog 48 #[.agg #[.int .u32 op, .int .u32 d1, .int .u32 d2, .int .u32 d3]] w fun e w' => e = .returned (.int .i64 0) ∧ New w w' := by
  go_enter Try.func48, Try.ntmps48
  go_wp2
  go_ret
  exact ⟨rfl, by go_grown⟩
theorem flags_00 (d1 d2 d3 : Int) (w : World) (h1 : 0 ≤ d1) (h1' : d1 < 4294967296) :
    Calls Try.prog 48 #[.agg #[.int .u32 0, .int .u32 d1, .int .u32 d2, .int .u32 d3]] w fun e w' => e = .returned (.int .i64 (d1 % 16)) ∧ New w w' := by
  have hm := and_15 d1 h1 h1'
  go_enter Try.func48, Try.ntmps48
  go_wp2
  go_ret
  exact ⟨rfl, by go_grown⟩

theorem pow_pos' (k : Nat) : (0 : Int) < 2 ^ k := Int.pow_pos (by decide)
theorem thunkR_bd (op d1 d2 d3 : Int) (h1 : 0 ≤ d1) (h1' : d1 < 4294967296) : 0 ≤ thunkR op d1 d2 d3 ∧ thunkR op d1 d2 d3 < 4294967296 := by
  have h5 : 0 ≤ shrR d1 (d2 % 32) ∧ shrR d1 (d2 % 32) < 4294967296 := ⟨Int.ediv_nonneg h1 (Int.le_of_lt (pow_pos' _)), Int.lt_of_le_of_lt (Int.ediv_le_self _ h1) h1'⟩
  unfold thunkR
  repeat' split
  all_goals first | exact h5 | (unfold sumR; omega) | (unfold difR; omega) | (unfold shlR; omega) | (unfold sarR; omega) | omega
theorem flags_c (op d1 d2 d3 : Int) (w : World) (ho : 0 ≤ op) (ho' : op < 4294967296) (h1 : 0 ≤ d1) (h1' : d1 < 4294967296) (h2 : 0 ≤ d2) (h2' : d2 < 4294967296) (h3 : 0 ≤ d3) (h3' : d3 < 4294967296) :
    Calls Try.prog 48 #[.agg #[.int .u32 op, .int .u32 d1, .int .u32 d2, .int .u32 d3]] w fun e w' => e = .returned (.int .i64 (flagsF op d1 d2 d3)) ∧ New w w' := by
  by_cases h8 : 8 < op
  · have e : flagsF op d1 d2 d3 = 0 := by unfold flagsF; rw [if_pos h8]
    rw [e]; exact flags_0 op d1 d2 d3 w ho ho' h1 h1' h8
  · have hcase : op = 0 ∨ op = 1 ∨ op = 2 ∨ op = 3 ∨ op = 4 ∨ op = 5 ∨ op = 6 ∨ op = 7 ∨ op = 8 := by omega
    rcases hcase with rfl | rfl | rfl | rfl | rfl | rfl | rfl | rfl | rfl
    · exact flags_00 d1 d2 d3 w h1 h1'
    · exact flags_gen 87 1 d1 d2 d3 (thunkR 1 d1 d2 d3) _ _ (thunkC 1 d1 d2 d3) (thunkV 1 d1 d2 d3) w (by decide) (by decide) h1 h1' h2 h2' (thunkR_bd 1 d1 d2 d3 h1 h1').1 (thunkR_bd 1 d1 d2 d3 h1 h1').2 rfl rfl (fun _ => by kernel_rfl) Try.call87 (fun w => res1_c 1 d1 d2 d3 w h1 h1' h2 h2')
    · exact flags_gen 89 2 d1 d2 d3 (thunkR 2 d1 d2 d3) _ _ (thunkC 2 d1 d2 d3) (thunkV 2 d1 d2 d3) w (by decide) (by decide) h1 h1' h2 h2' (thunkR_bd 2 d1 d2 d3 h1 h1').1 (thunkR_bd 2 d1 d2 d3 h1 h1').2 rfl rfl (fun _ => by kernel_rfl) Try.call89 (fun w => res2_c 2 d1 d2 d3 w h1 h1' h2 h2')
    · exact flags_gen 91 3 d1 d2 d3 (thunkR 3 d1 d2 d3) _ _ (thunkC 3 d1 d2 d3) (thunkV 3 d1 d2 d3) w (by decide) (by decide) h1 h1' h2 h2' (thunkR_bd 3 d1 d2 d3 h1 h1').1 (thunkR_bd 3 d1 d2 d3 h1 h1').2 rfl rfl (fun _ => by kernel_rfl) Try.call91 (fun w => res3_c 3 d1 d2 d3 w )
    · exact flags_gen 92 4 d1 d2 d3 (thunkR 4 d1 d2 d3) _ _ (thunkC 4 d1 d2 d3) (thunkV 4 d1 d2 d3) w (by decide) (by decide) h1 h1' h2 h2' (thunkR_bd 4 d1 d2 d3 h1 h1').1 (thunkR_bd 4 d1 d2 d3 h1 h1').2 rfl rfl (fun _ => by kernel_rfl) Try.call92 (fun w => res4_c 4 d1 d2 d3 w h1 h1' h2 h2')
    · exact flags_gen 95 5 d1 d2 d3 (thunkR 5 d1 d2 d3) _ _ (thunkC 5 d1 d2 d3) (thunkV 5 d1 d2 d3) w (by decide) (by decide) h1 h1' h2 h2' (thunkR_bd 5 d1 d2 d3 h1 h1').1 (thunkR_bd 5 d1 d2 d3 h1 h1').2 rfl rfl (fun _ => by kernel_rfl) Try.call95 (fun w => res5_c 5 d1 d2 d3 w h1 h1' h2 h2')
    · exact flags_gen 97 6 d1 d2 d3 (thunkR 6 d1 d2 d3) _ _ (thunkC 6 d1 d2 d3) (thunkV 6 d1 d2 d3) w (by decide) (by decide) h1 h1' h2 h2' (thunkR_bd 6 d1 d2 d3 h1 h1').1 (thunkR_bd 6 d1 d2 d3 h1 h1').2 rfl rfl (fun _ => by kernel_rfl) Try.call97 (fun w => res6_c 6 d1 d2 d3 w h1 h1' h2 h2')
    · exact flags_gen 99 7 d1 d2 d3 (thunkR 7 d1 d2 d3) _ _ (thunkC 7 d1 d2 d3) (thunkV 7 d1 d2 d3) w (by decide) (by decide) h1 h1' h2 h2' (thunkR_bd 7 d1 d2 d3 h1 h1').1 (thunkR_bd 7 d1 d2 d3 h1 h1').2 rfl rfl (fun _ => by kernel_rfl) Try.call99 (fun w => res7_c 7 d1 d2 d3 w h1 h1' h2 h2' h3 h3')
    · exact flags_gen 100 8 d1 d2 d3 (thunkR 8 d1 d2 d3) _ _ (thunkC 8 d1 d2 d3) (thunkV 8 d1 d2 d3) w (by decide) (by decide) h1 h1' h2 h2' (thunkR_bd 8 d1 d2 d3 h1 h1').1 (thunkR_bd 8 d1 d2 d3 h1 h1').2 rfl rfl (fun _ => by kernel_rfl) Try.call100 (fun w => res8_c 8 d1 d2 d3 w h1 h1' h2 h2' h3 h3')
end Go.Proofs.Ytmkjgkldbonpnaa
