/- The contract of cpu.Holds. -/
import Derived.Test.YtpooghnemlnopaaRows
import Derived.Test.YtpooghnemlnopaaKit
import Derived.Test.YtpooghnemlnopaaNum
namespace Go.Proofs.Ytpooghnemlnopaa
open Go Go.RowKit Go.Cd
set_option linter.unusedVariables false

/-- Is a flag set? -/
def hasB (flags f : Int) : Bool := bits .and .i64 flags f != 0
/-- What the even condition of number 2 i says. -/
def isAt (z n c v : Bool) (i : Int) : Bool :=
  if i = 0 then z else if i = 1 then c else if i = 2 then n else if i = 3 then v else if i = 4 then (c || z) else if i = 5 then (n != v) else if i = 6 then ((n != v) || z) else true
def holdsZ (cd : Int) (z n c v : Bool) : Bool := isAt z n c v (cd / 2) == (cd % 2 == 0)
def holdsF (cd flags : Int) : Bool :=
  if cd < 0 ∨ 15 < cd then false else holdsZ cd (hasB flags 1) (hasB flags 2) (hasB flags 4) (hasB flags 8)

def sel8 (b0 b1 b2 b3 b4 b5 b6 b7 : Bool) (i : Int) : Bool :=
  if i = 0 then b0 else if i = 1 then b1 else if i = 2 then b2 else if i = 3 then b3 else if i = 4 then b4 else if i = 5 then b5 else if i = 6 then b6 else b7
theorem holds1_c (f x : Int) (a : Addr) (w : World) (h : w.cell? a = some (.int .i64 x)) :
    Calls Try.prog 35 #[.int .i64 f, .pointer (some a)] w fun e w' => e = .returned (.bool (hasB x f)) ∧ w = w' := by
  go_enter Try.func35, Try.ntmps35
  go_wp2
  go_ret
  exact ⟨rfl, rfl⟩
theorem holds_out (cd flags : Int) (w : World) (h : cd < 0 ∨ 15 < cd) :
    Calls Try.prog 11 #[.int .i64 cd, .int .i64 flags] w fun e w' => e = .returned (.bool false) ∧ New w w' := by
  rcases h with h | h
  · go_enter Try.func11, Try.ntmps11
    go_wp2
    go_ret
    exact ⟨rfl, by go_grown⟩
  · have h' : ¬ cd < 0 := by omega
    go_enter Try.func11, Try.ntmps11
    go_wp2
    go_ret
    exact ⟨rfl, by go_grown⟩
set_option maxHeartbeats 1000000 in
theorem holds_in (cd flags : Int) (z n c v : Bool) (w : World) (hz : hasB flags 1 = z) (hn : hasB flags 2 = n) (hc : hasB flags 4 = c) (hv : hasB flags 8 = v) (h1 : ¬ cd < 0) (h2 : ¬ 15 < cd) (h0 : 0 ≤ cd) (h3 : cd ≤ 15) :
    Calls Try.prog 11 #[.int .i64 cd, .int .i64 flags] w fun e w' => e = .returned (.bool (holdsZ cd z n c v)) ∧ New w w' := by
  have HC : (w.alloc (.cells #[.int .i64 flags] 3)).cell? ⟨w.heap.size, 0, none⟩ = some (.int .i64 flags) := by simp
  obtain ⟨i, hi⟩ : ∃ i, cd / 2 = i := ⟨_, rfl⟩
  have hi0 : 0 ≤ i := by omega
  have hi1 : i < 8 := by omega
  have hL : ∀ b0 b1 b2 b3 b4 b5 b6 b7 (h : i.toNat < [Value.bool b0, .bool b1, .bool b2, .bool b3, .bool b4, .bool b5, .bool b6, .bool b7].length), [Value.bool b0, .bool b1, .bool b2, .bool b3, .bool b4, .bool b5, .bool b6, .bool b7][i.toNat]'h = Value.bool (sel8 b0 b1 b2 b3 b4 b5 b6 b7 i) := by
    intro b0 b1 b2 b3 b4 b5 b6 b7 h
    clear h1 h2
    have : i = 0 ∨ i = 1 ∨ i = 2 ∨ i = 3 ∨ i = 4 ∨ i = 5 ∨ i = 6 ∨ i = 7 := by omega
    rcases this with rfl | rfl | rfl | rfl | rfl | rfl | rfl | rfl <;> rfl
  go_enter Try.func11, Try.ntmps11
  go_wp2_with (go_at_call 35; refine (holds1_c _ _ _ _ HC).mono ?_; (first | rw [hz] | rw [hn] | rw [hc] | rw [hv]); rintro e w1 ⟨rfl, rfl⟩)
  all_goals go_ret
  all_goals refine ⟨ret_bool ?_, by clear hL; go_grown⟩
  all_goals unfold holdsZ
  all_goals rw [hi]
  all_goals congr 1
  all_goals clear hL HC hi hz hn hc hv
  all_goals unfold sel8 isAt
  all_goals cases c <;> cases n <;> cases v <;> simp_all
theorem holds_c (cd flags : Int) (w : World) :
    Calls Try.prog 11 #[.int .i64 cd, .int .i64 flags] w fun e w' => e = .returned (.bool (holdsF cd flags)) ∧ New w w' := by
  by_cases h : cd < 0 ∨ 15 < cd
  · have e : holdsF cd flags = false := by unfold holdsF; rw [if_pos h]
    rw [e]; exact holds_out cd flags w h
  · have e : holdsF cd flags = holdsZ cd (hasB flags 1) (hasB flags 2) (hasB flags 4) (hasB flags 8) := by unfold holdsF; rw [if_neg h]
    rw [e]; exact holds_in cd flags _ _ _ _ w rfl rfl rfl rfl (by omega) (by omega) (by omega) (by omega)
end Go.Proofs.Ytpooghnemlnopaa
