/- Contracts of the functions that thunk.Flags goes through: the results. -/
import Derived.Test.YtmkjgkldbonpnaaWFlags
namespace Go.Proofs.Ytmkjgkldbonpnaa
open Go Go.RowKit Go.Cd
set_option linter.unusedVariables false

def shlR (a n : Int) : Int := a * 2 ^ n.toNat % 4294967296
def shrR (a n : Int) : Int := a / 2 ^ n.toNat
def sarR (a n : Int) : Int := wrap32 a / 2 ^ n.toNat % 4294967296
/-- The bit that goes out. -/
def outB (a n last : Int) : Bool := decide (0 < n) && (a / 2 ^ (last % 32).toNat % 2 == 1)
theorem and_1_div (a : Int) (ha : 0 ≤ a) (ha' : a < 4294967296) (k : Nat) : bits .and .u32 (a / 2 ^ k) 1 = a / 2 ^ k % 2 := by
  have hp : (0 : Int) < 2 ^ k := Int.pow_pos (by decide)
  refine and_1 _ (Int.ediv_nonneg ha (by omega)) ?_
  exact Int.lt_of_le_of_lt (Int.ediv_le_self _ ha) ha'

theorem sh4_c (a n : Int) (w : World) (ha : 0 ≤ a) (ha' : a < 4294967296) (hn : 0 ≤ n) (hn' : n < 32) :
    Calls Try.prog 94 #[.int .u32 a, .int .u32 n] w fun e w' => e = .returned (.int .u32 (shlR a n)) ∧ w = w' := by
  go_enter Try.func94, Try.ntmps94
  go_wp2
  go_ret
  exact ⟨rfl, rfl⟩
theorem sh5_c (a n : Int) (w : World) (ha : 0 ≤ a) (ha' : a < 4294967296) (hn : 0 ≤ n) (hn' : n < 32) :
    Calls Try.prog 96 #[.int .u32 a, .int .u32 n] w fun e w' => e = .returned (.int .u32 (shrR a n)) ∧ w = w' := by
  go_enter Try.func96, Try.ntmps96
  go_wp2
  go_ret
  exact ⟨rfl, rfl⟩
theorem sh6_c (a n : Int) (w : World) (ha : 0 ≤ a) (ha' : a < 4294967296) (hn : 0 ≤ n) (hn' : n < 32) :
    Calls Try.prog 98 #[.int .u32 a, .int .u32 n] w fun e w' => e = .returned (.int .u32 (sarR a n)) ∧ w = w' := by
  go_enter Try.func98, Try.ntmps98
  go_wp2
  go_ret
  exact ⟨rfl, rfl⟩
theorem res1_c (op d1 d2 d3 : Int) (w : World) (h1 : 0 ≤ d1) (h1' : d1 < 4294967296) (h2 : 0 ≤ d2) (h2' : d2 < 4294967296) :
    Calls Try.prog 87 #[.agg #[.int .u32 op, .int .u32 d1, .int .u32 d2, .int .u32 d3]] w fun e w' => e = .returned (.tuple #[.int .u32 (sumR d1 d2 0), .bool (sumC d1 d2 0), .bool (sumV d1 d2 0)]) ∧ New w w' := by
  go_enter Try.func87, Try.ntmps87
  go_wp2_with (go_at_call 88; refine (sum_c _ _ _ _ (by omega) (by omega) (by omega) (by omega) (by omega) (by omega)).mono ?_; rintro e w' ⟨rfl, rfl⟩)
  go_ret3
  exact ⟨rfl, by go_grown⟩
theorem res2_c (op d1 d2 d3 : Int) (w : World) (h1 : 0 ≤ d1) (h1' : d1 < 4294967296) (h2 : 0 ≤ d2) (h2' : d2 < 4294967296) :
    Calls Try.prog 89 #[.agg #[.int .u32 op, .int .u32 d1, .int .u32 d2, .int .u32 d3]] w fun e w' => e = .returned (.tuple #[.int .u32 (difR d1 d2 0), .bool (difC d1 d2 0), .bool (difV d1 d2 0)]) ∧ New w w' := by
  go_enter Try.func89, Try.ntmps89
  go_wp2_with (go_at_call 90; refine (dif_c _ _ _ _ (by omega) (by omega) (by omega) (by omega) (by omega) (by omega)).mono ?_; rintro e w' ⟨rfl, rfl⟩)
  go_ret3
  exact ⟨rfl, by go_grown⟩
theorem res3_c (op d1 d2 d3 : Int) (w : World) :
    Calls Try.prog 91 #[.agg #[.int .u32 op, .int .u32 d1, .int .u32 d2, .int .u32 d3]] w fun e w' => e = .returned (.tuple #[.int .u32 d1, .bool false, .bool false]) ∧ New w w' := by
  go_enter Try.func91, Try.ntmps91
  go_wp2
  go_ret3
  exact ⟨rfl, by go_grown⟩
theorem res7_c (op d1 d2 d3 : Int) (w : World) (h1 : 0 ≤ d1) (h1' : d1 < 4294967296) (h2 : 0 ≤ d2) (h2' : d2 < 4294967296) (h3 : 0 ≤ d3) (h3' : d3 < 4294967296) :
    Calls Try.prog 99 #[.agg #[.int .u32 op, .int .u32 d1, .int .u32 d2, .int .u32 d3]] w fun e w' => e = .returned (.tuple #[.int .u32 (sumR d1 d2 (d3 % 2)), .bool (sumC d1 d2 (d3 % 2)), .bool (sumV d1 d2 (d3 % 2))]) ∧ New w w' := by
  have hm := and_1 d3 h3 h3'
  go_enter Try.func99, Try.ntmps99
  go_wp2_with (go_at_call 88; refine (sum_c _ _ _ _ (by omega) (by omega) (by omega) (by omega) (by omega) (by omega)).mono ?_; rintro e w' ⟨rfl, rfl⟩)
  go_ret3
  exact ⟨rfl, by go_grown⟩
theorem res8_c (op d1 d2 d3 : Int) (w : World) (h1 : 0 ≤ d1) (h1' : d1 < 4294967296) (h2 : 0 ≤ d2) (h2' : d2 < 4294967296) (h3 : 0 ≤ d3) (h3' : d3 < 4294967296) :
    Calls Try.prog 100 #[.agg #[.int .u32 op, .int .u32 d1, .int .u32 d2, .int .u32 d3]] w fun e w' => e = .returned (.tuple #[.int .u32 (difR d1 d2 (d3 % 2)), .bool (difC d1 d2 (d3 % 2)), .bool (difV d1 d2 (d3 % 2))]) ∧ New w w' := by
  have hm := and_1 d3 h3 h3'
  go_enter Try.func100, Try.ntmps100
  go_wp2_with (go_at_call 90; refine (dif_c _ _ _ _ (by omega) (by omega) (by omega) (by omega) (by omega) (by omega)).mono ?_; rintro e w' ⟨rfl, rfl⟩)
  go_ret3
  exact ⟨rfl, by go_grown⟩
set_option maxHeartbeats 400000 in
theorem shifted_c (k : FuncId) (a n last r : Int) (w : World) (ha : 0 ≤ a) (ha' : a < 4294967296) (hn : 0 ≤ n) (hn' : n < 32) (hl : 0 ≤ last) (hl' : last < 4294967296)
    (hk : ∀ args w, (callFunc k args).run Try.prog w = .ok (.enter k args) w)
    (hby : ∀ w, Calls Try.prog k #[.int .u32 a, .int .u32 n] w fun e w' => e = .returned (.int .u32 r) ∧ w = w') :
    Calls Try.prog 93 #[.int .u32 a, .int .u32 n, .int .u32 last, .func (.func k) #[] #[]] w fun e w' => e = .returned (.tuple #[.int .u32 r, .bool (outB a n last), .bool false]) ∧ w = w' := by
  have HB := Lib.hid hby
  clear hby
  have hm := and_31 last hl hl'
  have h1 := and_1_div a ha ha'
  go_enter Try.func93, Try.ntmps93
  go_wp2_with fail
  refine (HB.out _).mono ?_
  rintro e w' ⟨rfl, rfl⟩
  go_wp2_with fail
  all_goals go_ret3
  all_goals refine ⟨congrArg (fun b => Ending.returned (.tuple #[.int .u32 r, .bool b, .bool false])) (?_ : _ = outB a n last), rfl⟩
  all_goals
    by_cases h0 : 0 < n
    all_goals first | (exfalso; omega) | simp [outB, h0]

theorem res4_c (op d1 d2 d3 : Int) (w : World) (h1 : 0 ≤ d1) (h1' : d1 < 4294967296) (h2 : 0 ≤ d2) (h2' : d2 < 4294967296) :
    Calls Try.prog 92 #[.agg #[.int .u32 op, .int .u32 d1, .int .u32 d2, .int .u32 d3]] w fun e w' => e = .returned (.tuple #[.int .u32 (shlR d1 (d2 % 32)), .bool (outB d1 (d2 % 32) (32 - d2 % 32)), .bool false]) ∧ New w w' := by
  go_enter Try.func92, Try.ntmps92
  go_wp2_with (go_at_call 93; refine (shifted_c 94 d1 _ _ (shlR d1 (d2 % 32)) _ h1 h1' (by omega) (by omega) (by omega) (by omega) Try.call94 (fun w => sh4_c d1 _ w h1 h1' (by omega) (by omega))).mono ?_; rintro e w' ⟨rfl, rfl⟩)
  go_ret3
  exact ⟨rfl, by go_grown⟩
theorem res5_c (op d1 d2 d3 : Int) (w : World) (h1 : 0 ≤ d1) (h1' : d1 < 4294967296) (h2 : 0 ≤ d2) (h2' : d2 < 4294967296) :
    Calls Try.prog 95 #[.agg #[.int .u32 op, .int .u32 d1, .int .u32 d2, .int .u32 d3]] w fun e w' => e = .returned (.tuple #[.int .u32 (shrR d1 (d2 % 32)), .bool (outB d1 (d2 % 32) ((d2 % 32 - 1) % 4294967296)), .bool false]) ∧ New w w' := by
  go_enter Try.func95, Try.ntmps95
  go_wp2_with (go_at_call 93; refine (shifted_c 96 d1 _ _ (shrR d1 (d2 % 32)) _ h1 h1' (by omega) (by omega) (by omega) (by omega) Try.call96 (fun w => sh5_c d1 _ w h1 h1' (by omega) (by omega))).mono ?_; rintro e w' ⟨rfl, rfl⟩)
  go_ret3
  exact ⟨rfl, by go_grown⟩
theorem res6_c (op d1 d2 d3 : Int) (w : World) (h1 : 0 ≤ d1) (h1' : d1 < 4294967296) (h2 : 0 ≤ d2) (h2' : d2 < 4294967296) :
    Calls Try.prog 97 #[.agg #[.int .u32 op, .int .u32 d1, .int .u32 d2, .int .u32 d3]] w fun e w' => e = .returned (.tuple #[.int .u32 (sarR d1 (d2 % 32)), .bool (outB d1 (d2 % 32) ((d2 % 32 - 1) % 4294967296)), .bool false]) ∧ New w w' := by
  go_enter Try.func97, Try.ntmps97
  go_wp2_with (go_at_call 93; refine (shifted_c 98 d1 _ _ (sarR d1 (d2 % 32)) _ h1 h1' (by omega) (by omega) (by omega) (by omega) Try.call98 (fun w => sh6_c d1 _ w h1 h1' (by omega) (by omega))).mono ?_; rintro e w' ⟨rfl, rfl⟩)
  go_ret3
  exact ⟨rfl, by go_grown⟩
end Go.Proofs.Ytmkjgkldbonpnaa
