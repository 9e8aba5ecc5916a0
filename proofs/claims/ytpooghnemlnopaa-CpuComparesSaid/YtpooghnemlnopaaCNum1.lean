/- Contracts of cpu.flagged, sum, difference, logic, shifted, quotient. -/
import Derived.Test.YtpooghnemlnopaaWArith
import Derived.Test.YtpooghnemlnopaaKitHeap
namespace Go.Proofs.Ytpooghnemlnopaa
open Go Go.RowKit Go.Cd
set_option linter.unusedVariables false

theorem set_t (f x : Int) (a : Addr) (w : World) (h : w.cell? a = some (.int .i64 x)) (h' : w.frozen? a = false) :
    Calls Try.prog 81 #[.int .i64 f, .bool true, .pointer (some a)] w fun e w' => e = .returned (.tuple #[]) ∧ w' = w.setCell a (.int .i64 (bits .or .i64 x f)) := by
  go_enter Try.func81, Try.ntmps81
  go_wp2
  go_end0
  exact ⟨rfl, rfl⟩
theorem set_f (f : Int) (a : Addr) (w : World) :
    Calls Try.prog 81 #[.int .i64 f, .bool false, .pointer (some a)] w fun e w' => e = .returned (.tuple #[]) ∧ w' = w := by
  go_enter Try.func81, Try.ntmps81
  go_wp2
  go_end0
  exact ⟨rfl, rfl⟩
set_option maxHeartbeats 1000000 in
theorem flagged_c (r : Int) (c v : Bool) (w : World) (h : 0 ≤ r) (h' : r < 4294967296) :
    Calls Try.prog 51 #[.int .u32 r, .bool c, .bool v] w fun e w' => e = .returned (.int .i64 (flagNum (r == 0) (r / 2147483648 == 1) c v)) ∧ New w w' := by
  obtain ⟨z, hz⟩ : ∃ z, (r == 0) = z := ⟨_, rfl⟩
  obtain ⟨n, hn⟩ : ∃ n, (r / 2147483648 == 1) = n := ⟨_, rfl⟩
  rw [hz, hn]
  cases z <;> cases n <;> cases c <;> cases v
  all_goals
    go_enter Try.func51, Try.ntmps51
    go_wp2_with (go_at_call 81; (first | ((with_reducible refine (set_f _ _ _).mono ?_); rintro e w' ⟨rfl, rfl⟩) | (refine (set_t _ _ _ _ (cell_of_heap (heap_alloc_at _ _ _ rfl) rfl) (by simp)).mono ?_; rintro e w' ⟨rfl, rfl⟩)))
    go_ret
    exact ⟨rfl, by go_grown⟩
/-- Sum and difference with their flags. -/
def sumFl (a b c : Int) : Int := flagNum (sumR a b c == 0) (sumR a b c / 2147483648 == 1) (sumC a b c) (sumV a b c)
def difFl (a b c : Int) : Int := flagNum (difR a b c == 0) (difR a b c / 2147483648 == 1) (difC a b c) (difV a b c)
def logFl (r : Int) : Int := flagNum (r == 0) (r / 2147483648 == 1) false false
theorem csum_c (x y c : Int) (w : World) (hx : 0 ≤ x) (hx' : x < 4294967296) (hy : 0 ≤ y) (hy' : y < 4294967296) (hc : 0 ≤ c) (hc' : c ≤ 1) :
    Calls Try.prog 53 #[.int .u32 x, .int .u32 y, .int .u32 c] w fun e w' => e = .returned (.tuple #[.int .u32 (sumR x y c), .int .i64 (sumFl x y c)]) ∧ New w w' := by
  have hb := Lib.hid (over_sum x y c hx hx' hy hy' hc hc')
  go_enter Try.func53, Try.ntmps53
  go_wp2_with (first
    | (go_at_call 82; refine (add32_c _ _ _ _ (by omega) (by omega) (by omega) (by omega) (by omega) (by omega)).mono ?_; rintro e w' ⟨rfl, rfl⟩)
    | (go_at_call 51; refine (flagged_c _ _ _ _ (by omega) (by omega)).mono ?_; rintro e w1 ⟨rfl, hb1⟩))
  go_ret2
  refine ⟨?_, hb1⟩
  simp only [Array.getD_eq_getD_getElem?, List.getElem?_toArray, List.getElem?_cons_succ, List.getElem?_cons_zero, Option.getD_some]
  rw [hb.out]
  rfl
theorem cdif_c (x y c : Int) (w : World) (hx : 0 ≤ x) (hx' : x < 4294967296) (hy : 0 ≤ y) (hy' : y < 4294967296) (hc : 0 ≤ c) (hc' : c ≤ 1) :
    Calls Try.prog 33 #[.int .u32 x, .int .u32 y, .int .u32 c] w fun e w' => e = .returned (.tuple #[.int .u32 (difR x y c), .int .i64 (difFl x y c)]) ∧ New w w' := by
  have hb := Lib.hid (over_diff x y c hx hx' hy hy' hc hc')
  go_enter Try.func33, Try.ntmps33
  go_wp2_with (first
    | (go_at_call 50; refine (sub32_c _ _ _ _ (by omega) (by omega) (by omega) (by omega) (by omega) (by omega)).mono ?_; rintro e w' ⟨rfl, rfl⟩)
    | (go_at_call 51; refine (flagged_c _ _ _ _ (by omega) (by omega)).mono ?_; rintro e w1 ⟨rfl, hb1⟩))
  go_ret2
  refine ⟨?_, hb1⟩
  simp only [Array.getD_eq_getD_getElem?, List.getElem?_toArray, List.getElem?_cons_succ, List.getElem?_cons_zero, Option.getD_some]
  rw [hb.out]
  unfold difFl difR difV
  cases difC x y c <;> rfl
theorem clogic_c (r : Int) (w : World) (h : 0 ≤ r) (h' : r < 4294967296) :
    Calls Try.prog 56 #[.int .u32 r] w fun e w' => e = .returned (.tuple #[.int .u32 r, .int .i64 (logFl r)]) ∧ New w w' := by
  go_enter Try.func56, Try.ntmps56
  go_wp2_with (go_at_call 51; refine (flagged_c _ _ _ _ (by omega) (by omega)).mono ?_; rintro e w1 ⟨rfl, hb1⟩)
  go_ret2
  exact ⟨rfl, hb1⟩
/-- The last bit that goes out of a shift. -/
def outS (a n : Int) (left : Bool) : Bool := if n = 0 then false else a / 2 ^ (if left = true then 32 - n else n - 1).toNat % 2 == 1
def shFl (r a n : Int) (left : Bool) : Int := flagNum (r == 0) (r / 2147483648 == 1) (outS a n left) false
theorem cshifted_c (r a n : Int) (left : Bool) (w : World) (h : 0 ≤ r) (h' : r < 4294967296) (ha : 0 ≤ a) (ha' : a < 4294967296) (hn : 0 ≤ n) (hn' : n < 32) :
    Calls Try.prog 60 #[.int .u32 r, .int .u32 a, .int .u32 n, .bool left] w fun e w' => e = .returned (.tuple #[.int .u32 r, .int .i64 (shFl r a n left)]) ∧ New w w' := by
  by_cases h0 : n = 0
  · subst h0
    go_enter Try.func60, Try.ntmps60
    go_wp2_with (go_at_call 51; refine (flagged_c _ _ _ _ (by omega) (by omega)).mono ?_; rintro e w1 ⟨rfl, hb1⟩)
    go_ret2
    exact ⟨rfl, hb1⟩
  · cases left
    · have hm := Lib.hid (and_1_div a ha ha' (n.toNat - 1))
      have e0 : (n == 0) = false := by simp [h0]
      have h1 : 1 ≤ n := by omega
      go_enter Try.func60, Try.ntmps60
      go_wp2_with (go_at_call 51; refine (flagged_c _ _ _ _ (by omega) (by omega)).mono ?_; rintro e w1 ⟨rfl, hb1⟩)
      go_ret2
      refine ⟨?_, hb1⟩
      simp only [Array.getD_eq_getD_getElem?, List.getElem?_toArray, List.getElem?_cons_succ, List.getElem?_cons_zero, Option.getD_some]
      rw [hm.out]
      unfold shFl outS
      rw [if_neg h0, show n.toNat - 1 = (n - 1).toNat by omega]
      rfl
    · have hm := Lib.hid (and_1_div a ha ha' (32 - n).toNat)
      have e0 : (n == 0) = false := by simp [h0]
      have h1 : 1 ≤ n := by omega
      go_enter Try.func60, Try.ntmps60
      go_wp2_with (go_at_call 51; refine (flagged_c _ _ _ _ (by omega) (by omega)).mono ?_; rintro e w1 ⟨rfl, hb1⟩)
      go_ret2
      refine ⟨?_, hb1⟩
      simp only [Array.getD_eq_getD_getElem?, List.getElem?_toArray, List.getElem?_cons_succ, List.getElem?_cons_zero, Option.getD_some]
      rw [hm.out]
      unfold shFl outS
      rw [if_neg h0]
      rfl
def divS (a b : Int) : Int := (sg a).tdiv (sg b) % 4294967296
theorem wrap_sg (a : Int) (h : 0 ≤ a) (h' : a < 4294967296) : wrap32 a = sg a := by
  unfold wrap32 sg
  split <;> omega
theorem wrap_mod (a : Int) : wrap32 a % 4294967296 = a % 4294967296 := by
  unfold wrap32
  omega
theorem sg_ne (b : Int) (h : 0 < b) (h' : b < 4294967296) : sg b ≠ 0 := by
  unfold sg
  split <;> omega
theorem cquot_c (a b : Int) (w : World) (ha : 0 ≤ a) (ha' : a < 4294967296) (hb : 0 < b) (hb' : b < 4294967296) :
    Calls Try.prog 68 #[.int .u32 a, .int .u32 b] w fun e w' => e = .returned (.int .u32 (divS a b)) ∧ New w w' := by
  by_cases h1 : b = 4294967295
  · subst h1
    go_enter Try.func68, Try.ntmps68
    go_wp2
    go_ret
    refine ⟨ret_int ?_, New.refl _⟩
    unfold divS
    rw [show sg 4294967295 = -1 from rfl, Int.tdiv_neg, Int.tdiv_one]
    unfold sg
    split <;> omega
  · have e0 : (b == 4294967295) = false := by simp [h1]
    have hnz : ¬ wrap32 b = 0 := by rw [wrap_sg b (by omega) hb']; exact sg_ne b hb hb'
    go_enter Try.func68, Try.ntmps68
    go_wp2
    go_ret
    refine ⟨ret_int ?_, New.refl _⟩
    unfold divS
    rw [wrap_mod, wrap_sg a ha ha', wrap_sg b (by omega) hb']
end Go.Proofs.Ytpooghnemlnopaa
