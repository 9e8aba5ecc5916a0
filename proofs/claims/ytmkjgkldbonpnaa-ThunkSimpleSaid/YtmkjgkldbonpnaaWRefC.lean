/- Contracts: the specification's Normal, Of, Merge; thunk.Normal, thunk.Merge; the law's normal, merged, of. -/
import Derived.Test.YtmkjgkldbonpnaaWRefB
import Derived.Test.YtmkjgkldbonpnaaWNormal
namespace Go.Proofs.Ytmkjgkldbonpnaa
open Go Go.RowKit Go.Cd
set_option linter.unusedVariables false

theorem rof_c (op d1 d2 d3 : Int) (w : World) (ho : 0 ≤ op) (ho' : op < 4294967296) (h1 : 0 ≤ d1) (h1' : d1 < 4294967296) (h2 : 0 ≤ d2) (h2' : d2 < 4294967296) (h3 : 0 ≤ d3) (h3' : d3 < 4294967296) :
    Calls Try.prog 50 #[four (op, d1, d2, d3)] w fun e w' => e = .returned (.int .i64 (flagsF op d1 d2 d3)) ∧ New w w' := by
  unfold four
  go_enter Try.func50, Try.ntmps50
  go_wp2_with (go_at_call 25; refine (rflags_c _ _ _ _ _ ho ho' h1 h1' h2 h2' h3 h3').mono ?_; rintro e w1 ⟨rfl, rfl⟩)
  go_ret
  exact ⟨rfl, by go_grown⟩
theorem tof_c (op d1 d2 d3 : Int) (w : World) (ho : 0 ≤ op) (ho' : op < 4294967296) (h1 : 0 ≤ d1) (h1' : d1 < 4294967296) (h2 : 0 ≤ d2) (h2' : d2 < 4294967296) (h3 : 0 ≤ d3) (h3' : d3 < 4294967296) :
    Calls Try.prog 18 #[four (op, d1, d2, d3)] w fun e w' => e = .returned (.int .i64 (flagsF op d1 d2 d3)) ∧ New w w' := by
  unfold four
  go_enter Try.func18, Try.ntmps18
  go_wp2_with (go_at_call 19; refine (tflags_c _ _ _ _ _ ho ho' h1 h1' h2 h2' h3 h3').mono ?_; rintro e w1 ⟨rfl, hb1⟩)
  go_ret
  exact ⟨rfl, Below.trans (by go_grown) (hb1.mono (by simp))⟩
theorem parts_c (t : Four) (w : World) :
    Calls Try.prog 67 #[four t] w fun e w' => e = .returned (.tuple #[.int .u32 t.1, .int .u32 t.2.1, .int .u32 t.2.2.1, .int .u32 t.2.2.2]) ∧ New w w' := by
  obtain ⟨a, b, c, d⟩ := t
  unfold four
  go_enter Try.func67, Try.ntmps67
  go_wp2
  go_quiet (fail)
  go_wp2
  refine bodyPost_ret (v := .tuple #[.int .u32 a, .int .u32 b, .int .u32 c, .int .u32 d]) (by simp [results, Try.results67, go_sem]) rfl ⟨rfl, ?_⟩
  exact below_drewN (by go_grown) _

/-- The flags of a thunk, some of them replaced, as a word. -/
def mergeX (f m fl : Int) : Int := bits .or .i64 (bits .andNot .i64 f m) (bits .and .i64 fl m) % 4294967296
def mergeF (op d1 d2 d3 mask fl : Int) : Four :=
  if bits .and .i64 mask 15 = 0 then normF op d1 d2 d3 else (0, mergeX (flagsF op d1 d2 d3) (bits .and .i64 mask 15) fl, 0, 0)
set_option maxHeartbeats 400000 in
theorem tnormal_c (op d1 d2 d3 : Int) (w : World) (h1 : 0 ≤ d1) (h1' : d1 < 4294967296) (h2 : 0 ≤ d2) (h2' : d2 < 4294967296) (h3 : 0 ≤ d3) (h3' : d3 < 4294967296) :
    Calls Try.prog 36 #[.int .u32 op, .int .u32 d1, .int .u32 d2, .int .u32 d3] w fun e w' => e = .returned (.tuple #[.int .u32 (normF op d1 d2 d3).1, .int .u32 (normF op d1 d2 d3).2.1, .int .u32 (normF op d1 d2 d3).2.2.1, .int .u32 (normF op d1 d2 d3).2.2.2]) ∧ New w w' := by
  go_enter Try.func36, Try.ntmps36
  go_wp2_with (first | (go_at_call 66; refine (normal_c _ _ _ _ _ h1 h1' h2 h2' h3 h3').mono ?_; rintro e w1 ⟨rfl, hb1⟩) | (go_at_call 67; refine (parts_c _ _).mono ?_; rintro e w2 ⟨rfl, hb2⟩))
  exact bodyPost_ret (v := .tuple #[.int .u32 (normF op d1 d2 d3).1, .int .u32 (normF op d1 d2 d3).2.1, .int .u32 (normF op d1 d2 d3).2.2.1, .int .u32 (normF op d1 d2 d3).2.2.2]) (by simp [results, Try.results36, go_sem]) rfl ⟨rfl, hb1.trans (hb2.mono hb1.size)⟩
set_option maxHeartbeats 400000 in
theorem tmerge_c (op d1 d2 d3 mask fl : Int) (w : World) (ho : 0 ≤ op) (ho' : op < 4294967296) (h1 : 0 ≤ d1) (h1' : d1 < 4294967296) (h2 : 0 ≤ d2) (h2' : d2 < 4294967296) (h3 : 0 ≤ d3) (h3' : d3 < 4294967296) :
    Calls Try.prog 49 #[.int .u32 op, .int .u32 d1, .int .u32 d2, .int .u32 d3, .int .i64 mask, .int .i64 fl] w fun e w' => e = .returned (.tuple #[.int .u32 (mergeF op d1 d2 d3 mask fl).1, .int .u32 (mergeF op d1 d2 d3 mask fl).2.1, .int .u32 (mergeF op d1 d2 d3 mask fl).2.2.1, .int .u32 (mergeF op d1 d2 d3 mask fl).2.2.2]) ∧ New w w' := by
  by_cases h : bits .and .i64 mask 15 = 0
  · have e : mergeF op d1 d2 d3 mask fl = normF op d1 d2 d3 := by unfold mergeF; rw [if_pos h]
    rw [e]
    go_enter Try.func49, Try.ntmps49
    go_wp2_with (first | (go_at_call 66; refine (normal_c _ _ _ _ _ h1 h1' h2 h2' h3 h3').mono ?_; rintro e w1 ⟨rfl, hb1⟩) | (go_at_call 67; refine (parts_c _ _).mono ?_; rintro e w2 ⟨rfl, hb2⟩))
    have hn : New w w1 := Below.trans (by go_grown) (hb1.mono (by simp))
    exact bodyPost_ret (v := .tuple #[.int .u32 (normF op d1 d2 d3).1, .int .u32 (normF op d1 d2 d3).2.1, .int .u32 (normF op d1 d2 d3).2.2.1, .int .u32 (normF op d1 d2 d3).2.2.2]) (by simp [results, Try.results49, go_sem]) rfl ⟨rfl, hn.trans (hb2.mono hn.size)⟩
  · have e : mergeF op d1 d2 d3 mask fl = (0, mergeX (flagsF op d1 d2 d3) (bits .and .i64 mask 15) fl, 0, 0) := by unfold mergeF; rw [if_neg h]
    rw [e]
    have h' : (bits .and .i64 mask 15 == 0) = false := beq_eq_false_iff_ne.2 h
    go_enter Try.func49, Try.ntmps49
    go_wp2_with (first | (go_at_call 48; refine (flags_c _ _ _ _ _ ho ho' h1 h1' h2 h2' h3 h3').mono ?_; rintro e w1 ⟨rfl, hb1⟩) | (go_at_call 67; refine (parts_c (0, mergeX (flagsF op d1 d2 d3) (bits .and .i64 mask 15) fl, 0, 0) _).mono ?_; rintro e w2 ⟨rfl, hb2⟩))
    have hn : New w w1 := Below.trans (by go_grown) (hb1.mono (by simp))
    exact bodyPost_ret (v := .tuple #[.int .u32 0, .int .u32 (mergeX (flagsF op d1 d2 d3) (bits .and .i64 mask 15) fl), .int .u32 0, .int .u32 0]) (by simp [results, Try.results49, go_sem]) rfl ⟨rfl, hn.trans (hb2.mono hn.size)⟩
/-- The law's normal and merged: the same, as a struct. -/
theorem lnormal_c (op d1 d2 d3 : Int) (w : World) (h1 : 0 ≤ d1) (h1' : d1 < 4294967296) (h2 : 0 ≤ d2) (h2' : d2 < 4294967296) (h3 : 0 ≤ d3) (h3' : d3 < 4294967296) :
    Calls Try.prog 17 #[four (op, d1, d2, d3)] w fun e w' => e = .returned (four (normF op d1 d2 d3)) ∧ New w w' := by
  unfold four
  go_enter Try.func17, Try.ntmps17
  go_wp2_with (go_at_call 36; refine (tnormal_c _ _ _ _ _ h1 h1' h2 h2' h3 h3').mono ?_; rintro e w1 ⟨rfl, hb1⟩; obtain ⟨hc1, hf1, hz1⟩ := bcell3 hb1; try simp only [World.size_alloc] at hc1 hf1 hz1)
  have hn : New w w1 := Below.trans (by clear hc1 hf1; go_grown) (hb1.mono (by simp; omega))
  refine bodyPost_ret (v := four (normF op d1 d2 d3)) ?_ rfl ⟨rfl, ?_⟩
  · simp [results, Try.results17, go_sem, hc1, four]
  · clear hc1 hf1
    go_grown
theorem lmerged_c (op d1 d2 d3 mask fl : Int) (w : World) (ho : 0 ≤ op) (ho' : op < 4294967296) (h1 : 0 ≤ d1) (h1' : d1 < 4294967296) (h2 : 0 ≤ d2) (h2' : d2 < 4294967296) (h3 : 0 ≤ d3) (h3' : d3 < 4294967296) :
    Calls Try.prog 21 #[four (op, d1, d2, d3), .int .i64 mask, .int .i64 fl] w fun e w' => e = .returned (four (mergeF op d1 d2 d3 mask fl)) ∧ New w w' := by
  unfold four
  go_enter Try.func21, Try.ntmps21
  go_wp2_with (go_at_call 49; refine (tmerge_c _ _ _ _ _ _ _ ho ho' h1 h1' h2 h2' h3 h3').mono ?_; rintro e w1 ⟨rfl, hb1⟩; obtain ⟨hc1, hf1, hz1⟩ := bcell3 hb1; try simp only [World.size_alloc] at hc1 hf1 hz1)
  have hn : New w w1 := Below.trans (by clear hc1 hf1; go_grown) (hb1.mono (by simp; omega))
  refine bodyPost_ret (v := four (mergeF op d1 d2 d3 mask fl)) ?_ rfl ⟨rfl, ?_⟩
  · simp [results, Try.results21, go_sem, hc1, four]
  · clear hc1 hf1
    go_grown
end Go.Proofs.Ytmkjgkldbonpnaa
