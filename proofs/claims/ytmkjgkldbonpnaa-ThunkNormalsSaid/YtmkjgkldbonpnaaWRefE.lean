/- Contract: the specification's Merge. -/
import Derived.Test.YtmkjgkldbonpnaaWRefD
namespace Go.Proofs.Ytmkjgkldbonpnaa
open Go Go.RowKit Go.Cd
set_option linter.unusedVariables false

set_option maxHeartbeats 400000 in
theorem rmerge_c (op d1 d2 d3 mask fl : Int) (w : World) (ho : 0 ≤ op) (ho' : op < 4294967296) (h1 : 0 ≤ d1) (h1' : d1 < 4294967296) (h2 : 0 ≤ d2) (h2' : d2 < 4294967296) (h3 : 0 ≤ d3) (h3' : d3 < 4294967296) :
    Calls Try.prog 22 #[four (op, d1, d2, d3), .int .i64 mask, .int .i64 fl] w fun e w' => e = .returned (four (mergeF op d1 d2 d3 mask fl)) ∧ New w w' := by
  by_cases h : bits .and .i64 mask 15 = 0
  · have e : mergeF op d1 d2 d3 mask fl = normF op d1 d2 d3 := by unfold mergeF; rw [if_pos h]
    rw [e]
    obtain ⟨⟨t0, t1, t2, t3⟩, ht⟩ : ∃ t : Four, normF op d1 d2 d3 = t := ⟨_, rfl⟩
    unfold four
    go_enter Try.func22, Try.ntmps22
    go_wp2_with (go_at_call 20; refine (rnormal_c op d1 d2 d3 _ ho ho' h1 h1' h2 h2' h3 h3').mono ?_; rw [ht]; rintro e w1 ⟨rfl, hb1⟩; obtain ⟨hc1, hf1, hz1⟩ := bcell3 hb1; (try simp only [World.size_alloc] at hc1 hf1 hz1); unfold four)
    have hn : New w w1 := Below.trans (by clear hc1 hf1; go_grown) (hb1.mono (by simp; omega))
    refine bodyPost_ret (v := four (t0, t1, t2, t3)) ?_ rfl ⟨by rw [ht]; rfl, ?_⟩
    · simp [results, Try.results22, go_sem, hc1, four]
    · clear hc1 hf1
      go_grown
  · have e : mergeF op d1 d2 d3 mask fl = (0, mergeX (flagsF op d1 d2 d3) (bits .and .i64 mask 15) fl, 0, 0) := by unfold mergeF; rw [if_neg h]
    rw [e]
    have h' : (bits .and .i64 mask 15 == 0) = false := beq_eq_false_iff_ne.2 h
    unfold four
    go_enter Try.func22, Try.ntmps22
    go_wp2_with (go_at_call 50; refine (rof_c op d1 d2 d3 _ ho ho' h1 h1' h2 h2' h3 h3').mono ?_; rintro e w1 ⟨rfl, hb1⟩; obtain ⟨hc1, hf1, hz1⟩ := bcell3 hb1; try simp only [World.size_alloc] at hc1 hf1 hz1)
    have hn : New w w1 := Below.trans (by clear hc1 hf1; go_grown) (hb1.mono (by simp; omega))
    refine bodyPost_ret (v := four (0, mergeX (flagsF op d1 d2 d3) (bits .and .i64 mask 15) fl, 0, 0)) ?_ rfl ⟨rfl, ?_⟩
    · simp [results, Try.results22, go_sem, hc1, four, mergeX]
    · clear hc1 hf1
      go_grown
end Go.Proofs.Ytmkjgkldbonpnaa
