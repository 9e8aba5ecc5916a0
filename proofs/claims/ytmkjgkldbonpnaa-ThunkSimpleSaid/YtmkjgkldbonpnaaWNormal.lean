/- Contracts of thunk.Normal and thunk.Merge. -/
import Derived.Test.YtmkjgkldbonpnaaRows
import Derived.Test.YtmkjgkldbonpnaaKitMap
import Derived.Test.YtmkjgkldbonpnaaNum
namespace Go.Proofs.Ytmkjgkldbonpnaa
open Go Go.RowKit Go.Cd
set_option linter.unusedVariables false

abbrev Four := Int × Int × Int × Int
def four (t : Four) : Value := .agg #[.int .u32 t.1, .int .u32 t.2.1, .int .u32 t.2.2.1, .int .u32 t.2.2.2]
def norm2 (op d1 d2 : Int) : Four := if d2 = 0 then (3, d1, 0, 0) else if op = 1 ∧ d1 = 0 then (3, d2, 0, 0) else (op, d1, d2, 0)
def normF (op d1 d2 d3 : Int) : Four :=
  if op = 0 then (0, d1 % 16, 0, 0)
  else if op = 7 then (if d3 % 2 = 1 then (7, d1, d2, 1) else norm2 1 d1 d2)
  else if op = 8 then (if d3 % 2 = 1 then (8, d1, d2, 1) else norm2 2 d1 d2)
  else if op = 4 ∨ op = 5 ∨ op = 6 then (if d2 % 32 = 0 then (3, d1, 0, 0) else (op, d1, d2 % 32, 0))
  else if op = 1 ∨ op = 2 then norm2 op d1 d2
  else if op = 3 then (3, d1, 0, 0) else (0, 0, 0, 0)

theorem logic_c (r : Int) (w : World) : Calls Try.prog 86 #[.int .u32 r] w fun e w' => e = .returned (.agg #[.int .u32 3, .int .u32 r, .int .u32 0, .int .u32 0]) ∧ New w w' := by
  go_enter Try.func86, Try.ntmps86
  go_wp2
  go_returns
  exact ⟨rfl, by go_grown⟩
theorem normal_0 (d1 d2 d3 : Int) (w : World) (h1 : 0 ≤ d1) (h1' : d1 < 4294967296) :
    Calls Try.prog 66 #[.agg #[.int .u32 0, .int .u32 d1, .int .u32 d2, .int .u32 d3]] w fun e w' => e = .returned (four (0, d1 % 16, 0, 0)) ∧ New w w' := by
  have hm := and_15 d1 h1 h1'
  go_enter Try.func66, Try.ntmps66
  go_wp2
  go_returns
  exact ⟨rfl, by go_grown⟩
theorem normal_3 (d1 d2 d3 : Int) (w : World) :
    Calls Try.prog 66 #[.agg #[.int .u32 3, .int .u32 d1, .int .u32 d2, .int .u32 d3]] w fun e w' => e = .returned (four (3, d1, 0, 0)) ∧ New w w' := by
  go_enter Try.func66, Try.ntmps66
  go_wp2_with (go_at_call 86; refine (logic_c _ _).mono ?_; rintro e w1 ⟨rfl, hb1⟩; obtain ⟨hc1, hf1, hz1⟩ := bcell3 hb1; try simp only [World.size_alloc] at hc1 hf1 hz1)
  refine bodyPost_ret (v := four (3, d1, 0, 0)) ?_ rfl ⟨rfl, ?_⟩
  · simp [results, Try.results66, go_sem, hc1, four]
  · have hn : New w w1 := Below.trans (by go_grown) (hb1.mono (by simp; omega))
    clear hc1 hf1
    go_grown

theorem normal_7a (d1 d2 d3 : Int) (w : World) (h3 : 0 ≤ d3) (h3' : d3 < 4294967296) (h : (d3 % 2 == 1) = true) :
    Calls Try.prog 66 #[.agg #[.int .u32 7, .int .u32 d1, .int .u32 d2, .int .u32 d3]] w fun e w' => e = .returned (four (7, d1, d2, 1)) ∧ New w w' := by
  have hm := and_1 d3 h3 h3'
  go_enter Try.func66, Try.ntmps66
  go_wp2
  refine bodyPost_ret (v := four (7, d1, d2, 1)) (by simp [results, Try.results66, go_sem, four]) rfl ⟨rfl, by go_grown⟩
theorem normal_8a (d1 d2 d3 : Int) (w : World) (h3 : 0 ≤ d3) (h3' : d3 < 4294967296) (h : (d3 % 2 == 1) = true) :
    Calls Try.prog 66 #[.agg #[.int .u32 8, .int .u32 d1, .int .u32 d2, .int .u32 d3]] w fun e w' => e = .returned (four (8, d1, d2, 1)) ∧ New w w' := by
  have hm := and_1 d3 h3 h3'
  go_enter Try.func66, Try.ntmps66
  go_wp2
  refine bodyPost_ret (v := four (8, d1, d2, 1)) (by simp [results, Try.results66, go_sem, four]) rfl ⟨rfl, by go_grown⟩
theorem normal_4a (d1 d2 d3 : Int) (w : World) (h0 : 0 ≤ d2) (h : (d2 % 32 == 0) = true) :
    Calls Try.prog 66 #[.agg #[.int .u32 4, .int .u32 d1, .int .u32 d2, .int .u32 d3]] w fun e w' => e = .returned (four (3, d1, 0, 0)) ∧ New w w' := by
  go_enter Try.func66, Try.ntmps66
  go_wp2_with (go_at_call 86; refine (logic_c _ _).mono ?_; rintro e w1 ⟨rfl, hb1⟩; obtain ⟨hc1, hf1, hz1⟩ := bcell3 hb1; try simp only [World.size_alloc] at hc1 hf1 hz1)
  refine bodyPost_ret (v := four (3, d1, 0, 0)) ?_ rfl ⟨rfl, ?_⟩
  · simp [results, Try.results66, go_sem, hc1, four]
  · have hn : New w w1 := Below.trans (by go_grown) (hb1.mono (by simp; omega))
    clear hc1 hf1
    go_grown
theorem normal_4b (d1 d2 d3 : Int) (w : World) (h0 : 0 ≤ d2) (h : (d2 % 32 == 0) = false) :
    Calls Try.prog 66 #[.agg #[.int .u32 4, .int .u32 d1, .int .u32 d2, .int .u32 d3]] w fun e w' => e = .returned (four (4, d1, d2 % 32, 0)) ∧ New w w' := by
  go_enter Try.func66, Try.ntmps66
  go_wp2
  exact bodyPost_ret (v := four (4, d1, d2 % 32, 0)) (by simp [results, Try.results66, go_sem, four]) rfl ⟨rfl, by go_grown⟩
theorem normal_5a (d1 d2 d3 : Int) (w : World) (h0 : 0 ≤ d2) (h : (d2 % 32 == 0) = true) :
    Calls Try.prog 66 #[.agg #[.int .u32 5, .int .u32 d1, .int .u32 d2, .int .u32 d3]] w fun e w' => e = .returned (four (3, d1, 0, 0)) ∧ New w w' := by
  go_enter Try.func66, Try.ntmps66
  go_wp2_with (go_at_call 86; refine (logic_c _ _).mono ?_; rintro e w1 ⟨rfl, hb1⟩; obtain ⟨hc1, hf1, hz1⟩ := bcell3 hb1; try simp only [World.size_alloc] at hc1 hf1 hz1)
  refine bodyPost_ret (v := four (3, d1, 0, 0)) ?_ rfl ⟨rfl, ?_⟩
  · simp [results, Try.results66, go_sem, hc1, four]
  · have hn : New w w1 := Below.trans (by go_grown) (hb1.mono (by simp; omega))
    clear hc1 hf1
    go_grown
theorem normal_5b (d1 d2 d3 : Int) (w : World) (h0 : 0 ≤ d2) (h : (d2 % 32 == 0) = false) :
    Calls Try.prog 66 #[.agg #[.int .u32 5, .int .u32 d1, .int .u32 d2, .int .u32 d3]] w fun e w' => e = .returned (four (5, d1, d2 % 32, 0)) ∧ New w w' := by
  go_enter Try.func66, Try.ntmps66
  go_wp2
  exact bodyPost_ret (v := four (5, d1, d2 % 32, 0)) (by simp [results, Try.results66, go_sem, four]) rfl ⟨rfl, by go_grown⟩
theorem normal_6a (d1 d2 d3 : Int) (w : World) (h0 : 0 ≤ d2) (h : (d2 % 32 == 0) = true) :
    Calls Try.prog 66 #[.agg #[.int .u32 6, .int .u32 d1, .int .u32 d2, .int .u32 d3]] w fun e w' => e = .returned (four (3, d1, 0, 0)) ∧ New w w' := by
  go_enter Try.func66, Try.ntmps66
  go_wp2_with (go_at_call 86; refine (logic_c _ _).mono ?_; rintro e w1 ⟨rfl, hb1⟩; obtain ⟨hc1, hf1, hz1⟩ := bcell3 hb1; try simp only [World.size_alloc] at hc1 hf1 hz1)
  refine bodyPost_ret (v := four (3, d1, 0, 0)) ?_ rfl ⟨rfl, ?_⟩
  · simp [results, Try.results66, go_sem, hc1, four]
  · have hn : New w w1 := Below.trans (by go_grown) (hb1.mono (by simp; omega))
    clear hc1 hf1
    go_grown
theorem normal_6b (d1 d2 d3 : Int) (w : World) (h0 : 0 ≤ d2) (h : (d2 % 32 == 0) = false) :
    Calls Try.prog 66 #[.agg #[.int .u32 6, .int .u32 d1, .int .u32 d2, .int .u32 d3]] w fun e w' => e = .returned (four (6, d1, d2 % 32, 0)) ∧ New w w' := by
  go_enter Try.func66, Try.ntmps66
  go_wp2
  exact bodyPost_ret (v := four (6, d1, d2 % 32, 0)) (by simp [results, Try.results66, go_sem, four]) rfl ⟨rfl, by go_grown⟩
theorem normal_1a (d1 d3 : Int) (w : World) :
    Calls Try.prog 66 #[.agg #[.int .u32 1, .int .u32 d1, .int .u32 0, .int .u32 d3]] w fun e w' => e = .returned (four (3, d1, 0, 0)) ∧ New w w' := by
  go_enter Try.func66, Try.ntmps66
  go_wp2_with (go_at_call 86; refine (logic_c _ _).mono ?_; rintro e w1 ⟨rfl, hb1⟩; obtain ⟨hc1, hf1, hz1⟩ := bcell3 hb1; try simp only [World.size_alloc] at hc1 hf1 hz1)
  refine bodyPost_ret (v := four (3, d1, 0, 0)) ?_ rfl ⟨rfl, ?_⟩
  · simp [results, Try.results66, go_sem, hc1, four]
  · have hn : New w w1 := Below.trans (by go_grown) (hb1.mono (by simp; omega))
    clear hc1 hf1
    go_grown
theorem normal_2a (d1 d3 : Int) (w : World) :
    Calls Try.prog 66 #[.agg #[.int .u32 2, .int .u32 d1, .int .u32 0, .int .u32 d3]] w fun e w' => e = .returned (four (3, d1, 0, 0)) ∧ New w w' := by
  go_enter Try.func66, Try.ntmps66
  go_wp2_with (go_at_call 86; refine (logic_c _ _).mono ?_; rintro e w1 ⟨rfl, hb1⟩; obtain ⟨hc1, hf1, hz1⟩ := bcell3 hb1; try simp only [World.size_alloc] at hc1 hf1 hz1)
  refine bodyPost_ret (v := four (3, d1, 0, 0)) ?_ rfl ⟨rfl, ?_⟩
  · simp [results, Try.results66, go_sem, hc1, four]
  · have hn : New w w1 := Below.trans (by go_grown) (hb1.mono (by simp; omega))
    clear hc1 hf1
    go_grown
theorem normal_1b (d2 d3 : Int) (w : World) (h : (d2 == 0) = false) :
    Calls Try.prog 66 #[.agg #[.int .u32 1, .int .u32 0, .int .u32 d2, .int .u32 d3]] w fun e w' => e = .returned (four (3, d2, 0, 0)) ∧ New w w' := by
  go_enter Try.func66, Try.ntmps66
  go_wp2_with (go_at_call 86; refine (logic_c _ _).mono ?_; rintro e w1 ⟨rfl, hb1⟩; obtain ⟨hc1, hf1, hz1⟩ := bcell3 hb1; try simp only [World.size_alloc] at hc1 hf1 hz1)
  refine bodyPost_ret (v := four (3, d2, 0, 0)) ?_ rfl ⟨rfl, ?_⟩
  · simp [results, Try.results66, go_sem, hc1, four]
  · have hn : New w w1 := Below.trans (by go_grown) (hb1.mono (by simp; omega))
    clear hc1 hf1
    go_grown
theorem normal_1c (d1 d2 d3 : Int) (w : World) (h : (d2 == 0) = false) (h' : (d1 == 0) = false) :
    Calls Try.prog 66 #[.agg #[.int .u32 1, .int .u32 d1, .int .u32 d2, .int .u32 d3]] w fun e w' => e = .returned (four (1, d1, d2, 0)) ∧ New w w' := by
  go_enter Try.func66, Try.ntmps66
  go_wp2
  exact bodyPost_ret (v := four (1, d1, d2, 0)) (by simp [results, Try.results66, go_sem, four]) rfl ⟨rfl, by go_grown⟩
theorem normal_2b (d1 d2 d3 : Int) (w : World) (h : (d2 == 0) = false) :
    Calls Try.prog 66 #[.agg #[.int .u32 2, .int .u32 d1, .int .u32 d2, .int .u32 d3]] w fun e w' => e = .returned (four (2, d1, d2, 0)) ∧ New w w' := by
  go_enter Try.func66, Try.ntmps66
  go_wp2
  exact bodyPost_ret (v := four (2, d1, d2, 0)) (by simp [results, Try.results66, go_sem, four]) rfl ⟨rfl, by go_grown⟩
theorem normal_big (op d1 d2 d3 : Int) (w : World) (h0 : (op == 0) = false) (h1 : (op == 1) = false) (h2 : (op == 2) = false) (h3 : (op == 3) = false) (h4 : (op == 4) = false) (h5 : (op == 5) = false) (h6 : (op == 6) = false) (h7 : (op == 7) = false) (h8 : (op == 8) = false) :
    Calls Try.prog 66 #[.agg #[.int .u32 op, .int .u32 d1, .int .u32 d2, .int .u32 d3]] w fun e w' => e = .returned (four (0, 0, 0, 0)) ∧ New w w' := by
  go_enter Try.func66, Try.ntmps66
  go_wp2
  exact bodyPost_ret (v := four (0, 0, 0, 0)) (by simp [results, Try.results66, go_sem, four]) rfl ⟨rfl, by go_grown⟩
theorem normal_12 (op d1 d2 d3 : Int) (w : World) (hop : op = 1 ∨ op = 2) :
    Calls Try.prog 66 #[.agg #[.int .u32 op, .int .u32 d1, .int .u32 d2, .int .u32 d3]] w fun e w' => e = .returned (four (norm2 op d1 d2)) ∧ New w w' := by
  unfold norm2
  by_cases h : d2 = 0
  · rw [if_pos h]; subst h
    rcases hop with rfl | rfl
    · exact normal_1a d1 d3 w
    · exact normal_2a d1 d3 w
  · rw [if_neg h]
    have h' : (d2 == 0) = false := beq_eq_false_iff_ne.2 h
    rcases hop with rfl | rfl
    · by_cases hd : d1 = 0
      · rw [if_pos ⟨rfl, hd⟩]; subst hd
        exact normal_1b d2 d3 w h'
      · rw [if_neg (fun q => hd q.2)]
        exact normal_1c d1 d2 d3 w h' (beq_eq_false_iff_ne.2 hd)
    · rw [if_neg (fun q => absurd q.1 (by decide))]
      exact normal_2b d1 d2 d3 w h'
set_option maxHeartbeats 400000 in
theorem normal_7b (d1 d2 d3 : Int) (w : World) (h3 : 0 ≤ d3) (h3' : d3 < 4294967296) (h : (d3 % 2 == 1) = false) :
    Calls Try.prog 66 #[.agg #[.int .u32 7, .int .u32 d1, .int .u32 d2, .int .u32 d3]] w fun e w' => e = .returned (four (norm2 1 d1 d2)) ∧ New w w' := by
  have hm := and_1 d3 h3 h3'
  have hmm := @run_makeMap Try.prog
  have m1 := fun (w : World) r hr => run_mapInsert (P := Try.prog) (T := 130) Try.underlying130 Try.underlying29 #[] 0 7 (.int .u32 1) w r hr rfl
  have m2 := fun (w : World) r hr => run_mapInsert (P := Try.prog) (T := 130) Try.underlying130 Try.underlying29 #[{ key := .int .u32 7, val := .int .u32 1, born := 0 }] 1 8 (.int .u32 2) w r hr rfl
  have m3 := fun (w : World) r hr => run_mapGet_at (P := Try.prog) (T := 130) Try.underlying130 Try.underlying29 #[{ key := .int .u32 7, val := .int .u32 1, born := 0 }, { key := .int .u32 8, val := .int .u32 2, born := 1 }] 2 7 0 (.int .u32 1) w r hr rfl false
  go_enter Try.func66, Try.ntmps66
  go_wp2_with fail
  refine (normal_12 1 d1 d2 0 _ (by decide)).mono ?_
  rintro e w1 ⟨rfl, hb1⟩
  obtain ⟨hc1, hf1, hz1⟩ := bcell3 hb1
  try simp only [World.size_alloc] at hc1 hf1 hz1
  have hn : New w w1 := Below.trans (by go_grown) (hb1.mono (by simp; omega))
  clear m1 m2 m3 hmm hb1
  obtain ⟨⟨t0, t1, t2, t3⟩, ht⟩ : ∃ t : Four, norm2 1 d1 d2 = t := ⟨_, rfl⟩
  rw [ht]
  unfold four
  go_wp2
  refine bodyPost_ret (v := four (t0, t1, t2, t3)) ?_ rfl ⟨by rw [ht], ?_⟩
  · simp [results, Try.results66, go_sem, hc1, four]
  · clear hc1 hf1
    go_grown
set_option maxHeartbeats 400000 in
theorem normal_8b (d1 d2 d3 : Int) (w : World) (h3 : 0 ≤ d3) (h3' : d3 < 4294967296) (h : (d3 % 2 == 1) = false) :
    Calls Try.prog 66 #[.agg #[.int .u32 8, .int .u32 d1, .int .u32 d2, .int .u32 d3]] w fun e w' => e = .returned (four (norm2 2 d1 d2)) ∧ New w w' := by
  have hm := and_1 d3 h3 h3'
  have hmm := @run_makeMap Try.prog
  have m1 := fun (w : World) r hr => run_mapInsert (P := Try.prog) (T := 130) Try.underlying130 Try.underlying29 #[] 0 7 (.int .u32 1) w r hr rfl
  have m2 := fun (w : World) r hr => run_mapInsert (P := Try.prog) (T := 130) Try.underlying130 Try.underlying29 #[{ key := .int .u32 7, val := .int .u32 1, born := 0 }] 1 8 (.int .u32 2) w r hr rfl
  have m3 := fun (w : World) r hr => run_mapGet_at (P := Try.prog) (T := 130) Try.underlying130 Try.underlying29 #[{ key := .int .u32 7, val := .int .u32 1, born := 0 }, { key := .int .u32 8, val := .int .u32 2, born := 1 }] 2 8 1 (.int .u32 2) w r hr rfl false
  go_enter Try.func66, Try.ntmps66
  go_wp2_with fail
  refine (normal_12 2 d1 d2 0 _ (by decide)).mono ?_
  rintro e w1 ⟨rfl, hb1⟩
  obtain ⟨hc1, hf1, hz1⟩ := bcell3 hb1
  try simp only [World.size_alloc] at hc1 hf1 hz1
  have hn : New w w1 := Below.trans (by go_grown) (hb1.mono (by simp; omega))
  clear m1 m2 m3 hmm hb1
  obtain ⟨⟨t0, t1, t2, t3⟩, ht⟩ : ∃ t : Four, norm2 2 d1 d2 = t := ⟨_, rfl⟩
  rw [ht]
  unfold four
  go_wp2
  refine bodyPost_ret (v := four (t0, t1, t2, t3)) ?_ rfl ⟨by rw [ht], ?_⟩
  · simp [results, Try.results66, go_sem, hc1, four]
  · clear hc1 hf1
    go_grown
theorem normal_c (op d1 d2 d3 : Int) (w : World) (h1 : 0 ≤ d1) (h1' : d1 < 4294967296) (h2 : 0 ≤ d2) (h2' : d2 < 4294967296) (h3 : 0 ≤ d3) (h3' : d3 < 4294967296) :
    Calls Try.prog 66 #[.agg #[.int .u32 op, .int .u32 d1, .int .u32 d2, .int .u32 d3]] w fun e w' => e = .returned (four (normF op d1 d2 d3)) ∧ New w w' := by
  by_cases e0 : op = 0
  · subst e0; exact normal_0 d1 d2 d3 w h1 h1'
  by_cases e7 : op = 7
  · subst e7
    by_cases h : d3 % 2 = 1
    · have e : normF 7 d1 d2 d3 = (7, d1, d2, 1) := by simp [normF, h]
      rw [e]; exact normal_7a d1 d2 d3 w h3 h3' (beq_iff_eq.2 h)
    · have e : normF 7 d1 d2 d3 = norm2 1 d1 d2 := by simp [normF, h]
      rw [e]; exact normal_7b d1 d2 d3 w h3 h3' (beq_eq_false_iff_ne.2 h)
  by_cases e8 : op = 8
  · subst e8
    by_cases h : d3 % 2 = 1
    · have e : normF 8 d1 d2 d3 = (8, d1, d2, 1) := by simp [normF, h]
      rw [e]; exact normal_8a d1 d2 d3 w h3 h3' (beq_iff_eq.2 h)
    · have e : normF 8 d1 d2 d3 = norm2 2 d1 d2 := by simp [normF, h]
      rw [e]; exact normal_8b d1 d2 d3 w h3 h3' (beq_eq_false_iff_ne.2 h)
  by_cases e456 : op = 4 ∨ op = 5 ∨ op = 6
  · by_cases h : d2 % 32 = 0
    · have e : normF op d1 d2 d3 = (3, d1, 0, 0) := by simp only [normF, if_neg e0, if_neg e7, if_neg e8, if_pos e456, if_pos h]
      rw [e]
      rcases e456 with rfl | rfl | rfl
      · exact normal_4a d1 d2 d3 w h2 (beq_iff_eq.2 h)
      · exact normal_5a d1 d2 d3 w h2 (beq_iff_eq.2 h)
      · exact normal_6a d1 d2 d3 w h2 (beq_iff_eq.2 h)
    · have e : normF op d1 d2 d3 = (op, d1, d2 % 32, 0) := by simp only [normF, if_neg e0, if_neg e7, if_neg e8, if_pos e456, if_neg h]
      rw [e]
      rcases e456 with rfl | rfl | rfl
      · exact normal_4b d1 d2 d3 w h2 (beq_eq_false_iff_ne.2 h)
      · exact normal_5b d1 d2 d3 w h2 (beq_eq_false_iff_ne.2 h)
      · exact normal_6b d1 d2 d3 w h2 (beq_eq_false_iff_ne.2 h)
  by_cases e12 : op = 1 ∨ op = 2
  · have e : normF op d1 d2 d3 = norm2 op d1 d2 := by simp only [normF, if_neg e0, if_neg e7, if_neg e8, if_neg e456, if_pos e12]
    rw [e]; exact normal_12 op d1 d2 d3 w e12
  by_cases e3 : op = 3
  · subst e3; exact normal_3 d1 d2 d3 w
  · have e : normF op d1 d2 d3 = (0, 0, 0, 0) := by simp only [normF, if_neg e0, if_neg e7, if_neg e8, if_neg e456, if_neg e12, if_neg e3]
    rw [e]
    exact normal_big op d1 d2 d3 w (beq_eq_false_iff_ne.2 e0) (beq_eq_false_iff_ne.2 (by omega)) (beq_eq_false_iff_ne.2 (by omega)) (beq_eq_false_iff_ne.2 e3) (beq_eq_false_iff_ne.2 (by omega)) (beq_eq_false_iff_ne.2 (by omega)) (beq_eq_false_iff_ne.2 (by omega)) (beq_eq_false_iff_ne.2 e7) (beq_eq_false_iff_ne.2 e8)
end Go.Proofs.Ytmkjgkldbonpnaa
