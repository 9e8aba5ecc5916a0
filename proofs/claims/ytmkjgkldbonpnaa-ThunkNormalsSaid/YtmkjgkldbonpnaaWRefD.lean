/- Contracts: the specification's Normal and Merge. -/
import Derived.Test.YtmkjgkldbonpnaaWRefC
namespace Go.Proofs.Ytmkjgkldbonpnaa
open Go Go.RowKit Go.Cd
set_option linter.unusedVariables false

set_option maxHeartbeats 400000 in
theorem rn_0 (d1 d2 d3 : Int) (w : World) (h1 : 0 ≤ d1) (h1' : d1 < 4294967296) (h2 : 0 ≤ d2) (h2' : d2 < 4294967296) (h3 : 0 ≤ d3) (h3' : d3 < 4294967296)  :
    Calls Try.prog 20 #[.agg #[.int .u32 0, .int .u32 d1, .int .u32 d2, .int .u32 d3]] w fun e w' => e = .returned (four (0, d1 % 16, 0, 0)) ∧ New w w' := by
  go_enter Try.func20, Try.ntmps20
  go_wp2
  exact bodyPost_ret (v := four (0, d1 % 16, 0, 0)) (by simp [results, Try.results20, go_sem, four]) rfl ⟨rfl, by go_grown⟩
set_option maxHeartbeats 400000 in
theorem rn_3 (d1 d2 d3 : Int) (w : World) (h1 : 0 ≤ d1) (h1' : d1 < 4294967296) (h2 : 0 ≤ d2) (h2' : d2 < 4294967296) (h3 : 0 ≤ d3) (h3' : d3 < 4294967296)  :
    Calls Try.prog 20 #[.agg #[.int .u32 3, .int .u32 d1, .int .u32 d2, .int .u32 d3]] w fun e w' => e = .returned (four (3, d1, 0, 0)) ∧ New w w' := by
  go_enter Try.func20, Try.ntmps20
  go_wp2
  exact bodyPost_ret (v := four (3, d1, 0, 0)) (by simp [results, Try.results20, go_sem, four]) rfl ⟨rfl, by go_grown⟩
set_option maxHeartbeats 400000 in
theorem rn_4a (d1 d2 d3 : Int) (w : World) (h1 : 0 ≤ d1) (h1' : d1 < 4294967296) (h2 : 0 ≤ d2) (h2' : d2 < 4294967296) (h3 : 0 ≤ d3) (h3' : d3 < 4294967296) (h : (d2 % 32 == 0) = true) :
    Calls Try.prog 20 #[.agg #[.int .u32 4, .int .u32 d1, .int .u32 d2, .int .u32 d3]] w fun e w' => e = .returned (four (3, d1, 0, 0)) ∧ New w w' := by
  go_enter Try.func20, Try.ntmps20
  go_wp2
  exact bodyPost_ret (v := four (3, d1, 0, 0)) (by simp [results, Try.results20, go_sem, four]) rfl ⟨rfl, by go_grown⟩
set_option maxHeartbeats 400000 in
theorem rn_4b (d1 d2 d3 : Int) (w : World) (h1 : 0 ≤ d1) (h1' : d1 < 4294967296) (h2 : 0 ≤ d2) (h2' : d2 < 4294967296) (h3 : 0 ≤ d3) (h3' : d3 < 4294967296) (h : (d2 % 32 == 0) = false) :
    Calls Try.prog 20 #[.agg #[.int .u32 4, .int .u32 d1, .int .u32 d2, .int .u32 d3]] w fun e w' => e = .returned (four (4, d1, d2 % 32, 0)) ∧ New w w' := by
  go_enter Try.func20, Try.ntmps20
  go_wp2
  exact bodyPost_ret (v := four (4, d1, d2 % 32, 0)) (by simp [results, Try.results20, go_sem, four]) rfl ⟨rfl, by go_grown⟩
set_option maxHeartbeats 400000 in
theorem rn_5a (d1 d2 d3 : Int) (w : World) (h1 : 0 ≤ d1) (h1' : d1 < 4294967296) (h2 : 0 ≤ d2) (h2' : d2 < 4294967296) (h3 : 0 ≤ d3) (h3' : d3 < 4294967296) (h : (d2 % 32 == 0) = true) :
    Calls Try.prog 20 #[.agg #[.int .u32 5, .int .u32 d1, .int .u32 d2, .int .u32 d3]] w fun e w' => e = .returned (four (3, d1, 0, 0)) ∧ New w w' := by
  go_enter Try.func20, Try.ntmps20
  go_wp2
  exact bodyPost_ret (v := four (3, d1, 0, 0)) (by simp [results, Try.results20, go_sem, four]) rfl ⟨rfl, by go_grown⟩
set_option maxHeartbeats 400000 in
theorem rn_5b (d1 d2 d3 : Int) (w : World) (h1 : 0 ≤ d1) (h1' : d1 < 4294967296) (h2 : 0 ≤ d2) (h2' : d2 < 4294967296) (h3 : 0 ≤ d3) (h3' : d3 < 4294967296) (h : (d2 % 32 == 0) = false) :
    Calls Try.prog 20 #[.agg #[.int .u32 5, .int .u32 d1, .int .u32 d2, .int .u32 d3]] w fun e w' => e = .returned (four (5, d1, d2 % 32, 0)) ∧ New w w' := by
  go_enter Try.func20, Try.ntmps20
  go_wp2
  exact bodyPost_ret (v := four (5, d1, d2 % 32, 0)) (by simp [results, Try.results20, go_sem, four]) rfl ⟨rfl, by go_grown⟩
set_option maxHeartbeats 400000 in
theorem rn_6a (d1 d2 d3 : Int) (w : World) (h1 : 0 ≤ d1) (h1' : d1 < 4294967296) (h2 : 0 ≤ d2) (h2' : d2 < 4294967296) (h3 : 0 ≤ d3) (h3' : d3 < 4294967296) (h : (d2 % 32 == 0) = true) :
    Calls Try.prog 20 #[.agg #[.int .u32 6, .int .u32 d1, .int .u32 d2, .int .u32 d3]] w fun e w' => e = .returned (four (3, d1, 0, 0)) ∧ New w w' := by
  go_enter Try.func20, Try.ntmps20
  go_wp2
  exact bodyPost_ret (v := four (3, d1, 0, 0)) (by simp [results, Try.results20, go_sem, four]) rfl ⟨rfl, by go_grown⟩
set_option maxHeartbeats 400000 in
theorem rn_6b (d1 d2 d3 : Int) (w : World) (h1 : 0 ≤ d1) (h1' : d1 < 4294967296) (h2 : 0 ≤ d2) (h2' : d2 < 4294967296) (h3 : 0 ≤ d3) (h3' : d3 < 4294967296) (h : (d2 % 32 == 0) = false) :
    Calls Try.prog 20 #[.agg #[.int .u32 6, .int .u32 d1, .int .u32 d2, .int .u32 d3]] w fun e w' => e = .returned (four (6, d1, d2 % 32, 0)) ∧ New w w' := by
  go_enter Try.func20, Try.ntmps20
  go_wp2
  exact bodyPost_ret (v := four (6, d1, d2 % 32, 0)) (by simp [results, Try.results20, go_sem, four]) rfl ⟨rfl, by go_grown⟩
set_option maxHeartbeats 400000 in
theorem rn_7a (d1 d2 d3 : Int) (w : World) (h1 : 0 ≤ d1) (h1' : d1 < 4294967296) (h2 : 0 ≤ d2) (h2' : d2 < 4294967296) (h3 : 0 ≤ d3) (h3' : d3 < 4294967296) (h : (d3 % 2 == 0) = false) :
    Calls Try.prog 20 #[.agg #[.int .u32 7, .int .u32 d1, .int .u32 d2, .int .u32 d3]] w fun e w' => e = .returned (four (7, d1, d2, 1)) ∧ New w w' := by
  go_enter Try.func20, Try.ntmps20
  go_wp2
  exact bodyPost_ret (v := four (7, d1, d2, 1)) (by simp [results, Try.results20, go_sem, four]) rfl ⟨rfl, by go_grown⟩
set_option maxHeartbeats 400000 in
theorem rn_7b (d1 d3 : Int) (w : World) (h1 : 0 ≤ d1) (h1' : d1 < 4294967296) (h3 : 0 ≤ d3) (h3' : d3 < 4294967296) (h : (d3 % 2 == 0) = true) :
    Calls Try.prog 20 #[.agg #[.int .u32 7, .int .u32 d1, .int .u32 0, .int .u32 d3]] w fun e w' => e = .returned (four (3, d1, 0, 0)) ∧ New w w' := by
  go_enter Try.func20, Try.ntmps20
  go_wp2
  exact bodyPost_ret (v := four (3, d1, 0, 0)) (by simp [results, Try.results20, go_sem, four]) rfl ⟨rfl, by go_grown⟩
set_option maxHeartbeats 400000 in
theorem rn_7c (d2 d3 : Int) (w : World) (h2 : 0 ≤ d2) (h2' : d2 < 4294967296) (h3 : 0 ≤ d3) (h3' : d3 < 4294967296) (h : (d3 % 2 == 0) = true) (hd : (d2 == 0) = false) :
    Calls Try.prog 20 #[.agg #[.int .u32 7, .int .u32 0, .int .u32 d2, .int .u32 d3]] w fun e w' => e = .returned (four (3, d2, 0, 0)) ∧ New w w' := by
  go_enter Try.func20, Try.ntmps20
  go_wp2
  exact bodyPost_ret (v := four (3, d2, 0, 0)) (by simp [results, Try.results20, go_sem, four]) rfl ⟨rfl, by go_grown⟩
set_option maxHeartbeats 400000 in
theorem rn_7d (d1 d2 d3 : Int) (w : World) (h1 : 0 ≤ d1) (h1' : d1 < 4294967296) (h2 : 0 ≤ d2) (h2' : d2 < 4294967296) (h3 : 0 ≤ d3) (h3' : d3 < 4294967296) (h : (d3 % 2 == 0) = true) (hd : (d2 == 0) = false) (hd' : (d1 == 0) = false) :
    Calls Try.prog 20 #[.agg #[.int .u32 7, .int .u32 d1, .int .u32 d2, .int .u32 d3]] w fun e w' => e = .returned (four (1, d1, d2, 0)) ∧ New w w' := by
  go_enter Try.func20, Try.ntmps20
  go_wp2
  exact bodyPost_ret (v := four (1, d1, d2, 0)) (by simp [results, Try.results20, go_sem, four]) rfl ⟨rfl, by go_grown⟩
set_option maxHeartbeats 400000 in
theorem rn_8a (d1 d2 d3 : Int) (w : World) (h1 : 0 ≤ d1) (h1' : d1 < 4294967296) (h2 : 0 ≤ d2) (h2' : d2 < 4294967296) (h3 : 0 ≤ d3) (h3' : d3 < 4294967296) (h : (d3 % 2 == 0) = false) :
    Calls Try.prog 20 #[.agg #[.int .u32 8, .int .u32 d1, .int .u32 d2, .int .u32 d3]] w fun e w' => e = .returned (four (8, d1, d2, 1)) ∧ New w w' := by
  go_enter Try.func20, Try.ntmps20
  go_wp2
  exact bodyPost_ret (v := four (8, d1, d2, 1)) (by simp [results, Try.results20, go_sem, four]) rfl ⟨rfl, by go_grown⟩
set_option maxHeartbeats 400000 in
theorem rn_8b (d1 d3 : Int) (w : World) (h1 : 0 ≤ d1) (h1' : d1 < 4294967296) (h3 : 0 ≤ d3) (h3' : d3 < 4294967296) (h : (d3 % 2 == 0) = true) :
    Calls Try.prog 20 #[.agg #[.int .u32 8, .int .u32 d1, .int .u32 0, .int .u32 d3]] w fun e w' => e = .returned (four (3, d1, 0, 0)) ∧ New w w' := by
  go_enter Try.func20, Try.ntmps20
  go_wp2
  exact bodyPost_ret (v := four (3, d1, 0, 0)) (by simp [results, Try.results20, go_sem, four]) rfl ⟨rfl, by go_grown⟩
set_option maxHeartbeats 400000 in
theorem rn_8d (d1 d2 d3 : Int) (w : World) (h1 : 0 ≤ d1) (h1' : d1 < 4294967296) (h2 : 0 ≤ d2) (h2' : d2 < 4294967296) (h3 : 0 ≤ d3) (h3' : d3 < 4294967296) (h : (d3 % 2 == 0) = true) (hd : (d2 == 0) = false) :
    Calls Try.prog 20 #[.agg #[.int .u32 8, .int .u32 d1, .int .u32 d2, .int .u32 d3]] w fun e w' => e = .returned (four (2, d1, d2, 0)) ∧ New w w' := by
  go_enter Try.func20, Try.ntmps20
  go_wp2
  exact bodyPost_ret (v := four (2, d1, d2, 0)) (by simp [results, Try.results20, go_sem, four]) rfl ⟨rfl, by go_grown⟩
set_option maxHeartbeats 400000 in
theorem rn_1b (d1 d3 : Int) (w : World) (h1 : 0 ≤ d1) (h1' : d1 < 4294967296) (h3 : 0 ≤ d3) (h3' : d3 < 4294967296)  :
    Calls Try.prog 20 #[.agg #[.int .u32 1, .int .u32 d1, .int .u32 0, .int .u32 d3]] w fun e w' => e = .returned (four (3, d1, 0, 0)) ∧ New w w' := by
  go_enter Try.func20, Try.ntmps20
  go_wp2
  exact bodyPost_ret (v := four (3, d1, 0, 0)) (by simp [results, Try.results20, go_sem, four]) rfl ⟨rfl, by go_grown⟩
set_option maxHeartbeats 400000 in
theorem rn_1c (d2 d3 : Int) (w : World) (h2 : 0 ≤ d2) (h2' : d2 < 4294967296) (h3 : 0 ≤ d3) (h3' : d3 < 4294967296) (hd : (d2 == 0) = false) :
    Calls Try.prog 20 #[.agg #[.int .u32 1, .int .u32 0, .int .u32 d2, .int .u32 d3]] w fun e w' => e = .returned (four (3, d2, 0, 0)) ∧ New w w' := by
  go_enter Try.func20, Try.ntmps20
  go_wp2
  exact bodyPost_ret (v := four (3, d2, 0, 0)) (by simp [results, Try.results20, go_sem, four]) rfl ⟨rfl, by go_grown⟩
set_option maxHeartbeats 400000 in
theorem rn_1d (d1 d2 d3 : Int) (w : World) (h1 : 0 ≤ d1) (h1' : d1 < 4294967296) (h2 : 0 ≤ d2) (h2' : d2 < 4294967296) (h3 : 0 ≤ d3) (h3' : d3 < 4294967296) (hd : (d2 == 0) = false) (hd' : (d1 == 0) = false) :
    Calls Try.prog 20 #[.agg #[.int .u32 1, .int .u32 d1, .int .u32 d2, .int .u32 d3]] w fun e w' => e = .returned (four (1, d1, d2, 0)) ∧ New w w' := by
  go_enter Try.func20, Try.ntmps20
  go_wp2
  exact bodyPost_ret (v := four (1, d1, d2, 0)) (by simp [results, Try.results20, go_sem, four]) rfl ⟨rfl, by go_grown⟩
set_option maxHeartbeats 400000 in
theorem rn_2b (d1 d3 : Int) (w : World) (h1 : 0 ≤ d1) (h1' : d1 < 4294967296) (h3 : 0 ≤ d3) (h3' : d3 < 4294967296)  :
    Calls Try.prog 20 #[.agg #[.int .u32 2, .int .u32 d1, .int .u32 0, .int .u32 d3]] w fun e w' => e = .returned (four (3, d1, 0, 0)) ∧ New w w' := by
  go_enter Try.func20, Try.ntmps20
  go_wp2
  exact bodyPost_ret (v := four (3, d1, 0, 0)) (by simp [results, Try.results20, go_sem, four]) rfl ⟨rfl, by go_grown⟩
set_option maxHeartbeats 400000 in
theorem rn_2d (d1 d2 d3 : Int) (w : World) (h1 : 0 ≤ d1) (h1' : d1 < 4294967296) (h2 : 0 ≤ d2) (h2' : d2 < 4294967296) (h3 : 0 ≤ d3) (h3' : d3 < 4294967296) (hd : (d2 == 0) = false) :
    Calls Try.prog 20 #[.agg #[.int .u32 2, .int .u32 d1, .int .u32 d2, .int .u32 d3]] w fun e w' => e = .returned (four (2, d1, d2, 0)) ∧ New w w' := by
  go_enter Try.func20, Try.ntmps20
  go_wp2
  exact bodyPost_ret (v := four (2, d1, d2, 0)) (by simp [results, Try.results20, go_sem, four]) rfl ⟨rfl, by go_grown⟩
set_option maxHeartbeats 400000 in
theorem rn_9 (op d1 d2 d3 : Int) (w : World) (h1 : 0 ≤ d1) (h1' : d1 < 4294967296) (h2 : 0 ≤ d2) (h2' : d2 < 4294967296) (h3 : 0 ≤ d3) (h3' : d3 < 4294967296) (ho : 8 < op) :
    Calls Try.prog 20 #[.agg #[.int .u32 op, .int .u32 d1, .int .u32 d2, .int .u32 d3]] w fun e w' => e = .returned (four (0, 0, 0, 0)) ∧ New w w' := by
  go_enter Try.func20, Try.ntmps20
  go_wp2
  exact bodyPost_ret (v := four (0, 0, 0, 0)) (by simp [results, Try.results20, go_sem, four]) rfl ⟨rfl, by go_grown⟩
theorem rn_1 (d1 d2 d3 : Int) (w : World) (h1 : 0 ≤ d1) (h1' : d1 < 4294967296) (h2 : 0 ≤ d2) (h2' : d2 < 4294967296) (h3 : 0 ≤ d3) (h3' : d3 < 4294967296)  :
    Calls Try.prog 20 #[.agg #[.int .u32 1, .int .u32 d1, .int .u32 d2, .int .u32 d3]] w fun e w' => e = .returned (four (norm2 1 d1 d2)) ∧ New w w' := by
  unfold norm2
  by_cases hd : d2 = 0
  · rw [if_pos hd]; subst hd; exact rn_1b d1 d3 w h1 h1' h3 h3' 
  · rw [if_neg hd]
    have hd' : (d2 == 0) = false := beq_eq_false_iff_ne.2 hd
    by_cases he : d1 = 0
    · rw [if_pos ⟨rfl, he⟩]; subst he; exact rn_1c d2 d3 w h2 h2' h3 h3'  hd'
    · rw [if_neg (fun q => he q.2)]; exact rn_1d d1 d2 d3 w h1 h1' h2 h2' h3 h3'  hd' (beq_eq_false_iff_ne.2 he)
theorem rn_2 (d1 d2 d3 : Int) (w : World) (h1 : 0 ≤ d1) (h1' : d1 < 4294967296) (h2 : 0 ≤ d2) (h2' : d2 < 4294967296) (h3 : 0 ≤ d3) (h3' : d3 < 4294967296)  :
    Calls Try.prog 20 #[.agg #[.int .u32 2, .int .u32 d1, .int .u32 d2, .int .u32 d3]] w fun e w' => e = .returned (four (norm2 2 d1 d2)) ∧ New w w' := by
  unfold norm2
  by_cases hd : d2 = 0
  · rw [if_pos hd]; subst hd; exact rn_2b d1 d3 w h1 h1' h3 h3' 
  · rw [if_neg hd]
    have hd' : (d2 == 0) = false := beq_eq_false_iff_ne.2 hd
    rw [if_neg (fun q => absurd q.1 (by decide))]; exact rn_2d d1 d2 d3 w h1 h1' h2 h2' h3 h3'  hd'
theorem rn_7n (d1 d2 d3 : Int) (w : World) (h1 : 0 ≤ d1) (h1' : d1 < 4294967296) (h2 : 0 ≤ d2) (h2' : d2 < 4294967296) (h3 : 0 ≤ d3) (h3' : d3 < 4294967296) (h : (d3 % 2 == 0) = true) :
    Calls Try.prog 20 #[.agg #[.int .u32 7, .int .u32 d1, .int .u32 d2, .int .u32 d3]] w fun e w' => e = .returned (four (norm2 1 d1 d2)) ∧ New w w' := by
  unfold norm2
  by_cases hd : d2 = 0
  · rw [if_pos hd]; subst hd; exact rn_7b d1 d3 w h1 h1' h3 h3' h
  · rw [if_neg hd]
    have hd' : (d2 == 0) = false := beq_eq_false_iff_ne.2 hd
    by_cases he : d1 = 0
    · rw [if_pos ⟨rfl, he⟩]; subst he; exact rn_7c d2 d3 w h2 h2' h3 h3' h hd'
    · rw [if_neg (fun q => he q.2)]; exact rn_7d d1 d2 d3 w h1 h1' h2 h2' h3 h3' h hd' (beq_eq_false_iff_ne.2 he)
theorem rn_8n (d1 d2 d3 : Int) (w : World) (h1 : 0 ≤ d1) (h1' : d1 < 4294967296) (h2 : 0 ≤ d2) (h2' : d2 < 4294967296) (h3 : 0 ≤ d3) (h3' : d3 < 4294967296) (h : (d3 % 2 == 0) = true) :
    Calls Try.prog 20 #[.agg #[.int .u32 8, .int .u32 d1, .int .u32 d2, .int .u32 d3]] w fun e w' => e = .returned (four (norm2 2 d1 d2)) ∧ New w w' := by
  unfold norm2
  by_cases hd : d2 = 0
  · rw [if_pos hd]; subst hd; exact rn_8b d1 d3 w h1 h1' h3 h3' h
  · rw [if_neg hd]
    have hd' : (d2 == 0) = false := beq_eq_false_iff_ne.2 hd
    rw [if_neg (fun q => absurd q.1 (by decide))]; exact rn_8d d1 d2 d3 w h1 h1' h2 h2' h3 h3' h hd'
theorem rnormal_c (op d1 d2 d3 : Int) (w : World) (ho : 0 ≤ op) (ho' : op < 4294967296) (h1 : 0 ≤ d1) (h1' : d1 < 4294967296) (h2 : 0 ≤ d2) (h2' : d2 < 4294967296) (h3 : 0 ≤ d3) (h3' : d3 < 4294967296) :
    Calls Try.prog 20 #[four (op, d1, d2, d3)] w fun e w' => e = .returned (four (normF op d1 d2 d3)) ∧ New w w' := by
  by_cases h8 : 8 < op
  · have e : normF op d1 d2 d3 = (0, 0, 0, 0) := by
      unfold normF
      rw [if_neg (by omega), if_neg (by omega), if_neg (by omega), if_neg (by omega), if_neg (by omega), if_neg (by omega)]
    rw [e]; exact rn_9 op d1 d2 d3 w h1 h1' h2 h2' h3 h3' h8
  · have hcase : op = 0 ∨ op = 1 ∨ op = 2 ∨ op = 3 ∨ op = 4 ∨ op = 5 ∨ op = 6 ∨ op = 7 ∨ op = 8 := by omega
    rcases hcase with rfl | rfl | rfl | rfl | rfl | rfl | rfl | rfl | rfl
    · exact rn_0 d1 d2 d3 w h1 h1' h2 h2' h3 h3'
    · exact rn_1 d1 d2 d3 w h1 h1' h2 h2' h3 h3'
    · exact rn_2 d1 d2 d3 w h1 h1' h2 h2' h3 h3'
    · exact rn_3 d1 d2 d3 w h1 h1' h2 h2' h3 h3'
    · by_cases h : d2 % 32 = 0
      · have e : normF 4 d1 d2 d3 = (3, d1, 0, 0) := by simp [normF, h]
        rw [e]; exact rn_4a d1 d2 d3 w h1 h1' h2 h2' h3 h3' (beq_iff_eq.2 h)
      · have e : normF 4 d1 d2 d3 = (4, d1, d2 % 32, 0) := by simp [normF, h]
        rw [e]; exact rn_4b d1 d2 d3 w h1 h1' h2 h2' h3 h3' (beq_eq_false_iff_ne.2 h)
    · by_cases h : d2 % 32 = 0
      · have e : normF 5 d1 d2 d3 = (3, d1, 0, 0) := by simp [normF, h]
        rw [e]; exact rn_5a d1 d2 d3 w h1 h1' h2 h2' h3 h3' (beq_iff_eq.2 h)
      · have e : normF 5 d1 d2 d3 = (5, d1, d2 % 32, 0) := by simp [normF, h]
        rw [e]; exact rn_5b d1 d2 d3 w h1 h1' h2 h2' h3 h3' (beq_eq_false_iff_ne.2 h)
    · by_cases h : d2 % 32 = 0
      · have e : normF 6 d1 d2 d3 = (3, d1, 0, 0) := by simp [normF, h]
        rw [e]; exact rn_6a d1 d2 d3 w h1 h1' h2 h2' h3 h3' (beq_iff_eq.2 h)
      · have e : normF 6 d1 d2 d3 = (6, d1, d2 % 32, 0) := by simp [normF, h]
        rw [e]; exact rn_6b d1 d2 d3 w h1 h1' h2 h2' h3 h3' (beq_eq_false_iff_ne.2 h)
    · by_cases h : d3 % 2 = 1
      · have e : normF 7 d1 d2 d3 = (7, d1, d2, 1) := by simp [normF, h]
        rw [e]; exact rn_7a d1 d2 d3 w h1 h1' h2 h2' h3 h3' (beq_eq_false_iff_ne.2 (by omega))
      · have e : normF 7 d1 d2 d3 = norm2 1 d1 d2 := by simp [normF, h]
        rw [e]; exact rn_7n d1 d2 d3 w h1 h1' h2 h2' h3 h3' (beq_iff_eq.2 (by omega))
    · by_cases h : d3 % 2 = 1
      · have e : normF 8 d1 d2 d3 = (8, d1, d2, 1) := by simp [normF, h]
        rw [e]; exact rn_8a d1 d2 d3 w h1 h1' h2 h2' h3 h3' (beq_eq_false_iff_ne.2 (by omega))
      · have e : normF 8 d1 d2 d3 = norm2 2 d1 d2 := by simp [normF, h]
        rw [e]; exact rn_8n d1 d2 d3 w h1 h1' h2 h2' h3 h3' (beq_iff_eq.2 (by omega))
end Go.Proofs.Ytmkjgkldbonpnaa
