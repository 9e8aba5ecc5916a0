/- Contracts on atoms: word, isWord, isAtom. -/
import Derived.Test.YtmkjgkldbonpnaaRows
import Derived.Test.YtmkjgkldbonpnaaKitMap
import Derived.Test.YtmkjgkldbonpnaaWAtomEq
namespace Go.Proofs.Ytmkjgkldbonpnaa
open Go Go.RowKit Go.Cd
set_option linter.unusedVariables false

/-- An atom of the intermediate form. -/
structure Atom where
  tmp : Int
  ty : Int
  c0 : Int
  c1 : Int
  c2 : Int
  c3 : Int
  deriving DecidableEq
def Atom.cells (a : Atom) : List Value := [.int .i64 a.tmp, .int .i64 a.ty, .int .u32 a.c0, .int .u32 a.c1, .int .u32 a.c2, .int .u32 a.c3]
def Atom.val (a : Atom) : Value := .agg #[.int .i64 a.tmp, .int .i64 a.ty, .int .u32 a.c0, .int .u32 a.c1, .int .u32 a.c2, .int .u32 a.c3]
def wordA (n : Int) : Atom := ⟨-1, 32, n, 0, 0, 0⟩
def tmpA (n : Int) : Atom := ⟨n, 0, 0, 0, 0, 0⟩

theorem lword_c (n : Int) (w : World) : Calls Try.prog 37 #[.int .u32 n] w fun e w' => e = .returned (wordA n).val ∧ New w w' := by
  go_enter Try.func37, Try.ntmps37
  go_wp2
  exact bodyPost_ret (v := (wordA n).val) (by simp [results, Try.results37, go_sem, wordA, Atom.val]) rfl ⟨rfl, by go_grown⟩
theorem tword_c (n : Int) (w : World) : Calls Try.prog 68 #[.int .u32 n] w fun e w' => e = .returned (wordA n).val ∧ New w w' := by
  go_enter Try.func68, Try.ntmps68
  go_wp2
  exact bodyPost_ret (v := (wordA n).val) (by simp [results, Try.results68, go_sem, wordA, Atom.val]) rfl ⟨rfl, by go_grown⟩
theorem rword_c (n : Int) (w : World) : Calls Try.prog 76 #[.int .u32 n] w fun e w' => e = .returned (wordA n).val ∧ New w w' := by
  go_enter Try.func76, Try.ntmps76
  go_wp2
  exact bodyPost_ret (v := (wordA n).val) (by simp [results, Try.results76, go_sem, wordA, Atom.val]) rfl ⟨rfl, by go_grown⟩
/-- A temporary, or a constant word. -/
def isW (a : Atom) : Bool := if 0 ≤ a.tmp then decide (a.ty = 0 ∧ a.c0 = 0 ∧ a.c1 = 0 ∧ a.c2 = 0 ∧ a.c3 = 0) else decide (a.tmp = -1 ∧ a.ty = 32 ∧ a.c1 = 0 ∧ a.c2 = 0 ∧ a.c3 = 0)
attribute [local go_sem ↓] Go.wp_at_zero Go.wp_at_succ eql_atom neq_atom eql_vec
set_option maxRecDepth 100000 in
set_option maxHeartbeats 1000000 in
theorem isword_neg (t ty c0 c1 c2 c3 : Int) (w : World) (h : ¬ 0 ≤ t) : Calls Try.prog 38 #[.agg #[.int .i64 t, .int .i64 ty, .int .u32 c0, .int .u32 c1, .int .u32 c2, .int .u32 c3]] w fun e w' => e = .returned (.bool (isW ⟨t, ty, c0, c1, c2, c3⟩)) ∧ New w w' := by
  have hlt : t < 0 := by omega
  go_enter Try.func38, Try.ntmps38
  go_wp2_with fail
  go_region_held3 (fun w' => w'.cell? ⟨w.heap.size, 0, none⟩ = some (.int .i64 t) ∧ w'.cell? ⟨w.heap.size, 1, none⟩ = some (.int .i64 ty) ∧ w'.cell? ⟨w.heap.size, 2, none⟩ = some (.int .u32 c0) ∧ w'.cell? ⟨w.heap.size, 3, none⟩ = some (.int .u32 c1) ∧ w'.cell? ⟨w.heap.size, 4, none⟩ = some (.int .u32 c2) ∧ w'.cell? ⟨w.heap.size, 5, none⟩ = some (.int .u32 c3) ∧ w.heap.size < w'.heap.size ∧ New w w') (((try dsimp only); (repeat' apply And.intro) <;> (first | go_keep | omega | go_grown)))
    (first | (go_at_call 68; refine (tword_c _ _).mono ?_; rintro e w1 ⟨rfl, hb1⟩; obtain ⟨hc1, hf1, hz1⟩ := bcell3 hb1; (try simp only [World.size_alloc, World.size_drew] at hz1); have hn1 : New w w1 := Below.trans (by go_grown) (hb1.mono (by simp)); unfold Atom.val wordA; dsimp only))
  have hn : New w w1 := by assumption
  clear hc1 hf1
  go_wp2
  go_ret
  refine ⟨ret_bool ?_, hn⟩
  unfold isW
  rw [if_neg (show ¬ (0 : Int) ≤ t by omega), Bool.eq_iff_iff]
  simp
theorem isword_pos (t ty c0 c1 c2 c3 : Int) (w : World) (h : 0 ≤ t) : Calls Try.prog 38 #[.agg #[.int .i64 t, .int .i64 ty, .int .u32 c0, .int .u32 c1, .int .u32 c2, .int .u32 c3]] w fun e w' => e = .returned (.bool (isW ⟨t, ty, c0, c1, c2, c3⟩)) ∧ New w w' := by
  go_enter Try.func38, Try.ntmps38
  go_wp2
  all_goals go_ret
  all_goals refine ⟨ret_bool ?_, by go_grown⟩
  all_goals unfold isW
  all_goals rw [if_pos (show (0 : Int) ≤ t by omega), Bool.eq_iff_iff]
  all_goals simp_all
theorem isword_c (a : Atom) (w : World) : Calls Try.prog 38 #[a.val] w fun e w' => e = .returned (.bool (isW a)) ∧ New w w' := by
  obtain ⟨t, ty, c0, c1, c2, c3⟩ := a
  by_cases h : 0 ≤ t
  · exact isword_pos t ty c0 c1 c2 c3 w h
  · exact isword_neg t ty c0 c1 c2 c3 w h
set_option maxHeartbeats 1000000 in
theorem isatom_c (a : Atom) (w : World) : Calls Try.prog 41 #[a.val] w fun e w' => e = .returned (.bool (isW a)) ∧ New w w' := by
  obtain ⟨t, ty, c0, c1, c2, c3⟩ := a
  unfold Atom.val
  dsimp only
  by_cases h : 0 ≤ t
  · go_enter Try.func41, Try.ntmps41
    go_wp2
    all_goals go_ret
    all_goals refine ⟨ret_bool ?_, by go_grown⟩
    all_goals unfold isW
    all_goals rw [if_pos (show (0 : Int) ≤ t by omega), Bool.eq_iff_iff]
    all_goals simp_all
  · go_enter Try.func41, Try.ntmps41
    go_wp2
    all_goals go_ret
    all_goals refine ⟨ret_bool ?_, by go_grown⟩
    all_goals unfold isW
    all_goals rw [if_neg (by dsimp only; omega), Bool.eq_iff_iff]
    all_goals simp_all
end Go.Proofs.Ytmkjgkldbonpnaa
