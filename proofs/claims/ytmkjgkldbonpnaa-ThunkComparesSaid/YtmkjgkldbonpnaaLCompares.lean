/- ThunkCompares holds: the expressions of a simplified condition have its value, for all values of the temporaries, and are well typed. No condition. -/
import Derived.Test.YtmkjgkldbonpnaaZ0
import Derived.Test.YtmkjgkldbonpnaaZ3
import Derived.Test.YtmkjgkldbonpnaaZ11
namespace Go.Proofs.Ytmkjgkldbonpnaa
open Go Go.RowKit Go.Cd Go.ChangeShapes Go.WideShapes Go.ChangeAt
set_option linter.unusedVariables false
attribute [local go_sem ↓] Go.wp_at_zero Go.wp_at_succ 
set_option maxRecDepth 100000 in
set_option maxHeartbeats 4000000 in
theorem thunkCompares_c (p : Option Addr) (cap : Nat) (l : List Atom) (tmp : Int) (vs : List Int) (hv : vs.length = 5) (hw : ∀ v ∈ vs, 0 ≤ v ∧ v < 4294967296) (w : World) (h : AtomsAt w p l) :
    Calls Try.prog 11 #[.slice p l.length cap, .int .i64 tmp, .agg (vs.map (Value.int .u32)).toArray] w fun e w' => e = .returned (.bool true) ∧ New w w' := by
  match vs, hv with
  | [v0, v1, v2, v3, v4], _ =>
    show Calls Try.prog 11 #[.slice p l.length cap, .int .i64 tmp, .agg #[.int .u32 v0, .int .u32 v1, .int .u32 v2, .int .u32 v3, .int .u32 v4]] w _
    by_cases ho : l.length ≠ 5 ∨ tmp < 100 ∨ 3000 < tmp
    · exact cmp_out p cap l tmp v0 v1 v2 v3 v4 w ho
    · have h5 : l.length = 5 := by omega
      obtain ⟨n, rfl⟩ := Int.eq_ofNat_of_zero_le (show 0 ≤ tmp by omega)
      rw [h5]
      rcases h.1 with h1 | ⟨b, off, rfl, hb, hc⟩
      · rw [h1] at h5; cases h5
      · exact cmp_main b off cap l n v0 v1 v2 v3 v4 w hc hb h.2 h5 (by omega) (by omega) hw

theorem thunkCompares_own : ownKnob Try.prog.godebug = none := by kernel_rfl
set_option maxRecDepth 100000 in
theorem thunkCompares_lifted (os : Os) (started : os.Started) (H : Type) (enc : TypeId × Value → H) :
    ReturnsInHanded {} Try.checked os 11 .any (Rows.thunkComparesSpec.pre6 enc Try.prog Try.f11 Rows.thunkComparesRow.domain false) (Rows.thunkComparesSpec.post enc Try.prog Try.f11 false true false false) := by
  refine returnsInHanded_of_change (C := Try.checked) thunkCompares_own started (by kernel_rfl) Try.func11
    (ChangeSpec.witness6 (enc := enc) (C := Try.checked) false ⟨#[], #[.slice none 0 0, .int .i64 0, .agg #[.int .u32 0, .int .u32 0, .int .u32 0, .int .u32 0, .int .u32 0]], []⟩ 8 (by kernel_rfl) (by kernel_rfl) (by kernel_rfl) (by kernel_rfl)) ?_
  intro W base args ds gs before hval0 hW hcnd _
  have hval : ∀ (j : Nat) t v, Try.f11.params[j]? = some t → args[j]? = some v → Value.okWide Try.prog W .any base t v := hval0
  have hW' := hW
  obtain ⟨p, q, hA0, hV, rfl, hfz, hnd⟩ := hW
  have hA : DataW.TrodAll enc Try.prog W 0 (fun _ => true) true Try.f11.params.toList args.toList ds p := hA0
  rw [Try.params11] at hA hval
  obtain ⟨v0, vs0, d0, ds0, p0, q0, hargs, rfl, rfl, h0, r0⟩ := trodAll_cons hA
  obtain ⟨v1, vs1, d1, ds1, p1, q1, rfl, rfl, rfl, h1, r1⟩ := trodAll_cons r0
  obtain ⟨v2, vs2, d2, ds2, p2, q2, rfl, rfl, rfl, h2, r2⟩ := trodAll_cons r1
  obtain ⟨rfl, rfl, rfl⟩ := trodAll_nil r2
  obtain rfl : args = #[v0, v1, v2] := by cases args; simp_all
  obtain ⟨a0, c0, z0, rfl, x0⟩ := open_atoms (hval 0 22 v0 rfl rfl) h0
  obtain ⟨a1, rfl, rfl, rfl, w1⟩ := open_int Try.underlying3 (hval 1 3 v1 rfl rfl) h1
  obtain ⟨l2, rfl, n2, w2⟩ := open_ints_arr Try.underlying54 Try.underlying29 (by kernel_rfl) (show Try.prog.cellsOf 54 = 5 by kernel_rfl) (hval 2 54 v2 rfl rfl) h2
  exact (thunkCompares_c a0 c0 z0 a1 l2 n2 (fun z hz => wf_u32 (w2 z hz)) W x0).mono fun e W' ⟨he, hg⟩ =>
    ⟨_, he, law_post (tb := 4) (by kernel_rfl) (by decide +kernel) rfl Try.underlying4 rfl hW' rfl hg⟩
theorem thunkCompares_holds : Rows.ThunkComparesSaid :=
  OpenClaim.holds_of_wide 11 Try.f11 rfl rfl rfl rfl rfl rfl rfl ⟨rfl, rfl, rfl, rfl, rfl⟩ rfl rfl rfl rfl rfl (by kernel_rfl) Try.func11 (by kernel_rfl)
    (of_decide_eq_true (by kernel_rfl)) (by unfold Func.isWrapper; first | (rw [if_pos (by decide +kernel)]; kernel_rfl) | (rw [if_neg (by decide +kernel)]; exact ⟨rfl, rfl⟩))
    (fun os started H enc _ => thunkCompares_lifted os started H enc)
#print axioms thunkCompares_holds
end Go.Proofs.Ytmkjgkldbonpnaa
