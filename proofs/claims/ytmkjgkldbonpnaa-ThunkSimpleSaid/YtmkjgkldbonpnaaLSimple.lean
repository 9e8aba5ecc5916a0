/- ThunkSimple holds: for all lists of at most 20 atoms, valid or not, Simplify answers as the specification's does. No condition. -/
import Derived.Test.YtmkjgkldbonpnaaKitLaw
import Derived.Test.YtmkjgkldbonpnaaWSane2
import Derived.Test.YtmkjgkldbonpnaaKitAtoms
import Derived.Test.YtmkjgkldbonpnaaPlainSmall
import Derived.Test.YtmkjgkldbonpnaaWRefS5
namespace Go.Proofs.Ytmkjgkldbonpnaa
open Go Go.RowKit Go.Cd Go.ChangeShapes Go.WideShapes Go.ChangeAt
set_option linter.unusedVariables false
attribute [local go_sem ↓] Go.wp_at_zero Go.wp_at_succ 
set_option maxRecDepth 100000 in
set_option maxHeartbeats 4000000 in
theorem thunkSimple_c (p : Option Addr) (cap : Nat) (l : List Atom) (tmp : Int) (w : World) (h : AtomsAt w p l) :
    Calls Try.prog 3 #[.slice p l.length cap, .int .i64 tmp] w fun e w' => e = .returned (.bool true) ∧ New w w' := by
  have HA := Lib.hid h
  clear h
  by_cases h20 : 20 < l.length
  · have h20b : (20 : Int) < (l.length : Nat) := by omega
    go_enter Try.func3, Try.ntmps3
    go_wp2_with fail
    refine (sane_c _).mono ?_
    rintro e w1 ⟨rfl, hb1⟩
    have N1 := Lib.hid hb1
    clear hb1
    go_wp2
    go_ret
    exact ⟨rfl, N1.out⟩
  · have h20b : ((l.length : Nat) : Int) ≤ 20 := by omega
    have HSM := Lib.hid (small_simpF l tmp)
    obtain ⟨⟨L, bo⟩, hL⟩ : ∃ L, simpF l tmp = L := ⟨_, rfl⟩
    rw [hL] at HSM
    have c1 : ∀ w : World, AtomsAt w p l → Calls Try.prog 13 #[.slice p l.length cap, .int .i64 tmp] w (SfPost (L, bo) w) := fun w hw => by
      have := simplify_c p cap l tmp w hw
      rwa [hL] at this
    have c2 : ∀ w : World, AtomsAt w p l → Calls Try.prog 14 #[.slice p l.length cap, .int .i64 tmp] w (RfPost (L, bo) w) := fun w hw => by
      have := rsimplify_c p cap l tmp w hw
      rwa [hL] at this
    have C1 := Lib.hid c1
    have C2 := Lib.hid c2
    clear c1 c2 hL
    go_enter Try.func3, Try.ntmps3
    go_wp2_with fail
    refine (sane_c _).mono ?_
    rintro e w1 ⟨rfl, hb1⟩
    have N1 := Lib.hid hb1
    have A1 := Lib.hid (HA.out.new hb1)
    clear hb1
    go_wp2_with fail
    refine (C1.out _ A1.out).mono ?_
    rintro e w2 ⟨v, rfl, ht, hf, hb2⟩
    have N2 := Lib.hid (N1.out.trans (hb2.mono N1.out.size))
    have A2 := Lib.hid (A1.out.new hb2)
    clear hb2
    cases bo
    · obtain rfl := hf rfl
      clear ht hf
      go_wp2_with fail
      refine (C2.out _ A2.out).mono ?_
      rintro e w3 ⟨v3, rfl, ht, hf, hb3⟩
      obtain rfl := hf rfl
      have N3 := Lib.hid (N2.out.trans (hb3.mono N2.out.size))
      clear hb3 ht hf
      go_wp2_with fail
      refine (same_nil none none 0 0 _).mono ?_
      rintro e w4 ⟨rfl, hb4⟩
      have N4 := Lib.hid (N3.out.trans (hb4.mono N3.out.size))
      clear hb4
      go_wp2
      go_ret
      exact ⟨rfl, N4.out⟩
    · obtain ⟨a, ca, hv, ra⟩ := (ht rfl).rows
      subst hv
      have RA := Lib.hid ra
      clear ht hf ra
      go_wp2_with fail
      refine (C2.out _ A2.out).mono ?_
      rintro e w3 ⟨v3, rfl, ht, hf, hb3⟩
      obtain ⟨a', ca', hv, rb⟩ := ht rfl
      subst hv
      have RB := Lib.hid rb
      have RA3 := Lib.hid (RA.out.new hb3)
      have N3 := Lib.hid (N2.out.trans (hb3.mono N2.out.size))
      clear hb3 ht hf rb
      go_wp2_with fail
      refine (same_r a a' ca ca' L _ RA3.out RB.out HSM.out.1 HSM.out.2).mono ?_
      rintro e w4 ⟨rfl, hb4⟩
      have N4 := Lib.hid (N3.out.trans (hb4.mono N3.out.size))
      clear hb4
      go_wp2
      go_ret
      exact ⟨rfl, N4.out⟩

theorem thunkSimple_own : ownKnob Try.prog.godebug = none := by kernel_rfl
set_option maxRecDepth 100000 in
theorem thunkSimple_lifted (os : Os) (started : os.Started) (H : Type) (enc : TypeId × Value → H) :
    ReturnsInHanded {} Try.checked os 3 .any (Rows.thunkSimpleSpec.pre6 enc Try.prog Try.f3 Rows.thunkSimpleRow.domain false) (Rows.thunkSimpleSpec.post enc Try.prog Try.f3 false true false false) := by
  refine returnsInHanded_of_change (C := Try.checked) thunkSimple_own started (by kernel_rfl) Try.func3
    (ChangeSpec.witness6 (enc := enc) (C := Try.checked) false ⟨#[], #[.slice none 0 0, .int .i64 0], []⟩ 8 (by kernel_rfl) (by kernel_rfl) (by kernel_rfl) (by kernel_rfl)) ?_
  intro W base args ds gs before hval0 hW hcnd _
  have hval : ∀ (j : Nat) t v, Try.f3.params[j]? = some t → args[j]? = some v → Value.okWide Try.prog W .any base t v := hval0
  have hW' := hW
  obtain ⟨p, q, hA0, hV, rfl, hfz, hnd⟩ := hW
  have hA : DataW.TrodAll enc Try.prog W 0 (fun _ => true) true Try.f3.params.toList args.toList ds p := hA0
  rw [Try.params3] at hA hval
  obtain ⟨v0, vs0, d0, ds0, p0, q0, hargs, rfl, rfl, h0, r0⟩ := trodAll_cons hA
  obtain ⟨v1, vs1, d1, ds1, p1, q1, rfl, rfl, rfl, h1, r1⟩ := trodAll_cons r0
  obtain ⟨rfl, rfl, rfl⟩ := trodAll_nil r1
  obtain rfl : args = #[v0, v1] := by cases args; simp_all
  obtain ⟨a0, c0, z0, rfl, x0⟩ := open_atoms (hval 0 22 v0 rfl rfl) h0
  obtain ⟨a1, rfl, rfl, rfl, w1⟩ := open_int Try.underlying3 (hval 1 3 v1 rfl rfl) h1
  exact (thunkSimple_c a0 c0 z0 a1 W x0).mono fun e W' ⟨he, hg⟩ =>
    ⟨_, he, law_post (tb := 4) (by kernel_rfl) (by decide +kernel) rfl Try.underlying4 rfl hW' rfl hg⟩
theorem thunkSimple_holds : Rows.ThunkSimpleSaid :=
  OpenClaim.holds_of_wide 3 Try.f3 rfl rfl rfl rfl rfl rfl rfl ⟨rfl, rfl, rfl, rfl, rfl⟩ rfl rfl rfl rfl rfl (by kernel_rfl) Try.func3 (by kernel_rfl)
    (of_decide_eq_true (by kernel_rfl)) (by unfold Func.isWrapper; first | (rw [if_pos (by decide +kernel)]; kernel_rfl) | (rw [if_neg (by decide +kernel)]; exact ⟨rfl, rfl⟩))
    (fun os started H enc _ => thunkSimple_lifted os started H enc)
#print axioms thunkSimple_holds
end Go.Proofs.Ytmkjgkldbonpnaa
