/- A law's call, run; contracts without memory. -/
import Derived.Test.YtpooghnemlnopaaSx22
import Derived.Test.YtpooghnemlnopaaSx20
namespace Go.Sx
set_option linter.unusedVariables false
open Go Go.RowKit Go.Cd Go.Proofs.Ytpooghnemlnopaa Go.MapKept
/-- What a contract without memory says: a call's value, by its arguments alone. -/
abbrev Pure := FuncId → List SV → Option SV
def pureCon (g : Pure) : Con := fun f args ents next => match g f args with
  | some v => some (next + 2, .leaf ⟨v, ents, []⟩)
  | none => none
def PureOk [Val] (P : Program) (g : Pure) : Prop :=
  ∀ f args v, g f args = some v → ∀ (ρ : Env) (vs : List Value) (w : World), SV.DenL ρ args vs → Calls P f vs.toArray w fun e w' => ∃ x, e = .returned x ∧ v.Den ρ x ∧ New w w'
theorem pureCon_ok [Val] {P : Program} {g : Pure} (h : PureOk P g) : ConOk P (pureCon g) := by
  intro f args ents next next' t hc
  unfold pureCon at hc
  split at hc <;> cases hc
  rename_i v hv
  refine ⟨Nat.le_refl _, fun Q hQ vs w ρ X w0 F ha hd hF => ?_⟩
  refine (h f args v hv ρ vs w ha).mono ?_
  rintro e w' ⟨x, rfl, hx, hn⟩
  exact ⟨ρ, x, _, hQ, rfl, Env.le_refl _, hx, (hd.junk hn).fresh_mono fun j hj => hj.1⟩
theorem pureCon_log (g : Pure) : ConLog (pureCon g) := by
  intro f args ents next next' t hc
  unfold pureCon at hc
  split at hc <;> cases hc
  exact fun h _ => rfl
def noPure : Pure := fun _ _ => none
theorem noPure_ok [Val] (P : Program) : PureOk P noPure := fun _ _ _ h => by cases h
/-- What a law's run leaves to be shown. -/
def lawTree (P : Program) (g : Pure) (xt : FuncId → List SV → Option SV) (f : FuncId) (args : List SV) (n : Nat) : Tree SB :=
  match fnOf P f with
  | some i => (srun P (ext P (pureCon g) xt) n [] (sStart i f args [] 0 (2 ^ 200))).bind fun S => match sValue P f S with
    | some (.bool b) => .leaf b
    | _ => .stuck 200
  | none => .stuck 201
theorem law_calls [Val] {P : Program} (hok : FnOk P) (hm : P.follows .mixedOrders = true) {g : Pure} (hg : PureOk P g) {xt : FuncId → List SV → Option SV} (hxt : XtOk P xt) {f : FuncId} {args : List SV} {n : Nat} (h : (lawTree P g xt f args n).sat fun b => b.v = true) {vs : List Value} (hv : SV.DenL (fun _ => none) args vs) (w : World) :
    Calls P f vs.toArray w fun e w' => e = .returned (.bool true) ∧ New w w' := by
  unfold lawTree at h
  split at h
  · rename_i i hi
    refine calls_of_run (X := fun _ => False) (w0 := w) (F := fun _ => True) (lo := 0) (ρ := fun _ => none) hok (ext_ok hok hm (pureCon_ok hg) (pureCon_log g) hxt) (n := n) hi hv ((DenH.start w _).fresh_mono fun j _ => trivial) ⟨Nat.le_refl _, fun _ _ _ => trivial⟩ (Tree.sat_mono (fun S hS => ?_) (Tree.sat_bind h))
    split at hS
    · rename_i b hb
      refine ⟨_, hb, fun ρ' v w' _ hd h => ⟨?_, new_of_den h⟩⟩
      simp only [SV.Den] at hd
      rw [hd]
      simp only [Tree.sat] at hS
      rw [hS]
    · exact hS.elim
  · exact h.elim
/-- Letters that stand for nothing. -/
@[reducible] def noVal : Val := ⟨fun _ => 0, fun _ => false, fun _ _ => 0, fun _ _ => false⟩
end Go.Sx
