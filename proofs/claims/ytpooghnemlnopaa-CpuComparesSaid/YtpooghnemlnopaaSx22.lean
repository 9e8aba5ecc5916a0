/- Symbolic runs keep a log of the names that they touch; calls within regions that draw. -/
import Derived.Test.YtpooghnemlnopaaSx21
namespace Go.Sx
set_option linter.unusedSimpArgs false
set_option linter.unusedVariables false
open Go Go.RowKit Go.Cd Go.Proofs.Ytpooghnemlnopaa Go.MapKept

def ExtLog (x : Ext) : Prop := DrLog x.dr ∧ ConLog x.con
/-- What the log leaves out stands as at the start. -/
def LogInv (E0 : Look) (S : SState) : Prop := ∀ h, h ∉ S.log → find S.ents h = E0 h
section
variable {P : Program} {E0 : Look}
theorem LogInv.same [Val] {S S' : SState} (h : LogInv E0 S) (he : S'.ents = S.ents) (hl : S'.log = S.log) : LogInv E0 S' := fun x hx => by rw [he]; exact h x (by rw [← hl]; exact hx)
theorem LogInv.upd [Val] {S S' : SState} (h : LogInv E0 S) {k : Nat} {o : SObj} (he : S'.ents = upd S.ents k o) (hl : S'.log = k :: S.log) : LogInv E0 S' := fun x hx => by
  rw [hl, List.mem_cons, not_or] at hx
  rw [he, find_upd, if_neg hx.1]
  exact h x hx.2
theorem LogInv.app [Val] {S S' : SState} (h : LogInv E0 S) {us : List Upd} (he : S'.ents = appUs us S.ents) (hl : S'.log = logUs us S.log) : LogInv E0 S' := fun x hx => by
  rw [hl] at hx
  obtain ⟨h1, h2⟩ := logUs_mem hx
  rw [he, find_appUs, (looks_split us (find S.ents) (find S.ents) x).2 h2]
  exact h x h1
theorem sOut_log [Val] {e : Ext} (hcon : ConLog e.con) {S : SState} (hS : LogInv E0 S) {td : List SItem} {dst : Option Tmp} : ∀ {x : OOut}, (sOut P e S td dst x).all (LogInv E0)
  | .val v us ts => hS.app rfl rfl
  | .enter f args => by
    simp only [sOut]; split
    · split
      · exact hS.same rfl rfl
      · trivial
    split
    · rename_i next' t hct
      split
      · refine Tree.all_bind (fun r hr => ?_) (hcon _ _ _ _ _ _ hct)
        intro x hx
        dsimp only at hx ⊢
        rw [List.mem_append, not_or] at hx
        rw [hr x hx.1]
        exact hS x hx.2
      · trivial
    · exact hS.same rfl rfl
  | .yield h args => by
    simp only [sOut]; split
    · split
      · exact hS.same rfl rfl
      · trivial
    · trivial
  | .dfr f c a => hS.same rfl rfl
  | .pan v => hS.same rfl rfl
  | .rcv => by
    simp only [sOut]; split
    · split
      · exact hS.same rfl rfl
      · exact hS.same rfl rfl
    · trivial
  | .split b x y => ⟨sOut_log hcon hS, sOut_log hcon hS⟩
  | .need p x => sOut_log hcon hS (x := x)
  | .stuck n => trivial
theorem sSkip_log [Val] {S : SState} (hS : LogInv E0 S) {td : List SItem} {dst : Option Tmp} : (sSkip S td dst).all (LogInv E0) := hS.same rfl rfl
theorem sDo_log [Val] {e : Ext} (hcon : ConLog e.con) {S : SState} (hS : LogInv E0 S) {td : List SItem} {o : Oper} : (sDo P e S td o).all (LogInv E0) := by
  unfold sDo
  split
  · trivial
  · split
    · exact sOut_log hcon hS
    · trivial
theorem sOp_log [Val] {e : Ext} (hcon : ConLog e.con) {S : SState} (hS : LogInv E0 S) {ops : Array Oper} {i : Nat} {rest : List Nat} {k : List SItem} : (sOp P e S ops i rest k).all (LogInv E0) := by
  unfold sOp
  split
  · exact sSkip_log hS
  · split
    · exact sDo_log hcon hS
    · exact sSkip_log hS
    · split
      · exact ⟨sDo_log hcon hS, sSkip_log hS⟩
      · exact ⟨sSkip_log hS, sDo_log hcon hS⟩
    · trivial
theorem sUnwind_log [Val] {S : SState} (hS : LogInv E0 S) : (sUnwind P S).all (LogInv E0) := by
  unfold sUnwind
  split
  · split
    · exact hS.upd rfl rfl
    · trivial
  · split
    · exact hS.same rfl rfl
    · trivial
  · split
    · trivial
    · split
      · trivial
      · split
        · exact hS.same rfl rfl
        · split
          · trivial
          · split
            · split
              · exact hS.same rfl rfl
              · trivial
            · exact hS.same rfl rfl
            · trivial
        · trivial
theorem sLeave_log [Val] {S : SState} (hS : LogInv E0 S) {jump : Option Code} {ret : Bool} : (sLeave S jump ret).all (LogInv E0) := by
  unfold sLeave
  split
  · split
    · exact hS.same rfl rfl
    · trivial
  · unfold sRoundEnd
    split
    · split
      · split
        · exact hS.upd rfl rfl
        · trivial
      · trivial
    · trivial
theorem sRangeFunc_log [Val] {S : SState} (hS : LogInv E0 S) {f : Operand} {params : Array Tmp} {a b : Code} {k : List SItem} : (sRangeFunc P S f params a b k).all (LogInv E0) := by
  unfold sRangeFunc
  split
  · split
    · split
      · intro x hx
        dsimp only at hx ⊢
        rw [List.mem_cons, List.mem_cons, not_or, not_or] at hx
        rw [find_cons, find_cons, if_neg hx.1, if_neg hx.2.1]
        exact hS x hx.2.2
      · split
        · intro x hx
          dsimp only at hx ⊢
          rw [List.mem_cons, not_or] at hx
          rw [find_cons, if_neg hx.1]
          exact hS x hx.2
        · trivial
    · trivial
  · trivial
theorem sCode_log [Val] {dr : Ext} (hdr : ExtLog dr) {S : SState} (hS : LogInv E0 S) {c : Code} {k : List SItem} : (sCode P dr S c k).all (LogInv E0) := by
  cases c <;> simp only [sCode]
  case skip => exact hS.same rfl rfl
  case label => exact hS.same rfl rfl
  case seq => exact hS.same rfl rfl
  case block => exact hS.same rfl rfl
  case loop => exact hS.same rfl rfl
  case scope => exact hS.same rfl rfl
  case cond =>
    split
    · exact hS.same rfl rfl
    · exact hS.same rfl rfl
    · exact ⟨hS.same rfl rfl, hS.same rfl rfl⟩
    · trivial
  case exit =>
    split
    · exact hS.same rfl rfl
    · exact sLeave_log hS
  case goto =>
    split
    · exact hS.same rfl rfl
    · exact sLeave_log hS
  case ret => exact sLeave_log hS
  case region n ops draw =>
    split
    · exact hS.same rfl rfl
    · split
      · rename_i h
        intro x hx
        obtain ⟨h1, h2⟩ := hdr.1 _ _ _ _ _ _ _ _ _ _ _ h x hx
        dsimp only
        rw [h2]
        exact hS x h1
      · trivial
  case rangeFunc => exact sRangeFunc_log hS
  case refuse => trivial
theorem sstep_log [Val] {dr : Ext} (hdr : ExtLog dr) {S : SState} (hS : LogInv E0 S) : (sstep P dr S).all (LogInv E0) := by
  unfold sstep
  split
  · split
    · exact sLeave_log hS
    · rename_i it k
      unfold sItem
      split
      · exact sCode_log hdr hS
      · exact hS.same rfl rfl
      · exact hS.same rfl rfl
      · exact hS.same rfl rfl
      · split
        · exact hS.same rfl rfl
        · exact sOp_log hdr.2 hS
      · trivial
      · split
        · split
          · trivial
          · exact hS.upd rfl rfl
        · trivial
      · split
        · split
          · split
            · exact hS.upd rfl rfl
            · trivial
          · trivial
        · trivial
  · exact sUnwind_log hS
theorem Tree.all_go {α β : Type} {Q : α → Prop} {Q' : β → Prop} {f : Facts → α → Tree β} (hf : ∀ fs a, Q a → (f fs a).all Q') : ∀ {t : Tree α} {fs : Facts}, t.all Q → (Tree.go fs f t).all Q'
  | .leaf a, fs, h => hf fs a h
  | .split _ x y, fs, h => by
    simp only [Tree.go]; split
    · exact Tree.all_go hf h.1
    · exact Tree.all_go hf h.2
    · exact ⟨Tree.all_go hf h.1, Tree.all_go hf h.2⟩
  | .need _ x, fs, h => by
    have h : x.all Q := h
    simp only [Tree.go]; split
    · exact Tree.all_go hf h
    · trivial
    · exact Tree.all_go (t := x) hf h
  | .stuck _, _, _ => trivial
theorem srun_log [Val] {dr : Ext} (hdr : ExtLog dr) : ∀ {n : Nat} {fs : Facts} {S : SState}, LogInv E0 S → (srun P dr n fs S).all (LogInv E0)
  | 0, _, _, _ => trivial
  | n + 1, fs, S, hS => by
    unfold srun
    split
    · exact hS
    · exact Tree.all_go (Q := LogInv E0) (fun fs a ha => srun_log hdr ha) (sstep_log hdr hS)
end
/-- A call within a region that draws: a run of its own, with names of its own; or a contract that knows one answer. -/
def runCallee (P : Program) (dr : Ext) (fuel chunk : Nat) : Callee := fun f args ents next hi =>
  match dr.con f args ents next with
  | some (next', .leaf r) => match Nat.ble next' hi with
    | true => some (r.val, r.ents, next', r.log)
    | false => none
  | some _ => none
  | none => match Nat.ble (next + chunk) hi, fnOf P f with
    | true, some i => match srun P dr fuel [] (sStart i f args ents next (next + chunk)) with
      | .leaf S => match sValue P f S, Nat.ble S.next (next + chunk) with
        | some v, true => some (v, S.ents, next + chunk, S.log)
        | _, _ => none
      | _ => none
    | _, _ => none
theorem runCallee_ok [Val] {P : Program} (hok : FnOk P) {dr : Ext} (hdr : ExtOk P dr) (hlog : ExtLog dr) (fuel chunk : Nat) : CalleeOk P (runCallee P dr fuel chunk) := by
  intro f args ents next hi v ents' next' log' h
  unfold runCallee at h
  split at h
  · rename_i n t hct
    split at h <;> cases h
    have hle := Nat.le_of_ble_eq_true (by assumption)
    obtain ⟨c1, c2⟩ := hdr.con _ _ _ _ _ _ hct
    refine ⟨by omega, hle, hlog.2 _ _ _ _ _ _ hct, ?_⟩
    intro vs w ρ X w0 F ha hd hF
    refine (c2 (fun r => r = t) rfl vs w ρ X w0 F ha hd hF).mono ?_
    rintro e w' ⟨ρ', x, r, rfl, rfl, g1, g2, g3⟩
    exact ⟨ρ', x, rfl, g1, g2, g3⟩
  · cases h
  split at h <;> try (cases h; done)
  rename_i i hb hi'
  have hb := Nat.le_of_ble_eq_true hb
  split at h <;> try (cases h; done)
  rename_i S hS
  split at h <;> try (cases h; done)
  rename_i v' hv hle
  cases h
  have hle := Nat.le_of_ble_eq_true hle
  refine ⟨by omega, hb, fun x hx => ?_, ?_⟩
  · have := srun_log (P := P) (E0 := find ents) hlog (n := fuel) (fs := []) (S := sStart i f args ents next (next + chunk)) (fun x _ => rfl)
    rw [hS] at this
    exact this x hx
  · intro vs w ρ X w0 F ha hd hF
    refine calls_of_run (F := F) (lo := next) hok hdr (n := fuel) hi' ha (hd.fresh_mono fun j hj => hj.1) ⟨Nat.le_refl _, hF⟩ ?_
    rw [hS]
    refine ⟨v, hv, fun ρ' x w' h1 h2 h3 => ⟨ρ', x, rfl, h1, h2, h3.fresh_mono fun j hj => ⟨hj.1, ?_⟩⟩⟩
    have := hj.2
    omega
def noCal : Callee := fun _ _ _ _ _ => none
theorem noCal_ok [Val] (P : Program) : CalleeOk P noCal := fun _ _ _ _ _ _ _ _ _ h => by cases h
/-- Regions that draw; calls in them are run, so deep. -/
def drawN (P : Program) (con : Con) (xt : FuncId → List SV → Option SV) (fuel : Nat) : Nat → Dr
  | 0 => sDraw P noCal
  | n + 1 => sDraw P (runCallee P ⟨drawN P con xt fuel n, con, xt⟩ fuel (2 ^ (16 * (n + 1))))
theorem drawN_ok [Val] {P : Program} (hok : FnOk P) (hm : P.follows .mixedOrders = true) {con : Con} (hcon : ConOk P con) (hcl : ConLog con) {xt : FuncId → List SV → Option SV} (hxt : XtOk P xt) (fuel : Nat) : ∀ n, DrOk P (drawN P con xt fuel n) ∧ DrLog (drawN P con xt fuel n)
  | 0 => sDraw_ok hok hm (noCal_ok P)
  | n + 1 => by
    obtain ⟨h1, h2⟩ := drawN_ok hok hm hcon hcl hxt fuel n
    exact sDraw_ok hok hm (runCallee_ok hok ⟨h1, hcon, hxt⟩ ⟨h2, hcl⟩ fuel _)
/-- The usual run. -/
def ext (P : Program) (con : Con) (xt : FuncId → List SV → Option SV) : Ext := ⟨drawN P con xt 10000 4, con, xt⟩
theorem ext_ok [Val] {P : Program} (hok : FnOk P) (hm : P.follows .mixedOrders = true) {con : Con} (hcon : ConOk P con) (hcl : ConLog con) {xt : FuncId → List SV → Option SV} (hxt : XtOk P xt) : ExtOk P (ext P con xt) := ⟨(drawN_ok hok hm hcon hcl hxt 10000 4).1, hcon, hxt⟩
end Go.Sx
