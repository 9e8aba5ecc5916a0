/- Parts of the proof: Sx22, Sx20, Sx23, SxRed, SxTr, SxPair, SxPairS, SxRIsD. -/
import Derived.Test.YtnoiijjkjcklpaaGreatZ10
import Derived.Test.YtnoiijjkjcklpaaGreatZ8
import Derived.Test.YtnoiijjkjcklpaaGreatProg
import Derived.Test.YtnoiijjkjcklpaaGreatZ1
/- Symbolic runs keep a log of the names that they touch; calls within regions that draw. -/
namespace Go.Sx
set_option linter.unusedSimpArgs false
set_option linter.unusedVariables false
open Go Go.RowKit Go.Cd Go.Proofs.YtnoiijjkjcklpaaGreat Go.MapKept

def ExtLog (x : Ext) : Prop := DrLog x.dr ∧ ConLog x.con
def LogInv (E0 : Look) (S : SState) : Prop := ∀ h, h ∉ S.log → find S.ents h = E0 h
section
variable {P : Program} {E0 : Look}
theorem LogInv.same [Val] {S S' : SState} (h : LogInv E0 S) (he : S'.ents = S.ents) (hl : S'.log = S.log) : LogInv E0 S' := fun x hx => by rw [he]; exact h x (by rw [← hl]; exact hx)
theorem LogInv.upd [Val] {S S' : SState} (h : LogInv E0 S) {k : Nat} {o : SObj} (he : S'.ents = upd S.ents k o) (hl : S'.log = k :: S.log) : LogInv E0 S' := fun x hx => by
  rw [hl, List.mem_cons, not_or] at hx
  rw [he, find_upd, if_neg hx.1]
  exact h x hx.2
theorem LogInv.app [Val] {S S' : SState} (h : LogInv E0 S) {us : List Upd} (he : S'.ents = appUs us S.ents) (hl : S'.log = logUs us S.log) : LogInv E0 S' := fun x hx => by
  rw [hl] at hx
  obtain ⟨h1, h2⟩ := logUs_mem hx
  rw [he, find_appUs, (looks_split us (find S.ents) (find S.ents) x).2 h2]
  exact h x h1
theorem sOut_log [Val] {e : Ext} (hcon : ConLog e.con) {S : SState} (hS : LogInv E0 S) {td : List SItem} {dst : Option Tmp} : ∀ {x : OOut}, (sOut P e S td dst x).all (LogInv E0)
  | .val v us ts => hS.app rfl rfl
  | .enter f args => by
    simp only [sOut]; split
    · split
      · exact hS.same rfl rfl
      · trivial
    split
    · rename_i next' t hct
      split
      · refine Tree.all_bind (fun r hr => ?_) (hcon _ _ _ _ _ _ hct)
        intro x hx
        dsimp only at hx ⊢
        rw [List.mem_append, not_or] at hx
        rw [hr x hx.1]
        exact hS x hx.2
      · trivial
    · exact hS.same rfl rfl
  | .yield h args => by
    simp only [sOut]; split
    · split
      · exact hS.same rfl rfl
      · trivial
    · trivial
  | .dfr f c a => hS.same rfl rfl
  | .pan v => hS.same rfl rfl
  | .rcv => by
    simp only [sOut]; split
    · split
      · exact hS.same rfl rfl
      · exact hS.same rfl rfl
    · trivial
  | .split b x y => ⟨sOut_log hcon hS, sOut_log hcon hS⟩
  | .need p x => sOut_log hcon hS (x := x)
  | .stuck n => trivial
theorem sSkip_log [Val] {S : SState} (hS : LogInv E0 S) {td : List SItem} {dst : Option Tmp} : (sSkip S td dst).all (LogInv E0) := hS.same rfl rfl
theorem sDo_log [Val] {e : Ext} (hcon : ConLog e.con) {S : SState} (hS : LogInv E0 S) {td : List SItem} {o : Oper} : (sDo P e S td o).all (LogInv E0) := by
  unfold sDo
  split
  · trivial
  · split
    · exact sOut_log hcon hS
    · trivial
theorem sOp_log [Val] {e : Ext} (hcon : ConLog e.con) {S : SState} (hS : LogInv E0 S) {ops : Array Oper} {i : Nat} {rest : List Nat} {k : List SItem} : (sOp P e S ops i rest k).all (LogInv E0) := by
  unfold sOp
  split
  · exact sSkip_log hS
  · split
    · exact sDo_log hcon hS
    · exact sSkip_log hS
    · split
      · exact ⟨sDo_log hcon hS, sSkip_log hS⟩
      · exact ⟨sSkip_log hS, sDo_log hcon hS⟩
    · trivial
theorem sUnwind_log [Val] {S : SState} (hS : LogInv E0 S) : (sUnwind P S).all (LogInv E0) := by
  unfold sUnwind
  split
  · split
    · exact hS.upd rfl rfl
    · trivial
  · split
    · exact hS.same rfl rfl
    · trivial
  · split
    · trivial
    · split
      · trivial
      · split
        · exact hS.same rfl rfl
        · split
          · trivial
          · split
            · split
              · exact hS.same rfl rfl
              · trivial
            · exact hS.same rfl rfl
            · trivial
        · trivial
theorem sLeave_log [Val] {S : SState} (hS : LogInv E0 S) {jump : Option Code} {ret : Bool} : (sLeave S jump ret).all (LogInv E0) := by
  unfold sLeave
  split
  · split
    · exact hS.same rfl rfl
    · trivial
  · unfold sRoundEnd
    split
    · split
      · split
        · exact hS.upd rfl rfl
        · trivial
      · trivial
    · trivial
theorem sRangeFunc_log [Val] {S : SState} (hS : LogInv E0 S) {f : Operand} {params : Array Tmp} {a b : Code} {k : List SItem} : (sRangeFunc P S f params a b k).all (LogInv E0) := by
  unfold sRangeFunc
  split
  · split
    · split
      · intro x hx
        dsimp only at hx ⊢
        rw [List.mem_cons, List.mem_cons, not_or, not_or] at hx
        rw [find_cons, find_cons, if_neg hx.1, if_neg hx.2.1]
        exact hS x hx.2.2
      · split
        · intro x hx
          dsimp only at hx ⊢
          rw [List.mem_cons, not_or] at hx
          rw [find_cons, if_neg hx.1]
          exact hS x hx.2
        · trivial
    · trivial
  · trivial
theorem sCode_log [Val] {dr : Ext} (hdr : ExtLog dr) {S : SState} (hS : LogInv E0 S) {c : Code} {k : List SItem} : (sCode P dr S c k).all (LogInv E0) := by
  cases c <;> simp only [sCode]
  case skip => exact hS.same rfl rfl
  case label => exact hS.same rfl rfl
  case seq => exact hS.same rfl rfl
  case block => exact hS.same rfl rfl
  case loop => exact hS.same rfl rfl
  case scope => exact hS.same rfl rfl
  case cond =>
    split
    · exact hS.same rfl rfl
    · exact hS.same rfl rfl
    · split
      · exact hS.same rfl rfl
      · exact ⟨hS.same rfl rfl, hS.same rfl rfl⟩
    · trivial
  case exit =>
    split
    · exact hS.same rfl rfl
    · exact sLeave_log hS
  case goto =>
    split
    · exact hS.same rfl rfl
    · exact sLeave_log hS
  case ret => exact sLeave_log hS
  case region id ops draw =>
    split
    · exact hS.same rfl rfl
    · have key : ∀ (n : Nat) (as' : List (Bm × Bool)), (drTree dr S ops k n as').all (LogInv E0) := by
        intro n
        induction n with
        | zero => exact fun _ => trivial
        | succ n ih =>
          intro as'
          unfold drTree
          split
          · rename_i h
            refine needAll_all ?_
            intro x hx
            obtain ⟨h1, h2⟩ := hdr.1 _ _ _ _ _ _ _ _ _ _ _ _ _ h x hx
            dsimp only
            rw [h2]
            exact hS x h1
          · split
            · exact ⟨ih _, ih _⟩
            · trivial
      exact key 60 []
  case rangeFunc => exact sRangeFunc_log hS
  case refuse => trivial
theorem sstep_log [Val] {dr : Ext} (hdr : ExtLog dr) {S : SState} (hS : LogInv E0 S) : (sstep P dr S).all (LogInv E0) := by
  unfold sstep
  split
  · split
    · exact sLeave_log hS
    · rename_i it k
      unfold sItem
      split
      · exact sCode_log hdr hS
      · exact hS.same rfl rfl
      · exact hS.same rfl rfl
      · exact hS.same rfl rfl
      · split
        · exact hS.same rfl rfl
        · exact sOp_log hdr.2 hS
      · trivial
      · split
        · split
          · trivial
          · exact hS.upd rfl rfl
        · trivial
      · split
        · split
          · split
            · exact hS.upd rfl rfl
            · trivial
          · trivial
        · trivial
  · exact sUnwind_log hS
theorem Tree.all_go {α β : Type} {Q : α → Prop} {Q' : β → Prop} {f : Facts → α → Tree β} (hf : ∀ fs a, Q a → (f fs a).all Q') : ∀ {t : Tree α} {fs : Facts}, t.all Q → (Tree.go fs f t).all Q'
  | .leaf a, fs, h => hf fs a h
  | .split _ x y, fs, h => by
    simp only [Tree.go]; split
    · exact Tree.all_go hf h.1
    · exact Tree.all_go hf h.2
    · exact ⟨Tree.all_go hf h.1, Tree.all_go hf h.2⟩
  | .need _ x, fs, h => by
    have h : x.all Q := h
    simp only [Tree.go]; split
    · exact Tree.all_go hf h
    · trivial
    · exact Tree.all_go (t := x) hf h
  | .stuck _, _, _ => trivial
theorem srun_log [Val] {dr : Ext} (hdr : ExtLog dr) : ∀ {n : Nat} {fs : Facts} {S : SState}, LogInv E0 S → (srun P dr n fs S).all (LogInv E0)
  | 0, _, _, _ => trivial
  | n + 1, fs, S, hS => by
    unfold srun
    split
    · exact hS
    · exact Tree.all_go (Q := LogInv E0) (fun fs a ha => srun_log hdr ha) (sstep_log hdr hS)
end
def Tree.oneWay {α : Type} : Tree α → Option (List Bm × α)
  | .leaf a => some ([], a)
  | .need p x => match x.oneWay with
    | some (l, a) => some (p :: l, a)
    | none => none
  | _ => none
theorem Tree.oneWay_sat [Val] {α : Type} {Q : α → Prop} : ∀ {t : Tree α} {l : List Bm} {a : α}, t.oneWay = some (l, a) → (∀ p ∈ l, p.v = true) → Q a → t.sat Q
  | .leaf x, l, a, h, _, hq => by cases h; exact hq
  | .need p x, l, a, h, hl, hq => by
    unfold Tree.oneWay at h
    split at h <;> cases h
    rename_i l' hx
    exact ⟨hl p (by simp), Tree.oneWay_sat hx (fun q hq => hl q (List.mem_cons_of_mem _ hq)) hq⟩
  | .split _ _ _, _, _, h, _, _ => by cases h
  | .stuck _, _, _, h, _, _ => by cases h
theorem Tree.oneWay_all [Val] {α : Type} {Q : α → Prop} : ∀ {t : Tree α} {l : List Bm} {a : α}, t.oneWay = some (l, a) → t.all Q → Q a
  | .leaf x, l, a, h, hq => by cases h; exact hq
  | .need p x, l, a, h, hq => by
    unfold Tree.oneWay at h
    split at h <;> cases h
    rename_i l' hx
    exact Tree.oneWay_all hx hq
  | .split _ _ _, _, _, h, _ => by cases h
  | .stuck _, _, _, h, _ => by cases h
def Tree.askFirst {α : Type} : Tree α → Option Bm
  | .split b _ _ => some b
  | .need _ x => x.askFirst
  | _ => none
def soAll : List (Bm × Bool) → List Bm
  | [] => []
  | p :: l => isSo p.1 p.2 :: soAll l
def fsAll : List (Bm × Bool) → Facts
  | [] => []
  | p :: l => addF (fsAll l) p.1 p.2
theorem fsAll_ok [Val] : ∀ {l : List (Bm × Bool)}, (∀ p ∈ soAll l, p.v = true) → FactsOk (fsAll l)
  | [], _ => fun p hp => by cases hp
  | (b, t) :: l, h => by
    refine addF_ok (fsAll_ok fun p hp => h p (List.mem_cons_of_mem _ hp)) ?_
    have := h _ (List.mem_cons_self ..)
    cases t with
    | true => exact this
    | false =>
      have this : (!b.v) = true := this
      simpa using this
def leafT {α : Type} (_ : Facts) (a : α) : Tree α := .leaf a
def runCallee (P : Program) (dr : Ext) (fuel chunk : Nat) : Callee := fun as' f args ents next hi =>
  match dr.con f args ents next with
  | some (next', t) => match Tree.oneWay (Tree.go (fsAll as') leafT t) with
    | some (ps, r) => match Nat.ble next' hi with
      | true => some (soAll as' ++ ps, r.val, r.ents, next', r.log)
      | false => none
    | none => none
  | none => match Nat.ble (next + chunk) hi, fnOf P f with
    | true, some i => match Tree.oneWay (srun P dr fuel (fsAll as') (sStart i f args ents next (next + chunk))) with
      | some (ps, S) => match sValue P f S, Nat.ble S.next (next + chunk) with
        | some v, true => some (soAll as' ++ ps, v, S.ents, next + chunk, S.log)
        | _, _ => none
      | _ => none
    | _, _ => none
def askCallee (P : Program) (dr : Ext) (fuel chunk : Nat) : CalAsk := fun as' f args ents next hi =>
  match dr.con f args ents next with
  | some (_, t) => Tree.askFirst (Tree.go (fsAll as') leafT t)
  | none => match fnOf P f with
    | some i => Tree.askFirst (srun P dr fuel (fsAll as') (sStart i f args ents next (next + chunk)))
    | none => none
theorem runCallee_ok [Val] {P : Program} (hok : FnOk P) {dr : Ext} (hdr : ExtOk P dr) (hlog : ExtLog dr) (fuel chunk : Nat) : CalleeOk P (runCallee P dr fuel chunk) := by
  intro as' f args ents next hi ps v ents' next' log' h
  unfold runCallee at h
  split at h
  · rename_i n t hct
    split at h <;> try (cases h; done)
    rename_i ps' r hone
    split at h <;> cases h
    have hle := Nat.le_of_ble_eq_true (by assumption)
    obtain ⟨c1, c2⟩ := hdr.con _ _ _ _ _ _ hct
    refine ⟨by omega, hle, ?_, fun hps => ?_⟩
    · have hall := hlog.2 _ _ _ _ _ _ hct
      have : (Tree.go (fsAll as') leafT t).all fun r => ∀ h, h ∉ r.log → find r.ents h = find ents h := Tree.all_go (f := leafT) (fun fs a ha => ha) hall
      exact Tree.oneWay_all hone this
    · intro vs w ρ X w0 F ha hd hF
      have hfs := fsAll_ok fun p hp => hps p (List.mem_append_left _ hp)
      have hsat : (Tree.go (fsAll as') leafT t).sat fun x => x = r := Tree.oneWay_sat hone (fun p hp => hps p (List.mem_append_right _ hp)) rfl
      have hsat2 := Tree.sat_go hfs hsat
      have hsat3 : t.sat fun x => x = r := Tree.sat_mono (fun a ⟨fs', _, h⟩ => h) hsat2
      refine (c2 _ hsat3 vs w ρ X w0 F ha hd hF).mono ?_
      rintro e w' ⟨ρ', x, r', rfl, rfl, g1, g2, g3⟩
      exact ⟨ρ', x, rfl, g1, g2, g3⟩
  split at h <;> try (cases h; done)
  rename_i i hb hi'
  have hb := Nat.le_of_ble_eq_true hb
  split at h <;> try (cases h; done)
  rename_i ps' S hS
  split at h <;> try (cases h; done)
  rename_i v' hv hle
  cases h
  have hle := Nat.le_of_ble_eq_true hle
  refine ⟨by omega, hb, fun x hx => ?_, fun hps => ?_⟩
  · have := srun_log (P := P) (E0 := find ents) hlog (n := fuel) (fs := fsAll as') (S := sStart i f args ents next (next + chunk)) (fun x _ => rfl)
    exact Tree.oneWay_all hS this x hx
  · intro vs w ρ X w0 F ha hd hF
    have hfs := fsAll_ok fun p hp => hps p (List.mem_append_left _ hp)
    refine calls_of_runF (F := F) (lo := next) hok hdr hfs (n := fuel) hi' ha (hd.fresh_mono fun j hj => hj.1) ⟨Nat.le_refl _, hF⟩ ?_
    refine Tree.oneWay_sat hS (fun p hp => hps p (List.mem_append_right _ hp)) ?_
    refine ⟨v, hv, fun ρ' x w' h1 h2 h3 => ⟨ρ', x, rfl, h1, h2, h3.fresh_mono fun j hj => ⟨hj.1, ?_⟩⟩⟩
    have := hj.2
    omega
def noCal : Callee := fun _ _ _ _ _ _ => none
theorem noCal_ok [Val] (P : Program) : CalleeOk P noCal := fun _ _ _ _ _ _ _ _ _ _ _ h => by cases h
def noAsk : CalAsk := fun _ _ _ _ _ _ => none
def drawN (P : Program) (con : Con) (xt : FuncId → List SV → Option SV) (ax : Ax) (fuel : Nat) : Nat → Dr × Ask
  | 0 => (sDraw P ax noCal, sAsk P ax noCal noAsk)
  | n + 1 => (sDraw P ax (runCallee P ⟨(drawN P con xt ax fuel n).1, (drawN P con xt ax fuel n).2, con, xt, ax⟩ fuel (2 ^ (16 * (n + 1)))),
    sAsk P ax (runCallee P ⟨(drawN P con xt ax fuel n).1, (drawN P con xt ax fuel n).2, con, xt, ax⟩ fuel (2 ^ (16 * (n + 1)))) (askCallee P ⟨(drawN P con xt ax fuel n).1, (drawN P con xt ax fuel n).2, con, xt, ax⟩ fuel (2 ^ (16 * (n + 1)))))
theorem drawN_ok [Val] {P : Program} (hok : FnOk P) (hm : P.follows .mixedOrders = true) {con : Con} (hcon : ConOk P con) (hcl : ConLog con) {xt : FuncId → List SV → Option SV} (hxt : XtOk P xt) {ax : Ax} (hax : AxOk P ax) (hs : AxSafe ax) (fuel : Nat) : ∀ n, DrOk P (drawN P con xt ax fuel n).1 ∧ DrLog (drawN P con xt ax fuel n).1
  | 0 => sDraw_ok hok hm hax hs (noCal_ok P)
  | n + 1 => by
    obtain ⟨h1, h2⟩ := drawN_ok hok hm hcon hcl hxt hax hs fuel n
    exact sDraw_ok hok hm hax hs (runCallee_ok hok ⟨h1, hcon, hxt, hax, hs⟩ ⟨h2, hcl⟩ fuel _)
def ext (P : Program) (con : Con) (xt : FuncId → List SV → Option SV) (ax : Ax) : Ext := ⟨(drawN P con xt ax 10000 4).1, (drawN P con xt ax 10000 4).2, con, xt, ax⟩
theorem ext_ok [Val] {P : Program} (hok : FnOk P) (hm : P.follows .mixedOrders = true) {con : Con} (hcon : ConOk P con) (hcl : ConLog con) {xt : FuncId → List SV → Option SV} (hxt : XtOk P xt) {ax : Ax} (hax : AxOk P ax) (hs : AxSafe ax) : ExtOk P (ext P con xt ax) := ⟨(drawN_ok hok hm hcon hcl hxt hax hs 10000 4).1, hcon, hxt, hax, hs⟩
theorem noAx_safe : AxSafe noAx := fun _ _ _ => rfl
end Go.Sx
/- The program at hand: what the symbolic runs ask of it. -/
namespace Go.Proofs.YtnoiijjkjcklpaaGreat
open Go Go.Sx
theorem fnOkB : (Tryz.prog.funcs.toList.all fun F => !F.body.isSome || !(F.name == "runtime.NumGoroutine")) = true := by kernel_rfl
theorem fnOk : FnOk Tryz.prog := fun f F hF hb => by
  have h := List.all_eq_true.1 fnOkB F (by
    rw [Array.mem_toList_iff]
    exact Array.mem_of_getElem? hF)
  rw [hb] at h
  simpa using h
end Go.Proofs.YtnoiijjkjcklpaaGreat
/- A law's call, run; contracts without memory. -/
namespace Go.Sx
set_option linter.unusedVariables false
open Go Go.RowKit Go.Cd Go.Proofs.YtnoiijjkjcklpaaGreat Go.MapKept
abbrev Pure := FuncId → List SV → Option SV
def pureCon (g : Pure) : Con := fun f args ents next => match g f args with
  | some v => some (next + 2, .leaf ⟨v, ents, []⟩)
  | none => none
def PureOk [Val] (P : Program) (g : Pure) : Prop :=
  ∀ f args v, g f args = some v → ∀ (ρ : Env) (vs : List Value) (w : World), SV.DenL ρ args vs → Calls P f vs.toArray w fun e w' => ∃ x, e = .returned x ∧ v.Den ρ x ∧ New w w'
theorem pureCon_ok [Val] {P : Program} {g : Pure} (h : PureOk P g) : ConOk P (pureCon g) := by
  intro f args ents next next' t hc
  unfold pureCon at hc
  split at hc <;> cases hc
  rename_i v hv
  refine ⟨Nat.le_refl _, fun Q hQ vs w ρ X w0 F ha hd hF => ?_⟩
  refine (h f args v hv ρ vs w ha).mono ?_
  rintro e w' ⟨x, rfl, hx, hn⟩
  exact ⟨ρ, x, _, hQ, rfl, Env.le_refl _, hx, (hd.junk hn).fresh_mono fun j hj => hj.1⟩
theorem pureCon_log (g : Pure) : ConLog (pureCon g) := by
  intro f args ents next next' t hc
  unfold pureCon at hc
  split at hc <;> cases hc
  exact fun h _ => rfl
def noPure : Pure := fun _ _ => none
theorem noPure_ok [Val] (P : Program) : PureOk P noPure := fun _ _ _ h => by cases h
def lawTreeF (P : Program) (g : Pure) (xt : FuncId → List SV → Option SV) (fs : Facts) (f : FuncId) (args : List SV) (n : Nat) : Tree SB :=
  match fnOf P f with
  | some i => (srun P (ext P (pureCon g) xt noAx) n fs (sStart i f args [] 0 (2 ^ 200))).bind fun S => match sValue P f S with
    | some (.bool b) => .leaf b
    | _ => .stuck 200
  | none => .stuck 201
def lawTree (P : Program) (g : Pure) (xt : FuncId → List SV → Option SV) (f : FuncId) (args : List SV) (n : Nat) : Tree SB := lawTreeF P g xt [] f args n
theorem law_callsF [Val] {P : Program} (hok : FnOk P) (hm : P.follows .mixedOrders = true) {g : Pure} (hg : PureOk P g) {xt : FuncId → List SV → Option SV} (hxt : XtOk P xt) {fs : Facts} (hfs : FactsOk fs) {f : FuncId} {args : List SV} {n : Nat} (h : (lawTreeF P g xt fs f args n).sat fun b => b.v = true) {vs : List Value} (hv : SV.DenL (fun _ => none) args vs) (w : World) :
    Calls P f vs.toArray w fun e w' => e = .returned (.bool true) ∧ New w w' := by
  unfold lawTreeF at h
  split at h
  · rename_i i hi
    refine calls_of_runF (X := fun _ => False) (w0 := w) (F := fun _ => True) (lo := 0) (ρ := fun _ => none) hok (ext_ok hok hm (pureCon_ok hg) (pureCon_log g) hxt (noAx_ok P) noAx_safe) hfs (n := n) hi hv ((DenH.start w _).fresh_mono fun j _ => trivial) ⟨Nat.le_refl _, fun _ _ _ => trivial⟩ (Tree.sat_mono (fun S hS => ?_) (Tree.sat_bind h))
    split at hS
    · rename_i b hb
      refine ⟨_, hb, fun ρ' v w' _ hd h => ⟨?_, new_of_den h⟩⟩
      simp only [SV.Den] at hd
      rw [hd]
      simp only [Tree.sat] at hS
      rw [hS]
    · exact hS.elim
  · exact h.elim
theorem law_calls [Val] {P : Program} (hok : FnOk P) (hm : P.follows .mixedOrders = true) {g : Pure} (hg : PureOk P g) {xt : FuncId → List SV → Option SV} (hxt : XtOk P xt) {f : FuncId} {args : List SV} {n : Nat} (h : (lawTree P g xt f args n).sat fun b => b.v = true) {vs : List Value} (hv : SV.DenL (fun _ => none) args vs) (w : World) :
    Calls P f vs.toArray w fun e w' => e = .returned (.bool true) ∧ New w w' :=
  law_callsF hok hm hg hxt (fs := []) (fun p hp => absurd hp (by simp)) h hv w
def Tree.allTrue : Tree SB → Bool
  | .leaf (.lit true) => true
  | .split _ x y => match Tree.allTrue x with
    | true => Tree.allTrue y
    | false => false
  | _ => false
theorem Tree.sat_allTrue [Val] : ∀ {t : Tree SB}, t.allTrue = true → t.sat fun b => b.v = true
  | .leaf (.lit true), _ => rfl
  | .leaf (.lit false), h => by cases h
  | .leaf (.sym _), h => by cases h
  | .split _ x y, h => by
    unfold Tree.allTrue at h
    split at h
    · rename_i hx
      exact ⟨fun _ => Tree.sat_allTrue hx, fun _ => Tree.sat_allTrue h⟩
    · cases h
  | .need _ _, h => by cases h
  | .stuck _, h => by cases h
@[reducible] def noVal : Val := ⟨fun _ => 0, fun _ => false, fun _ _ => 0, fun _ _ => false, fun _ _ _ => Abs.no, fun _ _ _ _ _ _ _ _ h => h⟩
end Go.Sx
/- Terms made simple by what tests have said; a law's run with contracts, operations of one's own, and parts of memory. -/
namespace Go.Sx
set_option linter.unusedSimpArgs false
set_option linter.unusedVariables false
open Go Go.RowKit Go.Cd Go.Proofs.YtnoiijjkjcklpaaGreat Go.MapKept
def lawRun (P : Program) (e : Ext) (f : FuncId) : Nat → Facts → SState → Tree SB
  | 0, _, _ => .stuck 110
  | n + 1, fs, S => match sDone S with
    | true => match sValue P f S with
      | some (.bool (.lit b)) => .leaf (.lit b)
      | some (.bool (.sym b)) => match knownR fs b with
        | some t => .leaf (.lit t)
        | none => .leaf (.sym b)
      | _ => .stuck 200
    | false => Tree.go fs (lawRun P e f n) (sstep P e S)
theorem lawRun_ok [Val] {P : Program} {f : FuncId} {e : Ext} : ∀ {n : Nat} {fs : Facts} {S : SState}, FactsOk fs → (lawRun P e f n fs S).sat (fun b => b.v = true) → (srun P e n fs S).sat fun S => ∃ b : SB, sValue P f S = some (.bool b) ∧ b.v = true
  | 0, _, _, _, h => h
  | n + 1, fs, S, hf, h => by
    unfold lawRun at h
    unfold srun
    split at h
    · rename_i hd
      rw [hd]
      split at h
      · rename_i b hv; exact ⟨_, hv, h⟩
      · rename_i b hv
        split at h
        · rename_i t ht
          refine ⟨_, hv, ?_⟩
          have h : t = true := h
          rw [SB.v, knownR_ok hf ht, h]
        · exact ⟨_, hv, h⟩
      · exact h.elim
    · rename_i hd
      rw [hd]
      have go : ∀ {t : Tree SState} {fs : Facts}, FactsOk fs → (Tree.go fs (lawRun P e f n) t).sat (fun b => b.v = true) → (Tree.go fs (srun P e n) t).sat fun S => ∃ b : SB, sValue P f S = some (.bool b) ∧ b.v = true := by
        intro t
        induction t with
        | leaf a => intro fs hf h; exact lawRun_ok hf h
        | split b x y ihx ihy =>
          intro fs hf h
          unfold Tree.go at h ⊢
          split at h
          · rename_i hk; exact ihx hf h
          · rename_i hk; exact ihy hf h
          · rename_i hk; exact ⟨fun hb => ihx (addF_ok hf hb) (h.1 hb), fun hb => ihy (addF_ok hf hb) (h.2 hb)⟩
        | need p x ih =>
          intro fs hf h
          unfold Tree.go at h ⊢
          split at h
          · rename_i hk; exact ih hf h
          · exact h.elim
          · rename_i hk; exact ⟨h.1, ih (addF_ok hf h.1) h.2⟩
        | stuck n => intro fs hf h; exact h.elim
      exact go hf h
def lawTreeG (P : Program) (con : Con) (xt : FuncId → List SV → Option SV) (ax : Ax) (fs : Facts) (f : FuncId) (args : List SV) (ents : Ents) (next n : Nat) : Tree SB :=
  match fnOf P f with
  | some i => lawRun P (ext P con xt ax) f n fs (sStart i f args ents next (2 ^ 200))
  | none => .stuck 201
theorem law_callsG [Val] {P : Program} (hok : FnOk P) (hm : P.follows .mixedOrders = true) {con : Con} (hcon : ConOk P con) (hcl : ConLog con) {xt : FuncId → List SV → Option SV} (hxt : XtOk P xt) {ax : Ax} (hax : AxOk P ax) (hs : AxSafe ax)
    {fs : Facts} (hfs : FactsOk fs) {f : FuncId} {args : List SV} {ents : Ents} {next n : Nat} (h : (lawTreeG P con xt ax fs f args ents next n).sat fun b => b.v = true) {ρ : Env} {vs : List Value} (hv : SV.DenL ρ args vs) {w : World}
    (hd : DenH ρ (fun _ => False) w (find ents) (Fr (fun _ => True) 0 next) w) (hnext : next ≤ 2 ^ 200) : Calls P f vs.toArray w fun e w' => e = .returned (.bool true) ∧ New w w' := by
  unfold lawTreeG at h
  split at h
  · rename_i i hi
    refine calls_of_runF (X := fun _ => False) (w0 := w) (F := fun _ => True) (lo := 0) (hi := 2 ^ 200) hok (ext_ok hok hm hcon hcl hxt hax hs) hfs (n := n) hi hv hd ⟨Nat.zero_le _, fun _ _ _ => trivial⟩ ?_
    refine Tree.sat_mono ?_ (lawRun_ok hfs h)
    rintro S ⟨b, hb, hbv⟩
    refine ⟨_, hb, fun ρ' v w' _ hv' hd' => ⟨?_, new_of_den hd'⟩⟩
    simp only [SV.Den] at hv'
    rw [hv', hbv]
  · exact h.elim
end Go.Sx
/- A law's tree whose ends hold by what its tests have said. -/
namespace Go.Sx
set_option linter.unusedSimpArgs false
open Go Go.RowKit Go.Cd Go.Proofs.YtnoiijjkjcklpaaGreat Go.MapKept
set_option linter.unusedVariables false
def Bm.nrm (fs : Facts) : Bm → Bm
  | .lop .and a b => match knownR fs a with
    | some true => b.nrm fs
    | some false => .lit false
    | none => .lop .and a b
  | .cmp o a b => (Bm.cmp o a b).red fs
  | b => b
theorem Bm.nrm_v [Val] {fs : Facts} (hf : FactsOk fs) : ∀ b : Bm, (b.nrm fs).v = b.v := by
  intro b
  fun_induction Bm.nrm fs b with
  | case1 a b h ih => rw [ih]; simp only [Bm.v, knownR_ok hf h, LOp.f]; simp
  | case2 a b h => simp only [Bm.v, knownR_ok hf h, LOp.f]; simp
  | case3 a b h => rfl
  | case4 o a b => exact Bm.red_v hf _
  | case5 => rfl
def knownE (fs : Facts) (b : Bm) : Bool := match knownR fs b with
  | some t => t
  | none => match b with
    | .cmp .eq (.ite c a b) (.ite c' a' b') => match Tm.same a a', Tm.same b b', Bm.same (c.nrm fs) (c'.nrm fs) with
      | true, true, true => true
      | _, _, _ => false
    | _ => false
theorem knownE_ok [Val] {fs : Facts} (hf : FactsOk fs) {b : Bm} (h : knownE fs b = true) : b.v = true := by
  unfold knownE at h
  split at h
  · rename_i t ht; rw [knownR_ok hf ht, h]
  · split at h
    · split at h
      · rename_i c a b c' a' b' hk _ _ _ h1 h2 h3
        have h1 := Tm.same_eq h1
        have h2 := Tm.same_eq h2
        have h3 := Bm.same_eq h3
        have hc : c.v = c'.v := by rw [← Bm.nrm_v hf c, h3, Bm.nrm_v hf c']
        subst h1 h2
        simp only [Bm.v, Tm.v, COp.f, hc]
        simp
      · cases h
    · cases h
def Tree.trueF : Facts → Tree SB → Bool
  | _, .leaf (.lit t) => t
  | fs, .leaf (.sym b) => knownE fs b
  | fs, .split b x y => match Tree.trueF (addF fs b true) x with
    | true => Tree.trueF (addF fs b false) y
    | false => false
  | _, _ => false
theorem Tree.sat_trueF [Val] : ∀ {t : Tree SB} {fs : Facts}, FactsOk fs → t.trueF fs = true → t.sat fun b => b.v = true
  | .leaf (.lit t), fs, hf, h => h
  | .leaf (.sym b), fs, hf, h => knownE_ok hf h
  | .split b x y, fs, hf, h => by
    unfold Tree.trueF at h
    split at h
    · rename_i hx
      exact ⟨fun q => Tree.sat_trueF (addF_ok hf q) hx, fun q => Tree.sat_trueF (addF_ok hf q) h⟩
    · cases h
  | .need _ _, fs, hf, h => by cases h
  | .stuck _, fs, hf, h => by cases h
theorem law_callsE [Val] {P : Program} (hok : FnOk P) (hm : P.follows .mixedOrders = true) {con : Con} (hcon : ConOk P con) (hcl : ConLog con) {xt : FuncId → List SV → Option SV} (hxt : XtOk P xt) {ax : Ax} (hax : AxOk P ax) (hs : AxSafe ax)
    {fs : Facts} (hfs : FactsOk fs) {f : FuncId} {args : List SV} {n : Nat} (h : (lawTreeG P con xt ax fs f args [] 0 n).trueF fs = true) {vs : List Value} (hv : SV.DenL (fun _ => none) args vs) (w : World) :
    Calls P f vs.toArray w fun e w' => e = .returned (.bool true) ∧ New w w' :=
  law_callsG hok hm hcon hcl hxt hax hs hfs (Tree.sat_trueF hfs h) hv ((DenH.start w fun _ => False).fresh_mono fun _ _ => trivial) (Nat.zero_le _)
end Go.Sx
/- Two functions that return the same, whatever letters stand for. -/
namespace Go.Sx
set_option linter.unusedSimpArgs false
set_option linter.unusedVariables false
open Go Go.RowKit Go.Cd Go.Proofs.YtnoiijjkjcklpaaGreat Go.MapKept
def contraC (o : COp) (r s : Rg) (t : Bool) : Bool :=
  match cmpR o r s with
  | some u => match decide (t = u) with
    | true => contraR o r s t
    | false => true
  | none => contraR o r s t
where contraR (o : COp) : Rg → Rg → Bool → Bool
  | some (a, b), some (c, d), t => match decide (b < a) with
    | true => true
    | false => match decide (d < c) with
      | true => true
      | false => match o, t with
        | .eq, false => match decide (a = b) with
          | true => match decide (c = d) with
            | true => decide (a = c)
            | false => false
          | false => false
        | _, _ => false
  | _, _, _ => false
theorem contraC_ok {o : COp} {r s : Rg} {t : Bool} {x y : Int} (hx : r.has x) (hy : s.has y) (h : o.f x y = t) : contraC o r s t = false := by
  have key : contraC.contraR o r s t = false := by
    unfold contraC.contraR
    split
    · rename_i r s t a b c d
      have h1 := hx a b rfl
      have h2 := hy c d rfl
      split
      · rename_i e; have := of_decide_eq_true e; omega
      split
      · rename_i e; have := of_decide_eq_true e; omega
      split
      · split
        · rename_i e1
          split
          · rename_i e2
            have e1 := of_decide_eq_true e1
            have e2 := of_decide_eq_true e2
            refine decide_eq_false fun e3 => ?_
            have : (x == y) = false := h
            simp only [beq_eq_false_iff_ne] at this
            exact absurd (show x = y by omega) this
          · rfl
        · rfl
      · rfl
    · rfl
  unfold contraC
  split
  · rename_i u hu
    have h1 := cmpR_ok hu hx hy
    split
    · exact key
    · rename_i e; exact absurd (h.symm.trans h1) (of_decide_eq_false e)
  · exact key
theorem i64_wrap_cases (n : Int) : IntKind.i64.wrap n = if n % 18446744073709551616 ≤ 9223372036854775807 then n % 18446744073709551616 else n % 18446744073709551616 - 18446744073709551616 := by
  simp only [IntKind.wrap, IntKind.bits, IntKind.signed]
  simp
  split <;> split <;> omega
def contraA (all : Facts) : Tm → Bool
  | .op (.add .i64) t (.lit c) => match rngB all (.op (.add .i64) t (.lit c)), rngB all t with
    | some (l, h), some (l', h') => match decide (0 ≤ l), decide (0 ≤ c), decide (c ≤ 4611686018427387904), decide (-9223372036854775808 ≤ l'), decide (h' ≤ 9223372036854775807) with
      | true, true, true, true, true => match decide (h - c < l') with
        | true => true
        | false => decide (h' < l - c)
      | _, _, _, _, _ => false
    | _, _ => false
  | _ => false
theorem contraA_ok [Val] {all : Facts} (ha : FactsOk all) (t : Tm) : contraA all t = false := by
  unfold contraA
  split
  · rename_i t c
    split
    · rename_i l h l' h' e1 e2
      obtain ⟨p1, p2⟩ := rngB_has ha _ _ _ e1
      obtain ⟨p3, p4⟩ := rngB_has ha _ _ _ e2
      have p1 : l ≤ IntKind.i64.wrap (t.v + c) := p1
      have p2 : IntKind.i64.wrap (t.v + c) ≤ h := p2
      split
      · rename_i q1 q2 q3 q4 q5
        have q1 := of_decide_eq_true q1
        have q2 := of_decide_eq_true q2
        have q3 := of_decide_eq_true q3
        have q4 := of_decide_eq_true q4
        have q5 := of_decide_eq_true q5
        have key : IntKind.i64.wrap (t.v + c) = t.v + c ∨ IntKind.i64.wrap (t.v + c) = t.v + c - 18446744073709551616 := by
          rw [i64_wrap_cases]
          omega
        split
        · rename_i e; have := of_decide_eq_true e; omega
        · exact decide_eq_false (by omega)
      · rfl
    · rfl
  · rfl
def sharp (all : Facts) (t : Tm) : Nat → Int → Int → Bool
  | 0, _, _ => false
  | n + 1, l, h => match decide (h < l) with
    | true => true
    | false => match lookF all (.cmp .eq t (.lit l)) with
      | some false => sharp all t n (l + 1) h
      | _ => match lookF all (.cmp .eq t (.lit h)) with
        | some false => sharp all t n l (h - 1)
        | _ => false
theorem sharp_ok [Val] {all : Facts} (ha : FactsOk all) {t : Tm} : ∀ (n : Nat) {l h : Int}, l ≤ t.v → t.v ≤ h → sharp all t n l h = false
  | 0, _, _, _, _ => rfl
  | n + 1, l, h, h1, h2 => by
    have ne : ∀ k : Int, lookF all (.cmp .eq t (.lit k)) = some false → t.v ≠ k := fun k e q => by
      have := lookF_ok ha e
      simp only [Bm.v, COp.f, Tm.v] at this
      rw [q] at this
      simp at this
    unfold sharp
    split
    · rename_i e; have := of_decide_eq_true e; omega
    · split
      · rename_i e
        have := ne l e
        exact sharp_ok ha n (by omega) h2
      · split
        · rename_i e
          have := ne h e
          exact sharp_ok ha n h1 (by omega)
        · rfl
def contraE (all : Facts) (t : Tm) : Bool := match rngB all t with
  | some (l, h) => sharp all t 40 l h
  | none => false
theorem contraE_ok [Val] {all : Facts} (ha : FactsOk all) (t : Tm) : contraE all t = false := by
  unfold contraE
  split
  · rename_i l h e
    obtain ⟨h1, h2⟩ := rngB_has ha _ _ _ e
    exact sharp_ok ha 40 h1 h2
  · rfl
def contra1 (all : Facts) (b : Bm) (t : Bool) : Bool := match b with
  | .cmp o a c => match contraC o (rngF all a) (rngF all c) t with
    | true => true
    | false => match contraA all a with
      | true => true
      | false => contraE all a
  | b => match knownR all b with
    | some u => match decide (t = u) with
      | true => false
      | false => true
    | none => false
theorem contra1_ok [Val] {all : Facts} (ha : FactsOk all) {b : Bm} {t : Bool} (h : b.v = t) : contra1 all b t = false := by
  unfold contra1
  split
  · rw [contraC_ok (rngF_has ha _) (rngF_has ha _) h, contraA_ok ha]
    exact contraE_ok ha _
  · split
    · rename_i u hu
      have h1 := knownR_ok ha hu
      split
      · rfl
      · rename_i e; exact absurd (h.symm.trans h1) (of_decide_eq_false e)
    · rfl
def contraF (all : Facts) : Facts → Bool
  | [] => false
  | (b, t) :: fs => match contra1 all b t with
    | true => true
    | false => contraF all fs
theorem contraF_ok [Val] {all : Facts} (ha : FactsOk all) : ∀ {fs : Facts}, FactsOk fs → contraF all fs = false := by
  intro fs hf
  induction fs with
  | nil => rfl
  | cons p fs ih =>
    unfold contraF
    rw [contra1_ok ha (hf p (by simp))]
    exact ih fun q hq => hf q (List.mem_cons_of_mem _ hq)
def contraO (k : Facts → Bool) (all : Facts) : Facts → Bool
  | [] => false
  | (.lop .or a b, true) :: fs => match k (addF all a true) with
    | true => match k (addF all b true) with
      | true => true
      | false => contraO k all fs
    | false => contraO k all fs
  | (.lop .and a b, false) :: fs => match k (addF all a false) with
    | true => match k (addF all b false) with
      | true => true
      | false => contraO k all fs
    | false => contraO k all fs
  | _ :: fs => contraO k all fs
theorem contraO_ok [Val] {k : Facts → Bool} (hk : ∀ fs, FactsOk fs → k fs = false) {all : Facts} (ha : FactsOk all) : ∀ {fs : Facts}, FactsOk fs → contraO k all fs = false := by
  intro fs hf
  fun_induction contraO k all fs with
  | case1 => rfl
  | case2 a b fs h1 h2 =>
    have h : (a.v || b.v) = true := hf (.lop .or a b, true) (by simp)
    rcases Bool.or_eq_true _ _ ▸ h with h | h
    · rw [hk _ (addF_ok ha h)] at h1; cases h1
    · rw [hk _ (addF_ok ha h)] at h2; cases h2
  | case5 a b fs h1 h2 =>
    have h : (a.v && b.v) = false := hf (.lop .and a b, false) (by simp)
    rcases Bool.and_eq_false_iff.1 h with h | h
    · rw [hk _ (addF_ok ha h)] at h1; cases h1
    · rw [hk _ (addF_ok ha h)] at h2; cases h2
  | _ => rename_i ih; exact ih fun q hq => hf q (List.mem_cons_of_mem _ hq)
def contraD : Nat → Facts → Bool
  | 0, all => contraF all all
  | d + 1, all => match contraF all all with
    | true => true
    | false => contraO (contraD d) all all
theorem contraD_ok [Val] : ∀ (d : Nat) {fs : Facts}, FactsOk fs → contraD d fs = false
  | 0, fs, h => contraF_ok h h
  | d + 1, fs, h => by
    unfold contraD
    rw [contraF_ok h h]
    exact contraO_ok (fun _ hf => contraD_ok d hf) h h
def goD {α β : Type} (dead : Tree β) (fs : Facts) (f : Facts → α → Tree β) : Tree α → Tree β
  | .leaf a => f fs a
  | .split b x y => match knownR fs b with
    | some true => goD dead fs f x
    | some false => goD dead fs f y
    | none => .split b (goD dead (addF fs b true) f x) (goD dead (addF fs b false) f y)
  | .need p x => match knownR fs p with
    | some true => goD dead fs f x
    | some false => match contraD 2 fs with
      | true => dead
      | false => .stuck 111
    | none => match contraD 2 (addF fs p false) with
      | true => goD dead (addF fs p true) f x
      | false => .need p (goD dead (addF fs p true) f x)
  | .stuck n => match contraD 2 fs with
    | true => dead
    | false => .stuck n
def endRun {α : Type} (P : Program) (e : Ext) (f : FuncId) (dead : Tree α) (k : Facts → SV → Tree α) : Nat → Facts → SState → Tree α
  | 0, _, _ => .stuck 110
  | n + 1, fs, S => match sDone S with
    | true => match sValue P f S with
      | some v => k fs v
      | none => .stuck 200
    | false => goD dead fs (endRun P e f dead k n) (sstep P e S)
theorem need_false [Val] {fs : Facts} (hf : FactsOk fs) {p : Bm} (h : contraD 2 (addF fs p false) = true) : p.v = true := by
  cases hp : p.v with
  | true => rfl
  | false => rw [contraD_ok 2 (addF_ok hf hp)] at h; cases h
theorem endRun_ok [Val] {α : Type} {Q : α → Prop} {P : Program} {f : FuncId} {e : Ext} {dead : Tree α} {k : Facts → SV → Tree α} : ∀ {n : Nat} {fs : Facts} {S : SState}, FactsOk fs → (endRun P e f dead k n fs S).sat Q → (srun P e n fs S).sat fun S => ∃ v fs', sValue P f S = some v ∧ FactsOk fs' ∧ (k fs' v).sat Q
  | 0, _, _, _, h => h
  | n + 1, fs, S, hf, h => by
    unfold endRun at h
    unfold srun
    split at h
    · rename_i hd
      rw [hd]
      split at h
      · rename_i v hv
        exact ⟨v, fs, hv, hf, h⟩
      · exact h.elim
    · rename_i hd
      rw [hd]
      have no : ∀ {fs : Facts}, FactsOk fs → contraD 2 fs = true → False := fun hf h => by rw [contraD_ok 2 hf] at h; cases h
      have go : ∀ {t : Tree SState} {fs : Facts}, FactsOk fs → (goD dead fs (endRun P e f dead k n) t).sat Q → (Tree.go fs (srun P e n) t).sat fun S => ∃ v fs', sValue P f S = some v ∧ FactsOk fs' ∧ (k fs' v).sat Q := by
        intro t
        induction t with
        | leaf a => intro fs hf h; exact endRun_ok hf h
        | split b x y ihx ihy =>
          intro fs hf h
          unfold goD at h
          unfold Tree.go
          split at h
          · rename_i hk; rw [hk]; exact ihx hf h
          · rename_i hk; rw [hk]; exact ihy hf h
          · rename_i hk; rw [hk]; exact ⟨fun hb => ihx (addF_ok hf hb) (h.1 hb), fun hb => ihy (addF_ok hf hb) (h.2 hb)⟩
        | need p x ih =>
          intro fs hf h
          unfold goD at h
          unfold Tree.go
          split at h
          · rename_i hk; rw [hk]; exact ih hf h
          · split at h
            · rename_i hc; exact (no hf hc).elim
            · exact h.elim
          · rename_i hk
            rw [hk]
            split at h
            · rename_i hc
              have hp := need_false hf hc
              exact ⟨hp, ih (addF_ok hf hp) h⟩
            · exact ⟨h.1, ih (addF_ok hf h.1) h.2⟩
        | stuck n =>
          intro fs hf h
          unfold goD at h
          split at h
          · rename_i hc; exact (no hf hc).elim
          · exact h.elim
      exact go hf h
theorem Tree.sat_leaf [Val] {α : Type} {Q : α → Prop} : ∀ {t : Tree α}, t.sat Q → ∃ a, Q a ∧ t.sat fun x => x = a
  | .leaf a, h => ⟨a, h, rfl⟩
  | .split b x y, h => by
    cases hb : b.v with
    | true =>
      obtain ⟨a, h1, h2⟩ := Tree.sat_leaf (h.1 hb)
      exact ⟨a, h1, fun _ => h2, fun q => by rw [hb] at q; cases q⟩
    | false =>
      obtain ⟨a, h1, h2⟩ := Tree.sat_leaf (h.2 hb)
      exact ⟨a, h1, fun q => (by rw [hb] at q; cases q), fun _ => h2⟩
  | .need p x, h => by
    obtain ⟨a, h1, h2⟩ := Tree.sat_leaf h.2
    exact ⟨a, h1, h.1, h2⟩
  | .stuck _, h => h.elim
mutual
def SV.scal : SV → Bool
  | .bool _ => true
  | .int _ _ => true
  | .nilp => true
  | .agg l => SV.scalL l
  | .tup l => SV.scalL l
  | _ => false
def SV.scalL : List SV → Bool
  | [] => true
  | s :: l => match s.scal with
    | true => SV.scalL l
    | false => false
end
mutual
theorem SV.scal_den [Val] : ∀ {s : SV}, s.scal = true → ∃ v, ∀ ρ x, s.Den ρ x ↔ x = v
  | .bool b, _ => ⟨.bool b.v, fun ρ x => by simp [SV.Den]⟩
  | .int k n, _ => ⟨.int k n.v, fun ρ x => by simp [SV.Den]⟩
  | .nilp, _ => ⟨.pointer none, fun ρ x => by simp [SV.Den]⟩
  | .agg l, h => by
    obtain ⟨vs, hvs⟩ := SV.scalL_den (l := l) (by simpa [SV.scal] using h)
    exact ⟨.agg vs.toArray, fun ρ x => by simp [SV.Den, hvs]⟩
  | .tup l, h => by
    obtain ⟨vs, hvs⟩ := SV.scalL_den (l := l) (by simpa [SV.scal] using h)
    exact ⟨.tuple vs.toArray, fun ρ x => by simp [SV.Den, hvs]⟩
  | .any, h | .str _, h | .ptr _ _, h | .nils, h | .sl _ _ _ _, h | .nilm, h | .map _, h | .nilf, h | .fn _ _ _, h | .nili, h | .iface _ _, h | .nat _, h | .slp _ _, h | .stp _ _, h => by simp [SV.scal] at h
theorem SV.scalL_den [Val] : ∀ {l : List SV}, SV.scalL l = true → ∃ vs, ∀ ρ xs, SV.DenL ρ l xs ↔ xs = vs
  | [], _ => ⟨[], fun ρ xs => by simp [SV.DenL]⟩
  | s :: l, h => by
    unfold SV.scalL at h
    split at h
    · rename_i hs
      obtain ⟨v, hv⟩ := SV.scal_den hs
      obtain ⟨vs, hvs⟩ := SV.scalL_den h
      exact ⟨v :: vs, fun ρ xs => by simp [SV.DenL, hv, hvs]⟩
    · cases h
end
def SB.alike (fs : Facts) (a b : SB) : Bool := match knownR fs a.bm, knownR fs b.bm with
  | some x, some y => decide (x = y)
  | _, _ => Bm.same (a.bm.nrm fs) (b.bm.nrm fs)
theorem SB.alike_ok [Val] {fs : Facts} (hf : FactsOk fs) {a b : SB} (h : SB.alike fs a b = true) : a.v = b.v := by
  unfold SB.alike at h
  rw [← SB.bm_v a, ← SB.bm_v b]
  split at h
  · rename_i x y hx hy
    rw [knownR_ok hf hx, knownR_ok hf hy]
    exact of_decide_eq_true h
  · have := Bm.same_eq h
    rw [← Bm.nrm_v hf a.bm, this, Bm.nrm_v hf b.bm]
def SI.alike (fs : Facts) (a b : SI) : Bool := match SI.cmp .eq a b with
  | .lit t => t
  | .sym b => knownE fs b
theorem SI.alike_ok [Val] {fs : Facts} (hf : FactsOk fs) {a b : SI} (h : SI.alike fs a b = true) : a.v = b.v := by
  have key : (SI.cmp .eq a b).v = true := by
    unfold SI.alike at h
    split at h
    · rename_i t ht; rw [ht, h]; rfl
    · rename_i c hc; rw [hc]; exact knownE_ok hf h
  rw [SI.cmp_v] at key
  exact of_decide_eq_true key
mutual
def SV.alike (fs : Facts) : SV → SV → Bool
  | .bool a, .bool b => SB.alike fs a b
  | .int k a, .int k' b => match decide (k = k') with
    | true => SI.alike fs a b
    | false => false
  | .nilp, .nilp => true
  | .agg l, .agg m => SV.alikeL fs l m
  | .tup l, .tup m => SV.alikeL fs l m
  | _, _ => false
def SV.alikeL (fs : Facts) : List SV → List SV → Bool
  | [], [] => true
  | s :: l, t :: m => match SV.alike fs s t with
    | true => SV.alikeL fs l m
    | false => false
  | _, _ => false
end
mutual
theorem SV.alike_ok [Val] {fs : Facts} (hf : FactsOk fs) {ρ ρ' : Env} : ∀ {s t : SV} {x : Value}, SV.alike fs s t = true → t.Den ρ x → s.Den ρ' x
  | .bool a, .bool b, x, h, hx => by
    simp only [SV.alike] at h
    simp only [SV.Den] at hx ⊢
    rw [hx, SB.alike_ok hf h]
  | .int k a, .int k' b, x, h, hx => by
    simp only [SV.alike] at h
    split at h
    · rename_i hk
      have hk := of_decide_eq_true hk
      subst hk
      simp only [SV.Den] at hx ⊢
      rw [hx, SI.alike_ok hf h]
    · cases h
  | .nilp, .nilp, x, h, hx => by simpa [SV.Den] using hx
  | .agg l, .agg m, x, h, hx => by
    simp only [SV.alike] at h
    simp only [SV.Den] at hx ⊢
    obtain ⟨vs, h1, h2⟩ := hx
    exact ⟨vs, SV.alikeL_ok hf h h1, h2⟩
  | .tup l, .tup m, x, h, hx => by
    simp only [SV.alike] at h
    simp only [SV.Den] at hx ⊢
    obtain ⟨vs, h1, h2⟩ := hx
    exact ⟨vs, SV.alikeL_ok hf h h1, h2⟩
theorem SV.alikeL_ok [Val] {fs : Facts} (hf : FactsOk fs) {ρ ρ' : Env} : ∀ {l m : List SV} {xs : List Value}, SV.alikeL fs l m = true → SV.DenL ρ m xs → SV.DenL ρ' l xs
  | [], [], xs, h, hx => by simpa [SV.DenL] using hx
  | s :: l, t :: m, xs, h, hx => by
    simp only [SV.alikeL] at h
    split at h
    · rename_i hs
      obtain ⟨v, vs, rfl, h1, h2⟩ := denL_cons.1 hx
      exact denL_cons'.2 ⟨SV.alike_ok hf hs h1, SV.alikeL_ok hf h h2⟩
    · cases h
end
def Tree.okT : Tree Unit → Bool
  | .leaf _ => true
  | .split _ x y => match x.okT with
    | true => y.okT
    | false => false
  | _ => false
theorem Tree.okT_sat [Val] : ∀ {t : Tree Unit}, t.okT = true → t.sat fun _ => True
  | .leaf _, _ => trivial
  | .split _ x y, h => by
    unfold Tree.okT at h
    split at h
    · rename_i hx; exact ⟨fun _ => Tree.okT_sat hx, fun _ => Tree.okT_sat h⟩
    · cases h
  | .need _ _, h => by cases h
  | .stuck _, h => by cases h
def pairTree (P : Program) (e1 e2 : Ext) (f g : FuncId) (args1 args2 : List SV) (ents1 ents2 : Ents) (next1 next2 n : Nat) (fs : Facts) : Tree Unit :=
  match fnOf P f, fnOf P g with
  | some i, some j => endRun P e1 f (.leaf ()) (fun fs v => match v.scal with
      | true => endRun P e2 g (.leaf ()) (fun fs v' => match SV.alike fs v v' with
        | true => .leaf ()
        | false => match contraD 2 fs with
          | true => .leaf ()
          | false => .stuck 301) n fs (sStart j g args2 ents2 next2 (2 ^ 200))
      | false => .stuck 302) n fs (sStart i f args1 ents1 next1 (2 ^ 200))
  | _, _ => .stuck 303
theorem pair_calls [Val] {P : Program} (hok : FnOk P) {e1 e2 : Ext} (he1 : ExtOk P e1) (he2 : ExtOk P e2) {f g : FuncId} {args1 args2 : List SV} {ents1 ents2 : Ents} {next1 next2 n : Nat} {fs : Facts} (hfs : FactsOk fs) (h1 : next1 ≤ 2 ^ 200) (h2 : next2 ≤ 2 ^ 200)
    (h : (pairTree P e1 e2 f g args1 args2 ents1 ents2 next1 next2 n fs).okT = true) :
    ∃ v, (∀ ρ vs w, SV.DenL ρ args1 vs → DenH ρ (fun _ => False) w (find ents1) (Fr (fun _ => True) 0 next1) w → Calls P f vs.toArray w fun e w' => e = .returned v ∧ New w w') ∧
      ∀ ρ vs w, SV.DenL ρ args2 vs → DenH ρ (fun _ => False) w (find ents2) (Fr (fun _ => True) 0 next2) w → Calls P g vs.toArray w fun e w' => e = .returned v ∧ New w w' := by
  have h := Tree.okT_sat h
  unfold pairTree at h
  split at h
  · rename_i i j hi hj
    obtain ⟨S0, ⟨v, fs', hv, hf', hk⟩, hS0⟩ := Tree.sat_leaf (endRun_ok hfs h)
    split at hk
    · rename_i hs
      obtain ⟨x, hx⟩ := SV.scal_den hs
      refine ⟨x, fun ρ vs w ha hd => ?_, fun ρ vs w ha hd => ?_⟩
      · refine calls_of_runF (X := fun _ => False) (w0 := w) (F := fun _ => True) (lo := 0) (hi := 2 ^ 200) hok he1 hfs (n := n) hi ha hd ⟨Nat.zero_le _, fun _ _ _ => trivial⟩ (Tree.sat_mono ?_ hS0)
        rintro S rfl
        exact ⟨v, hv, fun ρ' y w' _ hy hd' => ⟨by rw [(hx _ _).1 hy], new_of_den hd'⟩⟩
      · refine calls_of_runF (X := fun _ => False) (w0 := w) (F := fun _ => True) (lo := 0) (hi := 2 ^ 200) hok he2 hf' (n := n) hj ha hd ⟨Nat.zero_le _, fun _ _ _ => trivial⟩ (Tree.sat_mono ?_ (endRun_ok hf' hk))
        rintro S ⟨v', fs2, hv', hf2, hk2⟩
        split at hk2
        · rename_i hal
          exact ⟨v', hv', fun ρ' y w' _ hy hd' => ⟨by rw [(hx ρ' y).1 (SV.alike_ok hf2 hal hy)], new_of_den hd'⟩⟩
        · rw [contraD_ok 2 hf2] at hk2
          exact hk2.elim
    · exact hk.elim
  · exact h.elim
end Go.Sx
/- Two functions that return the same, of a shape. -/
namespace Go.Sx
set_option linter.unusedSimpArgs false
set_option linter.unusedVariables false
open Go Go.RowKit Go.Cd Go.Proofs.YtnoiijjkjcklpaaGreat Go.MapKept
inductive ShE where
  | one (k : IntKind)
  | many (ks : List IntKind)
def kSV : List IntKind → Nat → List SV
  | [], _ => []
  | k :: ks, b => .int k (.sym (.fn k b .nil)) :: kSV ks (b + 1)
def shSV : List ShE → Nat → List SV
  | [], _ => []
  | .one k :: l, b => .int k (.sym (.fn k b .nil)) :: shSV l (b + 1)
  | .many ks :: l, b => .agg (kSV ks b) :: shSV l (b + ks.length)
def fitsK : List IntKind → List SV → Bool
  | [], [] => true
  | k :: ks, .int k' n :: l => match decide (k = k'), n.within k.min k.max with
    | true, true => fitsK ks l
    | _, _ => false
  | _, _ => false
def fits : List ShE → List SV → Bool
  | [], [] => true
  | .one k :: sh, .int k' n :: l => match decide (k = k'), n.within k.min k.max with
    | true, true => fits sh l
    | _, _ => false
  | .many ks :: sh, .agg m :: l => match fitsK ks m with
    | true => fits sh l
    | false => false
  | _, _ => false
def NameOk (V : Val) (b : Nat) (cs : List Int) : Prop := ∀ i, i < cs.length → V.fi (b + i) [] = cs.getD i 0
theorem NameOk.head {V : Val} {b : Nat} {c : Int} {cs : List Int} (h : NameOk V b (c :: cs)) : V.fi b [] = c := h 0 (by simp)
theorem NameOk.tail {V : Val} {b : Nat} {c : Int} {cs : List Int} (h : NameOk V b (c :: cs)) : NameOk V (b + 1) cs := fun i hi => by
  have := h (i + 1) (by simpa using hi)
  rw [Nat.add_assoc, Nat.add_comm 1 i, this]; simp
theorem NameOk.app {V : Val} {b : Nat} {cs ds : List Int} (h : NameOk V b (cs ++ ds)) : NameOk V b cs ∧ NameOk V (b + cs.length) ds := by
  refine ⟨fun i hi => ?_, fun i hi => ?_⟩
  · have := h i (by simp; omega)
    rw [this]; simp [List.getD_eq_getElem?_getD, List.getElem?_append_left hi]
  · have := h (cs.length + i) (by simp; omega)
    rw [Nat.add_assoc, this]
    simp [List.getD_eq_getElem?_getD, List.getElem?_append_right]
theorem fitsK_den [Val] : ∀ {ks : List IntKind} {l : List SV}, fitsK ks l = true → ∃ (vs : List Value) (cs : List Int), cs.length = ks.length ∧ (∀ ρ, SV.DenL ρ l vs) ∧ ∀ (V : Val) b ρ, NameOk V b cs → @SV.DenL V ρ (kSV ks b) vs
  | [], [], _ => ⟨[], [], rfl, fun ρ => by simp, fun V b ρ _ => by simp [kSV, SV.DenL]⟩
  | k :: ks, .int k' n :: l, h => by
    unfold fitsK at h
    split at h
    · rename_i hk hn
      have hk := of_decide_eq_true hk
      subst hk
      have hn := SI.within_ok hn
      obtain ⟨vs, cs, h0, h1, h2⟩ := fitsK_den h
      refine ⟨.int k n.v :: vs, n.v :: cs, by simp [h0], fun ρ => denL_cons'.2 ⟨by simp only [SV.Den], h1 ρ⟩, fun V b ρ hV => (@denL_cons' _ V _ _ _ _).2 ⟨?_, h2 V _ ρ hV.tail⟩⟩
      simp only [SV.Den]
      have e : @SI.v V (.sym (.fn k b .nil)) = k.wrap (V.fi b []) := rfl
      rw [e, hV.head, wrap_same k hn.1 hn.2]
    · cases h
def shLen : List ShE → Nat
  | [] => 0
  | .one _ :: l => shLen l + 1
  | .many ks :: l => ks.length + shLen l
theorem fits_den [Val] : ∀ {sh : List ShE} {l : List SV}, fits sh l = true → ∃ (vs : List Value) (cs : List Int), cs.length = shLen sh ∧ (∀ ρ, SV.DenL ρ l vs) ∧ ∀ (V : Val) b ρ, NameOk V b cs → @SV.DenL V ρ (shSV sh b) vs
  | [], [], _ => ⟨[], [], rfl, fun ρ => by simp, fun V b ρ _ => by simp [shSV, SV.DenL]⟩
  | .one k :: sh, .int k' n :: l, h => by
    unfold fits at h
    split at h
    · rename_i hk hn
      have hk := of_decide_eq_true hk
      subst hk
      have hn := SI.within_ok hn
      obtain ⟨vs, cs, h0, h1, h2⟩ := fits_den h
      refine ⟨.int k n.v :: vs, n.v :: cs, by simp [shLen, h0], fun ρ => denL_cons'.2 ⟨by simp only [SV.Den], h1 ρ⟩, fun V b ρ hV => (@denL_cons' _ V _ _ _ _).2 ⟨?_, h2 V _ ρ hV.tail⟩⟩
      simp only [SV.Den]
      have e : @SI.v V (.sym (.fn k b .nil)) = k.wrap (V.fi b []) := rfl
      rw [e, hV.head, wrap_same k hn.1 hn.2]
    · cases h
  | .many ks :: sh, .agg m :: l, h => by
    unfold fits at h
    split at h
    · rename_i hk
      obtain ⟨us, ds, h0, h1, h2⟩ := fitsK_den hk
      obtain ⟨vs, cs, h5, h3, h4⟩ := fits_den h
      refine ⟨.agg us.toArray :: vs, ds ++ cs, by simp [shLen, h0, h5], fun ρ => denL_cons'.2 ⟨?_, h3 ρ⟩, fun V b ρ hV => (@denL_cons' _ V _ _ _ _).2 ⟨?_, h4 V _ ρ (h0 ▸ hV.app.2)⟩⟩
      · simp only [SV.Den]; exact ⟨us, h1 ρ, rfl⟩
      · simp only [SV.Den]; exact ⟨us, h2 V b ρ hV.app.1, rfl⟩
    · cases h
theorem fitsK_scal : ∀ {ks : List IntKind} {l : List SV}, fitsK ks l = true → SV.scalL l = true
  | [], [], _ => rfl
  | k :: ks, .int k' n :: l, h => by
    unfold fitsK at h
    split at h
    · simp only [SV.scalL, SV.scal]; exact fitsK_scal h
    · cases h
theorem fits_scal : ∀ {sh : List ShE} {l : List SV}, fits sh l = true → SV.scalL l = true
  | [], [], _ => rfl
  | .one k :: sh, .int k' n :: l, h => by
    unfold fits at h
    split at h
    · simp only [SV.scalL, SV.scal]; exact fits_scal h
    · cases h
  | .many ks :: sh, .agg m :: l, h => by
    unfold fits at h
    split at h
    · rename_i hk
      simp only [SV.scalL, SV.scal, fitsK_scal hk]; exact fits_scal h
    · cases h
def fitsT (sh : List ShE) : SV → Bool
  | .tup l => fits sh l
  | _ => false
def pairTreeS (P : Program) (sh : List ShE) (e1 e2 : Ext) (f g : FuncId) (args1 args2 : List SV) (ents1 ents2 : Ents) (next1 next2 n : Nat) (fs : Facts) : Tree Unit :=
  match fnOf P f, fnOf P g with
  | some i, some j => endRun P e1 f (.leaf ()) (fun fs v => match fitsT sh v with
      | true => endRun P e2 g (.leaf ()) (fun fs v' => match SV.alike fs v v' with
        | true => .leaf ()
        | false => match contraD 2 fs with
          | true => .leaf ()
          | false => .stuck 301) n fs (sStart j g args2 ents2 next2 (2 ^ 200))
      | false => match contraD 2 fs with
        | true => .leaf ()
        | false => .stuck 302) n fs (sStart i f args1 ents1 next1 (2 ^ 200))
  | _, _ => .stuck 303
theorem pair_callsS [Val] {P : Program} (hok : FnOk P) {sh : List ShE} {e1 e2 : Ext} (he1 : ExtOk P e1) (he2 : ExtOk P e2) {f g : FuncId} {args1 args2 : List SV} {ents1 ents2 : Ents} {next1 next2 n : Nat} {fs : Facts} (hfs : FactsOk fs) (h1 : next1 ≤ 2 ^ 200) (h2 : next2 ≤ 2 ^ 200)
    (h : (pairTreeS P sh e1 e2 f g args1 args2 ents1 ents2 next1 next2 n fs).okT = true) :
    ∃ (us : List Value) (cs : List Int), cs.length = shLen sh ∧ (∀ (V : Val) b ρ, NameOk V b cs → @SV.DenL V ρ (shSV sh b) us) ∧ (∀ ρ vs w, SV.DenL ρ args1 vs → DenH ρ (fun _ => False) w (find ents1) (Fr (fun _ => True) 0 next1) w → Calls P f vs.toArray w fun e w' => e = .returned (.tuple us.toArray) ∧ New w w') ∧
      ∀ ρ vs w, SV.DenL ρ args2 vs → DenH ρ (fun _ => False) w (find ents2) (Fr (fun _ => True) 0 next2) w → Calls P g vs.toArray w fun e w' => e = .returned (.tuple us.toArray) ∧ New w w' := by
  have h := Tree.okT_sat h
  unfold pairTreeS at h
  split at h
  · rename_i i j hi hj
    obtain ⟨S0, ⟨v, fs', hv, hf', hk⟩, hS0⟩ := Tree.sat_leaf (endRun_ok hfs h)
    split at hk
    · rename_i hs
      unfold fitsT at hs
      split at hs
      · rename_i l
        obtain ⟨us, cs, hle, hu, hn⟩ := fits_den hs
        have hl : SV.scalL l = true := fits_scal hs
        obtain ⟨x, hx⟩ := SV.scalL_den hl
        obtain rfl : us = x := (hx _ _).1 (hu fun _ => none)
        have hx' : ∀ ρ y, SV.Den ρ (.tup l) y → y = .tuple us.toArray := fun ρ y hy => by
          simp only [SV.Den] at hy
          obtain ⟨xs, h1, h2⟩ := hy
          rw [h2, (hx _ _).1 h1]
        refine ⟨us, cs, hle, hn, fun ρ vs w ha hd => ?_, fun ρ vs w ha hd => ?_⟩
        · refine calls_of_runF (X := fun _ => False) (w0 := w) (F := fun _ => True) (lo := 0) (hi := 2 ^ 200) hok he1 hfs (n := n) hi ha hd ⟨Nat.zero_le _, fun _ _ _ => trivial⟩ (Tree.sat_mono ?_ hS0)
          rintro S rfl
          exact ⟨_, hv, fun ρ' y w' _ hy hd' => ⟨by rw [hx' _ _ hy], new_of_den hd'⟩⟩
        · refine calls_of_runF (X := fun _ => False) (w0 := w) (F := fun _ => True) (lo := 0) (hi := 2 ^ 200) hok he2 hf' (n := n) hj ha hd ⟨Nat.zero_le _, fun _ _ _ => trivial⟩ (Tree.sat_mono ?_ (endRun_ok hf' hk))
          rintro S ⟨v', fs2, hv', hf2, hk2⟩
          split at hk2
          · rename_i hal
            exact ⟨v', hv', fun ρ' y w' _ hy hd' => ⟨by rw [hx' ρ' y (SV.alike_ok hf2 hal hy)], new_of_den hd'⟩⟩
          · rw [contraD_ok 2 hf2] at hk2
            exact hk2.elim
      · cases hs
    · rw [contraD_ok 2 hf'] at hk
      exact hk.elim
  · exact h.elim
end Go.Sx
/- R1.Is says what isa.valid says: the runs. -/
namespace Go.Proofs.YtnoiijjkjcklpaaGreat
open Go Go.Sx Go.RowKit Go.Cd Go.MapKept
def insnS : SV := .agg [.int .i64 (.sym (.var .i64 0)), .int .i64 (.sym (.var .i64 1)), .int .i64 (.sym (.var .i64 2)), .int .i64 (.sym (.var .i64 3)), .int .i64 (.sym (.var .i64 4)), .int .i64 (.sym (.var .i64 5)), .int .u32 (.sym (.var .u32 6))]
def opLt (n : Int) (b : Bool) : Bm × Bool := (.cmp .lt (.var .i64 0) (.lit n), b)
def isTree (P : Program) (fs : Facts) : Tree Unit := pairTree P (ext P noCon noXt noAx) (ext P noCon noXt noAx) 53 66 [insnS] [insnS] [] [] 0 0 2000 fs
end Go.Proofs.YtnoiijjkjcklpaaGreat
