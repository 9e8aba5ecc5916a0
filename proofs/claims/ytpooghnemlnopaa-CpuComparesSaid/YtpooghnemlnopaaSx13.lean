/- The symbolic machine's step, and that it is right. -/
import Derived.Test.YtpooghnemlnopaaSx12
import Derived.RangeFuncNested
namespace Go.Sx
set_option linter.unusedSimpArgs false
set_option linter.unusedVariables false
open Go Go.RowKit Go.Cd Go.Proofs.Ytpooghnemlnopaa Go.MapKept

def evalS (tmps : List SV) : Ev
  | .tmp t => nth tmps t
  | .const v => ofVal v
  | .func f => some (.fn (.func f) [] [])
  | .global _ => none
theorem evalS_ok [Val] {ρ : Env} {tmps : List SV} {tm : Array Value} (h : SV.DenL ρ tmps tm.toList) : EvOk ρ (evalS tmps) (evalF tm) := fun x s e => by
  cases x with
  | tmp t =>
    simp only [evalS, nth_eq] at e
    obtain ⟨v, hv, hs⟩ := denL_get h e
    have : tm[t]? = some v := by rw [← Array.getElem?_toList]; exact hv
    simpa [evalF, this] using hs
  | const v => exact ofVal_den e
  | global g => cases e
  | func f =>
    simp only [evalS, Option.some.injEq] at e; subst e
    simp only [SV.Den, SFn.Den, evalF]
    exact ⟨_, [], [], rfl, by simp, by simp, rfl⟩
def undefS : SV := .tup []
theorem undefS_den [Val] {ρ : Env} : undefS.Den ρ undef := by simp only [undefS, SV.Den]; exact ⟨[], by simp, rfl⟩
def putS (tmps : List SV) (d : Option Tmp) (v : SV) : List SV :=
  match d with
  | some t => setN tmps t v
  | none => tmps
theorem putS_den [Val] {ρ : Env} {tmps : List SV} {tm : Array Value} (h : SV.DenL ρ tmps tm.toList) {s : SV} {v : Value} (hs : s.Den ρ v) (d : Option Tmp) : SV.DenL ρ (putS tmps d s) (putD tm d v).toList := by
  cases d with
  | none => exact h
  | some t => simp only [putS, putD, setN_eq, Array.toList_setIfInBounds]; exact denL_set h hs t
def undefs : Nat → List SV
  | 0 => []
  | n + 1 => undefS :: undefs n
theorem undefs_den [Val] {ρ : Env} : ∀ n, SV.DenL ρ (undefs n) (List.replicate n undef)
  | 0 => by simp [undefs]
  | n + 1 => denL_cons'.2 ⟨undefS_den, undefs_den n⟩
def enterS (i : FnI) (f : FuncId) (args : List SV) (kind : CallKind) : SFrame :=
  { fn := f, tmps := args ++ undefs (i.ntmps - args.length), todo := [.code i.body], defers := [], mode := .run, kind, round := none }
theorem enterS_den [Val] {P : Program} {ρ : Env} {i : FnI} {f : FuncId} {args : List SV} {vs : List Value} {kind : CallKind} (hi : fnOf P f = some i) (ha : SV.DenL ρ args vs) : (enterS i f args kind).Den ρ (Frame.enter P f vs.toArray kind) := by
  obtain ⟨F, hF, hb, hn, _⟩ := fnOf_spec hi
  have hl := denL_length ha
  refine ⟨rfl, ?_, ?_, rfl, rfl, rfl, rfl⟩
  · simp only [Frame.enter, hF, Option.map_some, Option.getD_some, hn, enterS]
    simp only [Array.toList_append, List.toList_toArray, List.size_toArray, Array.toList_replicate]
    rw [← hl]
    exact denL_append ha (undefs_den _)
  · simp only [Frame.enter, hF, Option.bind_some, hb, Option.getD_some, enterS]
    exact ⟨_, [], rfl, rfl, rfl⟩
def bindS : List Tmp → List SV → List SV → List SV
  | t :: ts, a :: xs, tmps => bindS ts xs (setN tmps t a)
  | _, _, tmps => tmps
theorem bindS_den [Val] {ρ : Env} : ∀ {ts : List Tmp} {xs : List SV} {vs : List Value} {tmps : List SV} {tm : Array Value}, SV.DenL ρ xs vs → SV.DenL ρ tmps tm.toList →
    SV.DenL ρ (bindS ts xs tmps) ((ts.zip vs).foldl (fun tmps (p : Tmp × Value) => tmps.setIfInBounds p.1 p.2) tm).toList
  | [], xs, vs, tmps, tm, _, h => by simpa [bindS] using h
  | t :: ts, [], vs, tmps, tm, ha, h => by rw [denL_nil] at ha; subst ha; simpa [bindS] using h
  | t :: ts, a :: xs, _, tmps, tm, ha, h => by
    obtain ⟨v, vs', rfl, h1, h2⟩ := denL_cons.1 ha
    simp only [bindS, List.zip_cons_cons, List.foldl_cons]
    refine bindS_den h2 ?_
    rw [setN_eq, Array.toList_setIfInBounds]
    exact denL_set h h1 t

inductive Want where
  | yes
  | no
  | ask (b : Bm) (want : Bool)
  | unk
def wantS (ops : Array Oper) (tmps : List SV) (o : Oper) : Want :=
  match o.guard with
  | none => .yes
  | some (j, want) => match (ops[j]?).bind (·.dst) with
    | none => .no
    | some d => match nth tmps d with
      | none => .no
      | some (.bool (.lit b)) => match b == want with
        | true => .yes
        | false => .no
      | some (.bool (.sym b)) => .ask b want
      | some .any => .unk
      | some _ => .no
theorem wantS_ok [Val] {ρ : Env} {ops : Array Oper} {tmps : List SV} {tm : Array Value} (h : SV.DenL ρ tmps tm.toList) (o : Oper) :
    match wantS ops tmps o with
    | .yes => Region.wanted o (yielded ops tm) = true
    | .no => Region.wanted o (yielded ops tm) = false
    | .ask b want => Region.wanted o (yielded ops tm) = (b.v == want)
    | .unk => True := by
  unfold wantS Region.wanted
  cases hg : o.guard with
  | none => simp
  | some p =>
    obtain ⟨j, want⟩ := p
    simp only
    cases hd : (ops[j]?).bind (·.dst) with
    | none => simp [yielded, hd]
    | some d =>
      simp only
      have hyn : tm[d]? = none → yielded ops tm j = none := fun e => by simp [yielded, hd, e]
      have hyb : ∀ b, tm[d]? = some (.bool b) → yielded ops tm j = some b := fun b e => by simp [yielded, hd, e]
      have hyo : ∀ v, tm[d]? = some v → (∀ b, v ≠ .bool b) → yielded ops tm j = none := fun v e hb => by
        simp only [yielded, hd, Option.bind_some, e]
        cases v <;> first | rfl | exact absurd rfl (hb _)
      cases hn : nth tmps d with
      | none =>
        rw [nth_eq] at hn
        have hl := denL_length h
        have : tm[d]? = none := by
          rw [← Array.getElem?_toList]
          rw [List.getElem?_eq_none_iff] at hn ⊢
          omega
        simp [hyn this]
      | some s =>
        rw [nth_eq] at hn
        obtain ⟨v, hv, hs⟩ := denL_get h hn
        have hv' : tm[d]? = some v := by rw [← Array.getElem?_toList]; exact hv
        cases s with
        | bool b =>
          simp only [SV.Den] at hs; subst hs
          have := hyb _ hv'
          cases b with
          | lit b => cases b <;> cases want <;> simp [this]
          | sym b => cases hb : b.v <;> cases want <;> simp [this, SB.v, hb]
        | any => simp
        | _ =>
          have := hyo v hv' (fun b e => by
            subst e
            simp only [SV.Den] at hs
            first
              | (cases hs; done)
              | (obtain ⟨_, _, _, _, h⟩ := hs; cases h; done)
              | (obtain ⟨_, _, _, _, _, _, _, _, _, h⟩ := hs; cases h; done)
              | (obtain ⟨_, _, h⟩ := hs; cases h; done)
              | (obtain ⟨_, _, _, _, _, _, h⟩ := hs; cases h; done))
          simp [this]

/-- What a region that draws its order leaves. -/
abbrev Dr := Array Oper → List SV → Ents → Nat → Nat → List Nat → Option (List SV × Ents × Nat × List Nat × List Nat)
def DrOk [Val] (P : Program) (dr : Dr) : Prop :=
  ∀ ops tmps ents next hi log tmps' ents' next' log' rest, dr ops tmps ents next hi log = some (tmps', ents', next', log', rest) →
    ∀ (ρ : Env) (X : Nat → Prop) (w0 : World) (F : Nat → Prop) (lo : Nat) (cs : List Frame) (fn : FuncId) (tm : Array Value) (k : List Item) (ds : List Deferred) (kd : CallKind) (ro : Option Nat) (w : World) (t : Nat),
      SV.DenL ρ tmps tm.toList → DenH ρ X w0 (find ents) (Fr F lo next) w → FrOk F lo next hi →
      ∃ ρ' tm' w', ρ.le ρ' ∧ Steps P (lone ⟨fn, tm, .inRegion ops (Region.schedule (P.follows .mixedOrders) ops t) :: k, ds, .run, kd, ro⟩ cs w) (lone ⟨fn, tm', .inRegion ops rest :: k, ds, .run, kd, ro⟩ cs w') ∧
        SV.DenL ρ' tmps' tm'.toList ∧ DenH ρ' X w0 (find ents') (Fr F lo next') w' ∧ next ≤ next'

def Tree.all {α : Type} (Q : α → Prop) : Tree α → Prop
  | .leaf a => Q a
  | .split _ x y => x.all Q ∧ y.all Q
  | .need _ x => x.all Q
  | .stuck _ => True
theorem Tree.all_bind [Val] {α β : Type} {Q : α → Prop} {Q' : β → Prop} {f : α → Tree β} (hf : ∀ a, Q a → (f a).all Q') : ∀ {t : Tree α}, t.all Q → (t.bind f).all Q'
  | .leaf a, h => hf a h
  | .split _ x y, h => ⟨Tree.all_bind hf h.1, Tree.all_bind hf h.2⟩
  | .need _ x, h => Tree.all_bind hf (t := x) h
  | .stuck _, _ => trivial
/-- What a contract says of a call: the value, the heap, the names that it touched. -/
structure CRes where
  val : SV
  ents : Ents
  log : List Nat
abbrev Con := FuncId → List SV → Ents → Nat → Option (Nat × Tree CRes)
def ConLog (con : Con) : Prop := ∀ f args ents next next' t, con f args ents next = some (next', t) → t.all fun r => ∀ h, h ∉ r.log → find r.ents h = find ents h
def ConOk [Val] (P : Program) (con : Con) : Prop :=
  ∀ f args ents next next' t, con f args ents next = some (next', t) → next + 2 ≤ next' ∧
    ∀ Q : CRes → Prop, t.sat Q → ∀ (vs : List Value) (w : World) (ρ : Env) (X : Nat → Prop) (w0 : World) (F : Nat → Prop), SV.DenL ρ args vs → DenH ρ X w0 (find ents) F w → (∀ j, next ≤ j → j < next' → F j) →
      Calls P f vs.toArray w fun e w' => ∃ ρ' x r, Q r ∧ e = .returned x ∧ ρ.le ρ' ∧ r.val.Den ρ' x ∧ DenH ρ' X w0 (find r.ents) (fun j => F j ∧ ¬ (next ≤ j ∧ j < next')) w'
def noCon : Con := fun _ _ _ _ => none
theorem noCon_ok [Val] (P : Program) : ConOk P noCon := fun _ _ _ _ _ _ h => by cases h
theorem noCon_log : ConLog noCon := fun _ _ _ _ _ _ h => by cases h
/-- What a run leans on: regions that draw, and contracts. -/
structure Ext where
  dr : Dr
  con : Con
  xt : FuncId → List SV → Option SV
/-- What is said of calls that the model answers by itself. -/
def XtOk [Val] (P : Program) (xt : FuncId → List SV → Option SV) : Prop :=
  ∀ f args v, xt f args = some v → ∀ (ρ : Env) (vs : List Value) (w : World), SV.DenL ρ args vs → ∃ x, (callFunc f vs.toArray).run P w = .ok (.value x) w ∧ v.Den ρ x
def noXt : FuncId → List SV → Option SV := fun _ _ => none
theorem noXt_ok [Val] (P : Program) : XtOk P noXt := fun _ _ _ h => by cases h
structure ExtOk [Val] (P : Program) (x : Ext) : Prop where
  dr : DrOk P x.dr
  con : ConOk P x.con
  xt : XtOk P x.xt

/-! Ways out. -/
def sexitTo (n : Nat) : List SItem → Option (List SItem)
  | .inBlock m :: k => match Nat.beq m n with
    | true => some k
    | false => sexitTo n k
  | _ :: k => sexitTo n k
  | [] => none
def sgotoIn (l : Nat) : List SItem → Option (List SItem)
  | .inScope body :: k => match findLabel body l with
    | some rest => some (.code rest :: .inScope body :: k)
    | none => sgotoIn l k
  | _ :: k => sgotoIn l k
  | [] => none
theorem sexitTo_ok [Val] {ρ : Env} {n : Nat} : ∀ {s : List SItem} {l : List Item}, DenIs ρ s l → match sexitTo n s with
    | some k => ∃ k', exitTo n l = some k' ∧ DenIs ρ k k'
    | none => exitTo n l = none
  | [], l, h => by simp only [DenIs] at h; subst h; simp [sexitTo, exitTo]
  | s :: r, _, h => by
    obtain ⟨i, l', rfl, h1, h2⟩ := h
    have ih := sexitTo_ok (n := n) h2
    cases s with
    | inBlock m =>
      simp only [SItem.Den] at h1; subst h1
      simp only [sexitTo, exitTo]
      cases hb : Nat.beq m n with
      | true =>
        have := Nat.eq_of_beq_eq_true hb; subst this
        simp only [beq_self_eq_true, if_true]
        exact ⟨l', rfl, h2⟩
      | false =>
        have hne := Nat.ne_of_beq_eq_false hb
        have : (m == n) = false := by simpa using hne
        simp only [this]
        exact ih
    | code c => simp only [SItem.Den] at h1; subst h1; exact ih
    | inLoop c => simp only [SItem.Den] at h1; subst h1; exact ih
    | inScope c => simp only [SItem.Den] at h1; subst h1; exact ih
    | inRegion ops l => simp only [SItem.Den] at h1; subst h1; exact ih
    | inRangeFunc h => obtain ⟨l, _, rfl⟩ := h1; exact ih
    | endRangeFunc h => obtain ⟨l, _, rfl⟩ := h1; exact ih
    | beginRound => simp only [SItem.Den] at h1; subst h1; exact ih
theorem sgotoIn_ok [Val] {ρ : Env} {n : Nat} : ∀ {s : List SItem} {l : List Item}, DenIs ρ s l → match sgotoIn n s with
    | some k => ∃ k', gotoIn n l = some k' ∧ DenIs ρ k k'
    | none => gotoIn n l = none
  | [], l, h => by simp only [DenIs] at h; subst h; simp [sgotoIn, gotoIn]
  | s :: r, _, h => by
    obtain ⟨i, l', rfl, h1, h2⟩ := h
    have ih := sgotoIn_ok (n := n) h2
    cases s with
    | inScope c =>
      simp only [SItem.Den] at h1; subst h1
      simp only [sgotoIn, gotoIn]
      cases hb : findLabel c n with
      | some rest => exact ⟨_, rfl, _, _, rfl, rfl, _, _, rfl, rfl, h2⟩
      | none => exact ih
    | code c => simp only [SItem.Den] at h1; subst h1; exact ih
    | inLoop c => simp only [SItem.Den] at h1; subst h1; exact ih
    | inBlock c => simp only [SItem.Den] at h1; subst h1; exact ih
    | inRegion ops l => simp only [SItem.Den] at h1; subst h1; exact ih
    | inRangeFunc h => obtain ⟨l, _, rfl⟩ := h1; exact ih
    | endRangeFunc h => obtain ⟨l, _, rfl⟩ := h1; exact ih
    | beginRound => simp only [SItem.Den] at h1; subst h1; exact ih

/-- The results. -/
def resS (P : Program) (look : Look) (tmps : List SV) : List ResultVar → Option (List SV)
  | [] => some []
  | .tmp t :: r => match nth tmps t with
    | none => none
    | some s => match resS P look tmps r with
      | some l => some (s :: l)
      | none => none
  | .cell a t :: r => match nth tmps a with
    | none => none
    | some p => match sLoad P look t p with
      | some (s, _, _) => match resS P look tmps r with
        | some l => some (s :: l)
        | none => none
      | none => none
def resultS (P : Program) (look : Look) (tmps : List SV) (rs : List ResultVar) : Option SV :=
  match resS P look tmps rs with
  | some [s] => some s
  | some l => some (.tup l)
  | none => none
def resF (tm : Array Value) : ResultVar → Sem Value
  | .tmp t => pure (tm.getD t undef)
  | .cell a t => do loadVar t (← asAddr (tm.getD a undef))
theorem results_eq [Val] (F : Func) (tm : Array Value) : results F tm = (do let vs ← F.results.mapM (resF tm); pure (if h : vs.size = 1 then vs[0] else .tuple vs)) := by
  have e : (fun (x : ResultVar) => (match x with
      | .tmp t => pure (tm.getD t undef)
      | .cell a t => do loadVar t (← asAddr (tm.getD a undef)) : Sem Value)) = resF tm := by
    funext x; cases x <;> rfl
  rw [← e]
  rfl
theorem resS_ok [Val] {P : Program} {ρ : Env} {X : Nat → Prop} {w0 w : World} {look : Look} {fresh : Nat → Prop} {tmps : List SV} {tm : Array Value} (d : DenH ρ X w0 look fresh w) (ht : SV.DenL ρ tmps tm.toList) :
    ∀ {rs : List ResultVar} {l : List SV}, resS P look tmps rs = some l → ∃ vs, (rs.mapM (resF tm) : Sem (List Value)).run P w = .ok vs w ∧ SV.DenL ρ l vs
  | [], _, h => by simp only [resS, Option.some.injEq] at h; subst h; exact ⟨[], by simp, by simp⟩
  | .tmp t :: r, _, h => by
    unfold resS at h
    split at h <;> try cases h
    rename_i s hs
    split at h <;> cases h
    rename_i l hl
    obtain ⟨vs, h1, h2⟩ := resS_ok d ht hl
    rw [nth_eq] at hs
    obtain ⟨v, hv, hsv⟩ := denL_get ht hs
    have hv' : tm[t]? = some v := by rw [← Array.getElem?_toList]; exact hv
    refine ⟨v :: vs, ?_, denL_cons'.2 ⟨hsv, h2⟩⟩
    rw [List.mapM_cons]
    simp only [Sem.run_bind, resF, Sem.run_pure, Result.andThen_ok, h1]
    simp [hv']
  | .cell a t :: r, _, h => by
    unfold resS at h
    split at h <;> try cases h
    rename_i p hp
    split at h <;> try cases h
    rename_i s us ts hs
    split at h <;> cases h
    rename_i l hl
    obtain ⟨vs, h1, h2⟩ := resS_ok d ht hl
    rw [nth_eq] at hp
    obtain ⟨v, hv, hpv⟩ := denL_get ht hp
    have hv' : tm[a]? = some v := by rw [← Array.getElem?_toList]; exact hv
    obtain ⟨val, g1, g2, rfl⟩ := sLoad_den d hpv hs
    have hp2 : ∃ b m, v = .pointer (some ⟨b, m, none⟩) := by
      unfold sLoad at hs
      split at hs
      · simp only [SV.Den] at hpv
        obtain ⟨b, m, _, _, e⟩ := hpv
        exact ⟨b, m, e⟩
      · cases hs
    obtain ⟨b, m, rfl⟩ := hp2
    have g3 : (loadVar t ⟨b, m, none⟩).run P w = .ok val w := by simpa [Instr.loadAt, Instr.sureAddr] using g1
    refine ⟨val :: vs, ?_, denL_cons'.2 ⟨g2, h2⟩⟩
    rw [List.mapM_cons]
    have e2 : (asAddr (tm.getD a undef)).run P w = .ok ⟨b, m, none⟩ w := by
      have e1 : tm.getD a undef = .pointer (some ⟨b, m, none⟩) := by simp [hv']
      rw [e1]; rfl
    simp only [Sem.run_bind, resF, e2, Sem.run_pure, Result.andThen_ok, g3, h1]
theorem resultS_ok [Val] {P : Program} {ρ : Env} {X : Nat → Prop} {w0 w : World} {look : Look} {fresh : Nat → Prop} {tmps : List SV} {tm : Array Value} (d : DenH ρ X w0 look fresh w) (ht : SV.DenL ρ tmps tm.toList) {F : Func} {s : SV}
    (h : resultS P look tmps F.results.toList = some s) : ∃ v, (results F tm).run P w = .ok v w ∧ s.Den ρ v := by
  have key : ∀ l, resS P look tmps F.results.toList = some l → ∃ vs, (results F tm).run P w = .ok (if h : vs.toArray.size = 1 then vs.toArray[0] else .tuple vs.toArray) w ∧ SV.DenL ρ l vs := fun l hl => by
    obtain ⟨vs, h1, h2⟩ := resS_ok d ht hl
    refine ⟨vs, ?_, h2⟩
    rw [results_eq, Array.mapM_eq_mapM_toList]
    simp only [Sem.run_bind, Sem.run_map, h1, Result.andThen_ok, Sem.run_pure]
  unfold resultS at h
  split at h
  · rename_i x hx
    injection h with h; subst h
    obtain ⟨vs, h1, h2⟩ := key _ hx
    obtain ⟨v, vs', rfl, h3, h4⟩ := denL_cons.1 h2
    rw [denL_nil] at h4; subst h4
    exact ⟨v, by simpa using h1, h3⟩
  · rename_i l hne hl
    injection h with h; subst h
    obtain ⟨vs, h1, h2⟩ := key _ hl
    have hlen := denL_length h2
    have : vs.toArray.size ≠ 1 := by
      simp only [List.size_toArray, hlen]
      intro e
      match l, e with
      | [x], _ => exact hne x rfl
    rw [dif_neg this] at h1
    exact ⟨_, h1, by simp only [SV.Den]; exact ⟨vs, h2, rfl⟩⟩
  · cases h
end Go.Sx
