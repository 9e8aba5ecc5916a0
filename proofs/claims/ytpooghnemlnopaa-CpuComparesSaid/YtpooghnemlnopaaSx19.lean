/- Regions that draw their order: the plan of a region, made and looked at. -/
import Derived.Test.YtpooghnemlnopaaSx18
namespace Go.Sx
set_option linter.unusedSimpArgs false
set_option linter.unusedVariables false
open Go Go.RowKit Go.Cd Go.Proofs.Ytpooghnemlnopaa Go.MapKept

def tmpsOf : List Operand → List Nat
  | [] => []
  | .tmp t :: l => t :: tmpsOf l
  | _ :: l => tmpsOf l
theorem mem_tmpsOf [Val] {t : Nat} : ∀ {l : List Operand}, .tmp t ∈ l → t ∈ tmpsOf l
  | [], h => by simp at h
  | .tmp u :: l, h => by
    rcases List.mem_cons.1 h with e | e
    · injection e with e; subst e; simp [tmpsOf]
    · simp [tmpsOf, mem_tmpsOf e]
  | .const v :: l, h => by
    rcases List.mem_cons.1 h with e | e
    · cases e
    · simpa [tmpsOf] using mem_tmpsOf e
  | .global v :: l, h => by
    rcases List.mem_cons.1 h with e | e
    · cases e
    · simpa [tmpsOf] using mem_tmpsOf e
  | .func v :: l, h => by
    rcases List.mem_cons.1 h with e | e
    · cases e
    · simpa [tmpsOf] using mem_tmpsOf e
def readsT (ops : Array Oper) (o : Oper) : List Nat :=
  match o.guard with
  | none => tmpsOf o.op.operands.toList
  | some (j, _) => match (ops[j]?).bind (·.dst) with
    | some d => d :: tmpsOf o.op.operands.toList
    | none => tmpsOf o.op.operands.toList
abbrev Callee := FuncId → List SV → Ents → Nat → Nat → Option (SV × Ents × Nat × List Nat)
def CalleeOk [Val] (P : Program) (cal : Callee) : Prop :=
  ∀ f args ents next hi v ents' next' log', cal f args ents next hi = some (v, ents', next', log') → next ≤ next' ∧ next' ≤ hi ∧ (∀ h, h ∉ log' → find ents' h = find ents h) ∧
    ∀ (vs : List Value) (w : World) (ρ : Env) (X : Nat → Prop) (w0 : World) (F : Nat → Prop), SV.DenL ρ args vs → DenH ρ X w0 (find ents) F w → (∀ j, next ≤ j → j < next' → F j) →
      Calls P f vs.toArray w fun e w' => ∃ ρ' x, e = .returned x ∧ ρ.le ρ' ∧ v.Den ρ' x ∧ DenH ρ' X w0 (find ents') (fun j => F j ∧ ¬ (next ≤ j ∧ j < next')) w'
def dOne (P : Program) (cal : Callee) (ops : Array Oper) (hi : Nat) (o : Oper) (s : St) : Option (St × Foot) :=
  match wantS ops s.tmps o with
  | .no => some ({ s with tmps := putS s.tmps o.dst undefS }, { rt := readsT ops o, wt := o.dst, all := false, rh := [], wh := [] })
  | .yes => match isDefer o.op, Nat.ble (s.next + 2) hi with
    | false, true => match sop P (find s.ents) s.next (evalS s.tmps) o.op with
      | .val v us _ => some ({ tmps := putS s.tmps o.dst v, ents := appUs us s.ents, next := s.next + 2, log := logUs us s.log }, { rt := readsT ops o, wt := o.dst, all := false, rh := sReads (evalS s.tmps) o.op, wh := us.map updH })
      | .enter f args => match fnOf P f, cal f args s.ents s.next hi with
        | some _, some (v, ents', next', log') => match Nat.ble (s.next + 2) next' with
          | true => some ({ tmps := putS s.tmps o.dst v, ents := ents', next := next', log := log' ++ s.log }, { rt := readsT ops o, wt := o.dst, all := true, rh := [], wh := log' })
          | false => none
        | _, _ => none
      | _ => none
    | _, _ => none
  | _ => none
def evR (rt : List Nat) (tmps : List SV) : Ev
  | .tmp t => if t ∈ rt then nth tmps t else none
  | .const v => ofVal v
  | .func f => some (.fn (.func f) [] [])
  | .global _ => none
section
variable {P : Program} {ops : Array Oper} {hi : Nat}
theorem wantS_ok2 [Val] {ρ : Env} {tmps : List SV} {tm : Array Value} (o : Oper) (h : ∀ t ∈ readsT ops o, (∀ x, nth tmps t = some x → ∃ v, tm[t]? = some v ∧ x.Den ρ v) ∧ (nth tmps t = none → tm[t]? = none)) :
    match wantS ops tmps o with
    | .yes => Region.wanted o (yielded ops tm) = true
    | .no => Region.wanted o (yielded ops tm) = false
    | _ => True := by
  unfold wantS Region.wanted
  unfold readsT at h
  cases hg : o.guard with
  | none => simp
  | some p =>
    obtain ⟨j, want⟩ := p
    rw [hg] at h
    simp only at h ⊢
    cases hd : (ops[j]?).bind (·.dst) with
    | none => simp [yielded, hd]
    | some d =>
      rw [hd] at h
      simp only at h ⊢
      obtain ⟨h1, h2⟩ := h d (by simp)
      have hyn : tm[d]? = none → yielded ops tm j = none := fun e => by simp [yielded, hd, e]
      have hyb : ∀ b, tm[d]? = some (.bool b) → yielded ops tm j = some b := fun b e => by simp [yielded, hd, e]
      have hyo : ∀ v, tm[d]? = some v → (∀ b, v ≠ .bool b) → yielded ops tm j = none := fun v e hb => by
        simp only [yielded, hd, Option.bind_some, e]
        cases v <;> first | rfl | exact absurd rfl (hb _)
      cases hn : nth tmps d with
      | none => simp [hyn (h2 hn)]
      | some s =>
        obtain ⟨v, hv', hs⟩ := h1 s hn
        cases s with
        | bool b =>
          simp only [SV.Den] at hs; subst hs
          have := hyb _ hv'
          cases b with
          | lit b => cases b <;> cases want <;> simp [this]
          | sym b => trivial
        | any => trivial
        | _ =>
          have := hyo v hv' (fun b e => by
            subst e
            simp only [SV.Den] at hs
            first
              | (cases hs; done)
              | (obtain ⟨_, _, _, _, h⟩ := hs; cases h; done)
              | (obtain ⟨_, _, _, _, _, _, _, _, _, h⟩ := hs; cases h; done)
              | (obtain ⟨_, _, h⟩ := hs; cases h; done)
              | (obtain ⟨_, _, _, _, _, _, h⟩ := hs; cases h; done))
          simp [this]
theorem nth_put [Val] {tmps : List SV} {d : Nat} {v x : SV} (h : nth (putS tmps (some d) v) d = some x) : x = v := by
  simp only [putS, setN_eq, nth_eq] at h
  rw [List.getElem?_set] at h
  simp only [if_true] at h
  split at h
  · injection h with h; exact h.symm
  · cases h
theorem nth_put_other [Val] {tmps : List SV} {dst : Option Tmp} {v : SV} {t : Nat} (h : dst ≠ some t) : nth (putS tmps dst v) t = nth tmps t := by
  cases dst with
  | none => rfl
  | some d =>
    simp only [putS, setN_eq, nth_eq]
    rw [List.getElem?_set_ne (fun e => h (by rw [e]))]
theorem len_put [Val] {tmps : List SV} {dst : Option Tmp} {v : SV} : (putS tmps dst v).length = tmps.length := by
  cases dst <;> simp [putS, setN_eq]
theorem looks_split [Val] : ∀ (us : List Upd) (l l' : Look) (h : Nat), (h ∈ us.map updH → looks us l h = looks us l' h) ∧ (h ∉ us.map updH → looks us l h = l h)
  | [], l, l', h => by simp [looks]
  | u :: us, l, l', h => by
    have ih := looks_split us (u.look l) (u.look l') h
    refine ⟨fun hm => ?_, fun hm => ?_⟩
    · by_cases c : h ∈ us.map updH
      · exact ih.1 c
      · have e1 := ih.2 c
        have e2 := (looks_split us (u.look l') (u.look l) h).2 c
        simp only [looks]
        rw [e1, e2]
        have : h = updH u := by
          rw [List.map_cons, List.mem_cons] at hm
          exact hm.resolve_right c
        subst this
        cases u <;> simp [Upd.look, updH]
    · rw [List.map_cons, List.mem_cons, not_or] at hm
      simp only [looks]
      rw [ih.2 hm.2]
      have := hm.1
      cases u <;> simp [Upd.look, updH] at this ⊢ <;> simp [this]
/-- What is known of a state and the next one. -/
structure Next1 (s s' : St) (f : Foot) (o : Oper) (hi : Nat) : Prop where
  next : s.next ≤ s'.next
  le : s'.next ≤ max s.next hi
  len : s'.tmps.length = s.tmps.length
  wt : f.wt = o.dst
  tmp : ∀ t, f.wt ≠ some t → nth s'.tmps t = nth s.tmps t
  heap : ∀ h, h ∉ f.wh → find s'.ents h = find s.ents h
  log : ∀ h, h ∉ s'.log → h ∉ s.log ∧ h ∉ f.wh
theorem logUs_mem [Val] {us : List Upd} {l : List Nat} {h : Nat} (hn : h ∉ logUs us l) : h ∉ l ∧ h ∉ us.map updH := by
  induction us with
  | nil => exact ⟨hn, by simp⟩
  | cons u us ih =>
    simp only [logUs, List.mem_cons, not_or] at hn
    obtain ⟨h1, h2⟩ := ih hn.2
    exact ⟨h1, by simp [hn.1, h2]⟩
theorem dOne_ok [Val] (hok : FnOk P) {cal : Callee} (hcal : CalleeOk P cal) {i : Nat} {o : Oper} {s s' : St} {f : Foot} (ho : ops[i]? = some o) (h : dOne P cal ops hi o s = some (s', f)) : OpSem P ops i s s' f ∧ Next1 s s' f o hi := by
  have hdst : (ops[i]?).bind (·.dst) = o.dst := by rw [ho]; rfl
  unfold dOne at h
  split at h <;> try cases h
  · -- not wanted
    rename_i hw
    refine ⟨?_, ⟨Nat.le_refl _, Nat.le_max_left _ _, len_put, rfl, fun t ht => nth_put_other ht, fun _ _ => rfl, fun h hh => ⟨hh, by simp⟩⟩⟩
    intro ρ X w0 F look cs fn tm rest k ds kd ro w ht _ _ hd _
    have hwant := wantS_ok2 o ht
    rw [hw] at hwant
    have hst := st_op_skip (P := P) (cs := cs) (w := w) (k := k) (ds := ds) (kd := kd) (ro := ro) (fn := fn) (ops := ops) (i := i) (rest := rest) (tmps := tm) (by simp [ho, hwant])
    rw [hdst] at hst
    refine ⟨ρ, undef, w, Env.le_refl _, .one hst, fun x d hdd hx => ?_, (hd.congr fun h => by simp).fresh_mono fun j hj => hj.1⟩
    dsimp only at hdd hx
    rw [hdd] at hx
    rw [nth_put hx]; exact undefS_den
  · -- wanted
    rename_i hw
    split at h <;> try cases h
    rename_i hdef hble
    have hble := Nat.le_of_ble_eq_true hble
    have evok : ∀ {ρ : Env} {tm : Array Value}, (∀ t ∈ readsT ops o, (∀ x, nth s.tmps t = some x → ∃ v, tm[t]? = some v ∧ x.Den ρ v) ∧ (nth s.tmps t = none → tm[t]? = none)) → EvOk ρ (evR (readsT ops o) s.tmps) (evalF tm) := fun {ρ tm} ht x y e => by
      cases x with
      | tmp t =>
        simp only [evR] at e
        split at e
        · rename_i hm
          obtain ⟨v, hv, hs⟩ := (ht t hm).1 y e
          simpa [evalF, hv] using hs
        · cases e
      | const v => exact ofVal_den e
      | global g => cases e
      | func f =>
        simp only [evR, Option.some.injEq] at e; subst e
        simp only [SV.Den, SFn.Den, evalF]
        exact ⟨_, [], [], rfl, by simp, by simp, rfl⟩
    have evsame : ∀ x ∈ o.op.operands, evalS s.tmps x = evR (readsT ops o) s.tmps x := fun x hx => by
      cases x with
      | tmp t =>
        have hm : t ∈ readsT ops o := by
          have : t ∈ tmpsOf o.op.operands.toList := mem_tmpsOf (by simpa using hx)
          unfold readsT
          split
          · exact this
          · split
            · exact List.mem_cons_of_mem _ this
            · exact this
        simp only [evalS, evR, if_pos hm]
      | const v => rfl
      | global g => rfl
      | func f => rfl
    split at h <;> try cases h
    · -- a value
      rename_i v us ts hsop
      refine ⟨?_, ⟨by simp, by simp; omega, len_put, rfl, fun t ht => nth_put_other ht, fun h hh => ?_, fun h hh => logUs_mem hh⟩⟩
      · intro ρ X w0 F look cs fn tm rest k ds kd ro w ht _ hrh hd hF
        have hwant := wantS_ok2 o ht
        rw [hw] at hwant
        have hs2 := sop_congr (P := P) (id := s.next) (look := find s.ents) (look' := look) evsame (fun h hh => (hrh h hh).symm)
        rw [hsop] at hs2
        have hg := sop_ok hok (evok ht) hd (hF _ (Nat.le_refl _) (by simp)) (hF (s.next + 1) (by omega) (by simp)) o
        rw [← hs2] at hg
        obtain ⟨nx, val, ρ', w', g1, g2, g3, g4, g5⟩ := hg
        have hst := st_op_val (P := P) (cs := cs) (k := k) (ds := ds) (kd := kd) (ro := ro) (fn := fn) (rest := rest) ho hwant (.inr hdef) g1 g2
        refine ⟨ρ', val, w', g3, .one hst, fun x d hdd hx => ?_, (g5.congr fun h => ?_).fresh_mono fun j hj => ⟨hj.1, ?_, ?_⟩⟩
        · dsimp only at hdd hx
          rw [hdd] at hx
          rw [nth_put hx]; exact g4
        · dsimp only
          rw [find_appUs]
          by_cases c : h ∈ us.map updH
          · rw [if_pos c]; exact (looks_split us _ _ h).1 c
          · rw [if_neg c]; exact ((looks_split us look look h).2 c).symm
        · have := hj.2; dsimp only at this; omega
        · have := hj.2; dsimp only at this; omega
      · dsimp only at hh ⊢
        rw [find_appUs]
        exact (looks_split us (find s.ents) (find s.ents) h).2 hh
    · -- a call
      rename_i g args hsop
      split at h <;> try cases h
      rename_i v ents' next' log' hfi hc
      split at h <;> cases h
      have hn2 : s.next + 2 ≤ next' := Nat.le_of_ble_eq_true (by assumption)
      obtain ⟨c1, c2, c3, c4⟩ := hcal _ _ _ _ _ _ _ _ _ hc
      refine ⟨?_, ⟨c1, by simp; omega, len_put, rfl, fun t ht => nth_put_other ht, c3, fun h hh => ?_⟩⟩
      · intro ρ X w0 F look cs fn tm rest k ds kd ro w ht hall hrh hd hF
        have hlook : ∀ h, look h = find s.ents h := hall rfl
        have hwant := wantS_ok2 o ht
        rw [hw] at hwant
        have hs2 := sop_congr (P := P) (id := s.next) (look := find s.ents) (look' := look) evsame (fun h hh => (hlook h).symm)
        rw [hsop] at hs2
        have hg := sop_ok hok (evok ht) hd (hF _ (Nat.le_refl _) (by simp; omega)) (hF (s.next + 1) (by omega) (by simp; omega)) o
        rw [← hs2] at hg
        obtain ⟨vs, h1, h2⟩ := hg
        have h2 := h2.trans (run_callFunc hok hfi _ w)
        have hst := st_op_enter (P := P) (cs := cs) (k := k) (ds := ds) (kd := kd) (ro := ro) (fn := fn) (rest := rest) ho hwant (.inr hdef) h2
        obtain ⟨e, w', fr, ⟨ρ', x, rfl, g1, g2, g3⟩, hcomes, hfn, hleave⟩ := c4 vs w ρ X w0 F h1 (hd.congr fun h => (hlook h).symm) hF (⟨fn, tm, .inRegion ops (i :: rest) :: k, ds, .run, kd, ro⟩ :: cs)
        have hlast := step_leave_returned (c := ⟨fn, tm, .inRegion ops (i :: rest) :: k, ds, .run, kd, ro⟩) (cs := cs) hleave
        rw [finish_region, hdst] at hlast
        refine ⟨ρ', x, w', g1, .head hst (Steps.trans hcomes (.one hlast)), fun y d hdd hy => ?_, g3.congr fun h => ?_⟩
        · dsimp only at hdd hy
          rw [hdd] at hy
          rw [nth_put hy]; exact g2
        · dsimp only
          split
          · rfl
          · rename_i hh
            rw [hlook, c3 h hh]
      · rw [List.mem_append, not_or] at hh
        exact ⟨hh.2, hh.1⟩
end
end Go.Sx
