/- Parts of the proof: Sx19, Sx21. -/
import Derived.Test.YtnoiijjkjcklpaaGreatZ9
/- Regions that draw their order: the plan of a region, made and looked at. -/
namespace Go.Sx
set_option linter.unusedSimpArgs false
set_option linter.unusedVariables false
open Go Go.RowKit Go.Cd Go.Proofs.YtnoiijjkjcklpaaGreat Go.MapKept

def tmpsOf : List Operand → List Nat
  | [] => []
  | .tmp t :: l => t :: tmpsOf l
  | _ :: l => tmpsOf l
theorem mem_tmpsOf [Val] {t : Nat} : ∀ {l : List Operand}, .tmp t ∈ l → t ∈ tmpsOf l
  | [], h => by simp at h
  | .tmp u :: l, h => by
    rcases List.mem_cons.1 h with e | e
    · injection e with e; subst e; simp [tmpsOf]
    · simp [tmpsOf, mem_tmpsOf e]
  | .const v :: l, h => by
    rcases List.mem_cons.1 h with e | e
    · cases e
    · simpa [tmpsOf] using mem_tmpsOf e
  | .global v :: l, h => by
    rcases List.mem_cons.1 h with e | e
    · cases e
    · simpa [tmpsOf] using mem_tmpsOf e
  | .func v :: l, h => by
    rcases List.mem_cons.1 h with e | e
    · cases e
    · simpa [tmpsOf] using mem_tmpsOf e
def readsT (ops : Array Oper) (o : Oper) : List Nat :=
  match o.guard with
  | none => tmpsOf o.op.operands.toList
  | some (j, _) => match (ops[j]?).bind (·.dst) with
    | some d => d :: tmpsOf o.op.operands.toList
    | none => tmpsOf o.op.operands.toList
abbrev Callee := List (Bm × Bool) → FuncId → List SV → Ents → Nat → Nat → Option (List Bm × SV × Ents × Nat × List Nat)
def CalleeOk [Val] (P : Program) (cal : Callee) : Prop :=
  ∀ as' f args ents next hi ps v ents' next' log', cal as' f args ents next hi = some (ps, v, ents', next', log') → next ≤ next' ∧ next' ≤ hi ∧ (∀ h, h ∉ log' → find ents' h = find ents h) ∧
    ((∀ p ∈ ps, p.v = true) → ∀ (vs : List Value) (w : World) (ρ : Env) (X : Nat → Prop) (w0 : World) (F : Nat → Prop), SV.DenL ρ args vs → DenH ρ X w0 (find ents) F w → (∀ j, next ≤ j → j < next' → F j) →
      Calls P f vs.toArray w fun e w' => ∃ ρ' x, e = .returned x ∧ ρ.le ρ' ∧ v.Den ρ' x ∧ DenH ρ' X w0 (find ents') (fun j => F j ∧ ¬ (next ≤ j ∧ j < next')) w')
def lookAs : List (Bm × Bool) → Bm → Option Bool
  | [], _ => none
  | (c, t) :: l, b => match Bm.same c b with
    | true => some t
    | false => lookAs l b
def isSo (b : Bm) (t : Bool) : Bm := match t with
  | true => b
  | false => .not b
theorem isSo_v [Val] {b : Bm} {t : Bool} (h : (isSo b t).v = true) : b.v = t := by
  cases t
  · simpa [isSo, Bm.v] using h
  · exact h
def outNeeds (as' : List (Bm × Bool)) : OOut → Option (List Bm × SV × List Upd)
  | .val v us _ => some ([], v, us)
  | .need p x => match outNeeds as' x with
    | some (l, v, us) => some (p :: l, v, us)
    | none => none
  | .split b x y => match lookAs as' b with
    | some true => match outNeeds as' x with
      | some (l, v, us) => some (isSo b true :: l, v, us)
      | none => none
    | some false => match outNeeds as' y with
      | some (l, v, us) => some (isSo b false :: l, v, us)
      | none => none
    | none => none
  | _ => none
def outAsk (as' : List (Bm × Bool)) : OOut → Option Bm
  | .need _ x => outAsk as' x
  | .split b x y => match lookAs as' b with
    | some true => outAsk as' x
    | some false => outAsk as' y
    | none => some b
  | _ => none
theorem outNeeds_ok [Val] {P : Program} {ρ : Env} {X : Nat → Prop} {w0 w : World} {look : Look} {fresh : Nat → Prop} {id : Nat} {sem : Sem Next} {as' : List (Bm × Bool)} : ∀ {x : OOut} {l : List Bm} {v : SV} {us : List Upd}, outNeeds as' x = some (l, v, us) → OGood P ρ X w0 look fresh id x sem w → (∀ p ∈ l, p.v = true) → Good P ρ X w0 look fresh id (v, us, []) sem w
  | .val v us ts, l, v', us', h, hg, _ => by
    simp only [outNeeds, Option.some.injEq, Prod.mk.injEq] at h
    obtain ⟨rfl, rfl, rfl⟩ := h
    exact hg
  | .need p x, l, v', us', h, hg, hl => by
    unfold outNeeds at h
    split at h <;> cases h
    rename_i l' h1
    exact outNeeds_ok h1 (hg (hl p (List.mem_cons_self ..))) fun q hq => hl q (List.mem_cons_of_mem _ hq)
  | .split b x y, l, v', us', h, hg, hl => by
    unfold outNeeds at h
    split at h
    · split at h <;> cases h
      rename_i l' h1
      exact outNeeds_ok h1 (hg.1 (isSo_v (hl _ (List.mem_cons_self ..)))) fun q hq => hl q (List.mem_cons_of_mem _ hq)
    · split at h <;> cases h
      rename_i l' h1
      exact outNeeds_ok h1 (hg.2 (isSo_v (hl _ (List.mem_cons_self ..)))) fun q hq => hl q (List.mem_cons_of_mem _ hq)
    · cases h
  | .enter _ _, _, _, _, h, _, _ => by cases h
  | .yield _ _, _, _, _, h, _, _ => by cases h
  | .dfr _ _ _, _, _, _, h, _, _ => by cases h
  | .pan _, _, _, _, h, _, _ => by cases h
  | .rcv, _, _, _, h, _, _ => by cases h
  | .stuck _, _, _, _, h, _, _ => by cases h
def wantAs (as' : List (Bm × Bool)) : Want → Want × List Bm
  | .ask b want => match lookAs as' b with
    | some v => match v == want with
      | true => (.yes, [isSo b v])
      | false => (.no, [isSo b v])
    | none => (.unk, [])
  | w => (w, [])
theorem wantAs_ok [Val] (as' : List (Bm × Bool)) {w : Want} {x : Bool} (h : match w with
    | .yes => x = true
    | .no => x = false
    | .ask b want => x = (b.v == want)
    | .unk => True) : match wantAs as' w with
    | (.yes, qs) => (∀ p ∈ qs, p.v = true) → x = true
    | (.no, qs) => (∀ p ∈ qs, p.v = true) → x = false
    | _ => True := by
  have so : ∀ (b : Bm) (v : Bool), (∀ p ∈ [isSo b v], p.v = true) → b.v = v := fun b v h => by
    have := h _ (List.mem_singleton.2 rfl)
    cases v
    · simpa [isSo, Bm.v] using this
    · exact this
  cases w with
  | yes => exact fun _ => h
  | no => exact fun _ => h
  | unk => trivial
  | ask b want =>
    simp only [wantAs]
    cases hl : lookAs as' b with
    | none => trivial
    | some v =>
      simp only
      cases hv : (v == want) with
      | true =>
        intro hp
        dsimp only at h
        rw [h, so b v hp, hv]
      | false =>
        intro hp
        dsimp only at h
        rw [h, so b v hp, hv]
def KeepsW (P : Program) {α : Type} (s : Sem α) : Prop := ∀ w v w', s.run P w = .ok v w' → w' = w
section
variable {P : Program}
theorem keeps_pure {α : Type} (a : α) : KeepsW P (pure a : Sem α) := fun w v w' h => by
  rw [Sem.run_pure] at h; injection h with _ h; exact h.symm
theorem keeps_bind {α β : Type} {s : Sem α} {f : α → Sem β} (h1 : KeepsW P s) (h2 : ∀ a, KeepsW P (f a)) : KeepsW P (s >>= f) := fun w v w' h => by
  rw [Sem.run_bind] at h
  cases hs : s.run P w with
  | ok a w1 =>
    rw [hs] at h
    have := h1 _ _ _ hs
    subst this
    exact h2 a _ _ _ h
  | halt x w1 => rw [hs] at h; cases h
theorem keeps_load (a : Addr) : KeepsW P (load a) := fun w v w' h => by
  unfold load at h
  simp only [Sem.run] at h
  split at h
  · injection h with _ h; exact h.symm
  · split at h
    · injection h with _ h; exact h.symm
    · cases h
theorem keeps_stuck {α : Type} (s : String) : KeepsW P (stuck s : Sem α) := fun w v w' h => by cases h
theorem keeps_program : KeepsW P program := fun w v w' h => by
  have h : Result.ok P w = .ok v w' := h
  injection h with _ h; exact h.symm
theorem keeps_typeInfo (t : TypeId) : KeepsW P (typeInfo t) := by
  unfold typeInfo
  refine keeps_bind keeps_program fun p => ?_
  split
  · exact keeps_pure _
  · exact keeps_stuck _
theorem keeps_underlying (t : TypeId) : KeepsW P (underlying t) := by
  unfold underlying
  refine keeps_bind keeps_program fun p => ?_
  split
  · exact keeps_pure _
  · exact keeps_stuck _
theorem keeps_loadCellsFrom (a : Addr) : ∀ (n i : Nat) (acc : Array Value), KeepsW P (loadCellsFrom a i n acc)
  | 0, _, _ => keeps_pure _
  | n + 1, i, acc => keeps_bind (keeps_load _) fun v => keeps_loadCellsFrom a n (i + 1) (acc.push v)
theorem keeps_loadAt (t : TypeId) (v : Value) : KeepsW P (Instr.loadAt t v) := by
  unfold Instr.loadAt
  refine keeps_bind ?_ fun a => ?_
  · unfold Instr.sureAddr
    split
    · exact keeps_pure _
    · exact keeps_stuck _
  · unfold loadVar isAgg sizeOf
    refine keeps_bind (keeps_bind (keeps_underlying t) fun d => ?_) fun b => ?_
    · split <;> exact keeps_pure _
    · split
      · exact keeps_bind (keeps_bind (keeps_typeInfo t) fun i => keeps_pure _) fun n => keeps_bind (keeps_loadCellsFrom a n 0 #[]) fun c => keeps_pure _
      · exact keeps_load a
theorem keeps_loadOp {e : Operand → Value} {o : Oper} {t : TypeId} {a : Operand} (h : o.op = .load t a) : KeepsW P (execOp e o) := by
  obtain ⟨dst, op', ty, pos, after, guard⟩ := o
  dsimp only at h; subst h
  exact keeps_bind (keeps_loadAt t _) fun v => keeps_pure _
end
def memL0 (n : Nat) : List Nat → Bool
  | [] => false
  | x :: l => match Nat.beq x n with
    | true => true
    | false => memL0 n l
theorem memL0_ok {n : Nat} : ∀ {l : List Nat}, memL0 n l = true → n ∈ l
  | [], h => by cases h
  | x :: l, h => by
    unfold memL0 at h
    split at h
    · rename_i hx; have := Nat.eq_of_beq_eq_true hx; subst this; exact List.mem_cons_self ..
    · exact List.mem_cons_of_mem _ (memL0_ok h)
def svN : List SV → List Nat
  | [] => []
  | .ptr h _ :: l => h :: svN l
  | .sl h _ _ _ :: l => h :: svN l
  | .map h :: l => h :: svN l
  | _ :: l => svN l
def frzN : Ents → List Nat
  | [] => []
  | (h, o) :: l => match o.frz with
    | true => h :: frzN l
    | false => frzN l
def restr (rl : List Nat) (look : Look) : Look := fun h => match memL0 h rl with
  | true => look h
  | false => none
theorem restr_eq {rl : List Nat} {l k : Look} (h : ∀ x ∈ rl, l x = k x) : restr rl l = restr rl k := by
  funext x
  unfold restr
  split
  · rename_i hx; exact h x (memL0_ok hx)
  · rfl
theorem restr_some {rl : List Nat} {l : Look} {h : Nat} {o : SObj} (e : restr rl l h = some o) : l h = some o := by
  unfold restr at e
  split at e
  · exact e
  · cases e
def axLocal (ax : Ax) (as' : List (Bm × Bool)) (ops : Array Oper) (qs : List Bm) (o : Oper) (s : St) : Option (St × Foot) := match o.op with
  | .load _ _ => match evs (evalS s.tmps) o.op.operands.toList with
    | some xs => match ax (restr (svN xs ++ frzN s.ents) (find s.ents)) s.next o.op (some xs) with
      | some out => match outNeeds as' out with
        | some (ps, v, []) => some ({ tmps := putS s.tmps o.dst v, ents := s.ents, next := s.next + 2, log := s.log }, { rt := readsT ops o, wt := o.dst, all := false, rh := svN xs ++ frzN s.ents, wh := [], need := qs ++ ps })
        | _ => none
      | none => none
    | none => none
  | _ => none
def dOne (P : Program) (ax : Ax) (cal : Callee) (as' : List (Bm × Bool)) (ops : Array Oper) (hi : Nat) (o : Oper) (s : St) : Option (St × Foot) :=
  match wantAs as' (wantS ops s.tmps o) with
  | (.no, qs) => some ({ s with tmps := putS s.tmps o.dst undefS }, { rt := readsT ops o, wt := o.dst, all := false, rh := [], wh := [], need := qs })
  | (.yes, qs) => match isDefer o.op, Nat.ble (s.next + 2) hi with
    | false, true => match ax (find s.ents) s.next o.op (evs (evalS s.tmps) o.op.operands.toList) with
     | some out => match axLocal ax as' ops qs o s with
      | some r => some r
      | none => match outNeeds as' out with
       | some (ps, v, us) => some ({ tmps := putS s.tmps o.dst v, ents := appUs us s.ents, next := s.next + 2, log := logUs us s.log }, { rt := readsT ops o, wt := o.dst, all := true, rh := [], wh := us.map updH, need := qs ++ ps })
       | none => none
     | none => match sop P (find s.ents) s.next (evalS s.tmps) o.op with
      | .val v us _ => some ({ tmps := putS s.tmps o.dst v, ents := appUs us s.ents, next := s.next + 2, log := logUs us s.log }, { rt := readsT ops o, wt := o.dst, all := false, rh := sReads (evalS s.tmps) o.op, wh := us.map updH, need := qs })
      | .enter f args => match fnOf P f, cal as' f args s.ents s.next hi with
        | some _, some (ps, v, ents', next', log') => match Nat.ble (s.next + 2) next' with
          | true => some ({ tmps := putS s.tmps o.dst v, ents := ents', next := next', log := log' ++ s.log }, { rt := readsT ops o, wt := o.dst, all := true, rh := [], wh := log', need := qs ++ ps })
          | false => none
        | _, _ => none
      | .split b x y => match outNeeds as' (.split b x y) with
        | some (ps, v, us) => some ({ tmps := putS s.tmps o.dst v, ents := appUs us s.ents, next := s.next + 2, log := logUs us s.log }, { rt := readsT ops o, wt := o.dst, all := true, rh := [], wh := us.map updH, need := qs ++ ps })
        | none => none
      | _ => none
    | _, _ => none
  | _ => none
def evR (rt : List Nat) (tmps : List SV) : Ev
  | .tmp t => if t ∈ rt then nth tmps t else none
  | .const v => ofVal v
  | .func f => some (.fn (.func f) [] [])
  | .global _ => none
section
variable {P : Program} {ops : Array Oper} {hi : Nat}
theorem wantS_ok2 [Val] {ρ : Env} {tmps : List SV} {tm : Array Value} (o : Oper) (h : ∀ t ∈ readsT ops o, (∀ x, nth tmps t = some x → ∃ v, tm[t]? = some v ∧ x.Den ρ v) ∧ (nth tmps t = none → tm[t]? = none)) :
    match wantS ops tmps o with
    | .yes => Region.wanted o (yielded ops tm) = true
    | .no => Region.wanted o (yielded ops tm) = false
    | .ask b want => Region.wanted o (yielded ops tm) = (b.v == want)
    | .unk => True := by
  unfold wantS Region.wanted
  unfold readsT at h
  cases hg : o.guard with
  | none => simp
  | some p =>
    obtain ⟨j, want⟩ := p
    rw [hg] at h
    simp only at h ⊢
    cases hd : (ops[j]?).bind (·.dst) with
    | none => simp [yielded, hd]
    | some d =>
      rw [hd] at h
      simp only at h ⊢
      obtain ⟨h1, h2⟩ := h d (by simp)
      have hyn : tm[d]? = none → yielded ops tm j = none := fun e => by simp [yielded, hd, e]
      have hyb : ∀ b, tm[d]? = some (.bool b) → yielded ops tm j = some b := fun b e => by simp [yielded, hd, e]
      have hyo : ∀ v, tm[d]? = some v → (∀ b, v ≠ .bool b) → yielded ops tm j = none := fun v e hb => by
        simp only [yielded, hd, Option.bind_some, e]
        cases v <;> first | rfl | exact absurd rfl (hb _)
      cases hn : nth tmps d with
      | none => simp [hyn (h2 hn)]
      | some s =>
        obtain ⟨v, hv', hs⟩ := h1 s hn
        cases s with
        | bool b =>
          simp only [SV.Den] at hs; subst hs
          have := hyb _ hv'
          cases b with
          | lit b => cases b <;> cases want <;> simp [this]
          | sym b => cases hb : b.v <;> cases want <;> simp [this, SB.v, hb]
        | any => trivial
        | _ =>
          have := hyo v hv' (fun b e => by
            subst e
            simp only [SV.Den] at hs
            first
              | (cases hs; done)
              | (obtain ⟨_, _, _, h, _⟩ := hs; cases h; done)
              | (obtain ⟨_, _, _, _, h⟩ := hs; cases h; done)
              | (obtain ⟨_, _, _, _, _, _, _, _, _, h⟩ := hs; cases h; done)
              | (obtain ⟨_, _, h⟩ := hs; cases h; done)
              | (obtain ⟨_, _, _, _, _, _, h⟩ := hs; cases h; done))
          simp [this]
theorem nth_put [Val] {tmps : List SV} {d : Nat} {v x : SV} (h : nth (putS tmps (some d) v) d = some x) : x = v := by
  simp only [putS, setN_eq, nth_eq] at h
  rw [List.getElem?_set] at h
  simp only [if_true] at h
  split at h
  · injection h with h; exact h.symm
  · cases h
theorem nth_put_other [Val] {tmps : List SV} {dst : Option Tmp} {v : SV} {t : Nat} (h : dst ≠ some t) : nth (putS tmps dst v) t = nth tmps t := by
  cases dst with
  | none => rfl
  | some d =>
    simp only [putS, setN_eq, nth_eq]
    rw [List.getElem?_set_ne (fun e => h (by rw [e]))]
theorem len_put [Val] {tmps : List SV} {dst : Option Tmp} {v : SV} : (putS tmps dst v).length = tmps.length := by
  cases dst <;> simp [putS, setN_eq]
theorem looks_split [Val] : ∀ (us : List Upd) (l l' : Look) (h : Nat), (h ∈ us.map updH → looks us l h = looks us l' h) ∧ (h ∉ us.map updH → looks us l h = l h)
  | [], l, l', h => by simp [looks]
  | u :: us, l, l', h => by
    have ih := looks_split us (u.look l) (u.look l') h
    refine ⟨fun hm => ?_, fun hm => ?_⟩
    · by_cases c : h ∈ us.map updH
      · exact ih.1 c
      · have e1 := ih.2 c
        have e2 := (looks_split us (u.look l') (u.look l) h).2 c
        simp only [looks]
        rw [e1, e2]
        have : h = updH u := by
          rw [List.map_cons, List.mem_cons] at hm
          exact hm.resolve_right c
        subst this
        cases u <;> simp [Upd.look, updH]
    · rw [List.map_cons, List.mem_cons, not_or] at hm
      simp only [looks]
      rw [ih.2 hm.2]
      have := hm.1
      cases u <;> simp [Upd.look, updH] at this ⊢ <;> simp [this]
structure Next1 (s s' : St) (f : Foot) (o : Oper) (hi : Nat) : Prop where
  next : s.next ≤ s'.next
  le : s'.next ≤ max s.next hi
  len : s'.tmps.length = s.tmps.length
  wt : f.wt = o.dst
  tmp : ∀ t, f.wt ≠ some t → nth s'.tmps t = nth s.tmps t
  heap : ∀ h, h ∉ f.wh → find s'.ents h = find s.ents h
  log : ∀ h, h ∉ s'.log → h ∉ s.log ∧ h ∉ f.wh
theorem logUs_mem [Val] {us : List Upd} {l : List Nat} {h : Nat} (hn : h ∉ logUs us l) : h ∉ l ∧ h ∉ us.map updH := by
  induction us with
  | nil => exact ⟨hn, by simp⟩
  | cons u us ih =>
    simp only [logUs, List.mem_cons, not_or] at hn
    obtain ⟨h1, h2⟩ := ih hn.2
    exact ⟨h1, by simp [hn.1, h2]⟩
theorem dOne_ok [Val] (hok : FnOk P) {ax : Ax} (hax : AxOk P ax) (hs : AxSafe ax) {cal : Callee} (hcal : CalleeOk P cal) {i : Nat} {o : Oper} {s s' : St} {f : Foot} (ho : ops[i]? = some o) {as' : List (Bm × Bool)} (h : dOne P ax cal as' ops hi o s = some (s', f)) : ((∀ p ∈ f.need, p.v = true) → OpSem P ops i s s' f) ∧ Next1 s s' f o hi := by
  have hdst : (ops[i]?).bind (·.dst) = o.dst := by rw [ho]; rfl
  unfold dOne at h
  split at h <;> try cases h
  · -- not wanted
    rename_i qs hw
    refine ⟨fun hqs => ?_, ⟨Nat.le_refl _, Nat.le_max_left _ _, len_put, rfl, fun t ht => nth_put_other ht, fun _ _ => rfl, fun h hh => ⟨hh, by simp⟩⟩⟩
    intro ρ X w0 F look cs fn tm rest k ds kd ro w ht _ _ hd _
    have hwant := wantAs_ok as' (wantS_ok2 o ht)
    rw [hw] at hwant
    have hwant := hwant hqs
    have hst := st_op_skip (P := P) (cs := cs) (w := w) (k := k) (ds := ds) (kd := kd) (ro := ro) (fn := fn) (ops := ops) (i := i) (rest := rest) (tmps := tm) (by simp [ho, hwant])
    rw [hdst] at hst
    refine ⟨ρ, undef, w, Env.le_refl _, .one hst, fun x d hdd hx => ?_, (hd.congr fun h => by simp).fresh_mono fun j hj => hj.1⟩
    dsimp only at hdd hx
    rw [hdd] at hx
    rw [nth_put hx]; exact undefS_den
  · -- wanted
    rename_i qs hw
    split at h <;> try cases h
    rename_i hdef hble
    have hble := Nat.le_of_ble_eq_true hble
    have evok : ∀ {ρ : Env} {tm : Array Value}, (∀ t ∈ readsT ops o, (∀ x, nth s.tmps t = some x → ∃ v, tm[t]? = some v ∧ x.Den ρ v) ∧ (nth s.tmps t = none → tm[t]? = none)) → EvOk ρ (evR (readsT ops o) s.tmps) (evalF tm) := fun {ρ tm} ht x y e => by
      cases x with
      | tmp t =>
        simp only [evR] at e
        split at e
        · rename_i hm
          obtain ⟨v, hv, hs⟩ := (ht t hm).1 y e
          simpa [evalF, hv] using hs
        · cases e
      | const v => exact ofVal_den e
      | global g => cases e
      | func f =>
        simp only [evR, Option.some.injEq] at e; subst e
        simp only [SV.Den, SFn.Den, evalF]
        exact ⟨_, [], [], rfl, by simp, by simp, rfl⟩
    have evsame : ∀ x ∈ o.op.operands, evalS s.tmps x = evR (readsT ops o) s.tmps x := fun x hx => by
      cases x with
      | tmp t =>
        have hm : t ∈ readsT ops o := by
          have : t ∈ tmpsOf o.op.operands.toList := mem_tmpsOf (by simpa using hx)
          unfold readsT
          split
          · exact this
          · split
            · exact List.mem_cons_of_mem _ this
            · exact this
        simp only [evalS, evR, if_pos hm]
      | const v => rfl
      | global g => rfl
      | func f => rfl
    split at h
    · -- an operation of one's own
      rename_i out hout
      split at h
      · -- a load
        rename_i r hloc
        cases h
        unfold axLocal at hloc
        split at hloc <;> try (cases hloc; done)
        rename_i t0 a0 hop
        split at hloc <;> try (cases hloc; done)
        rename_i xs hxs
        split at hloc <;> try (cases hloc; done)
        rename_i out2 hout2
        split at hloc <;> cases hloc
        rename_i ps v hneeds
        refine ⟨fun hps => ?_, ⟨by simp, by simp; omega, len_put, rfl, fun t ht => nth_put_other ht, fun h hh => rfl, fun h hh => ⟨hh, by simp⟩⟩⟩
        intro ρ X w0 F look cs fn tm rest k ds kd ro w ht hall hrh hd hF
        have hwant := wantAs_ok as' (wantS_ok2 o ht)
        rw [hw] at hwant
        have hwant := hwant fun p hp => hps p (List.mem_append_left _ hp)
        have hps := fun p hp => hps p (List.mem_append_right _ hp)
        have hse : evs (evalS s.tmps) o.op.operands.toList = evs (evR (readsT ops o) s.tmps) o.op.operands.toList := evs_congr fun x hx => evsame x (by simpa using hx)
        rw [hse] at hxs
        rw [← restr_eq (l := look) (k := find s.ents) fun x hx => hrh x hx] at hout2
        have hd2 : DenH ρ X w0 (restr (svN xs ++ frzN s.ents) look) F w := hd.drop fun j o' e => restr_some e
        have hg := hax _ _ _ _ _ hout2 ρ X w0 w F (evalF tm) o rfl (evs_ok (evok ht) hxs) hd2 (hF _ (Nat.le_refl _) (by simp)) (hF (s.next + 1) (by omega) (by simp))
        have hg := outNeeds_ok hneeds hg hps
        obtain ⟨nx, val, ρ', w', g1, g2, g3, g4, g5⟩ := hg
        have hww := keeps_loadOp hop w nx w' g1
        subst hww
        have hst := st_op_val (P := P) (cs := cs) (k := k) (ds := ds) (kd := kd) (ro := ro) (fn := fn) (rest := rest) ho hwant (.inr hdef) g1 g2
        refine ⟨ρ', val, w', g3, .one hst, fun x d hdd hx => ?_, ((hd.env g3 (fresh' := fun j => F j ∧ j ≠ s.next ∧ j ≠ s.next + 1) fun j hj => g5.newName hj).congr fun h => by simp).fresh_mono fun j hj => ⟨hj.1, ?_, ?_⟩⟩
        · dsimp only at hdd hx
          rw [hdd] at hx
          rw [nth_put hx]; exact g4
        · have := hj.2; dsimp only at this; omega
        · have := hj.2; dsimp only at this; omega
      split at h <;> cases h
      rename_i ps v us hneeds
      refine ⟨fun hps => ?_, ⟨by simp, by simp; omega, len_put, rfl, fun t ht => nth_put_other ht, fun h hh => ?_, fun h hh => logUs_mem hh⟩⟩
      · intro ρ X w0 F look cs fn tm rest k ds kd ro w ht hall hrh hd hF
        have hlook : look = find s.ents := funext fun h => hall rfl h
        subst hlook
        have hwant := wantAs_ok as' (wantS_ok2 o ht)
        rw [hw] at hwant
        have hwant := hwant fun p hp => hps p (List.mem_append_left _ hp)
        have hps := fun p hp => hps p (List.mem_append_right _ hp)
        have hse : evs (evalS s.tmps) o.op.operands.toList = evs (evR (readsT ops o) s.tmps) o.op.operands.toList := evs_congr fun x hx => evsame x (by simpa using hx)
        have hg : OGood P ρ X w0 (find s.ents) F s.next out (execOp (evalF tm) o) w := by
          rw [hse] at hout
          cases hx : evs (evR (readsT ops o) s.tmps) o.op.operands.toList with
          | none => rw [hx, hs] at hout; cases hout
          | some xs =>
            rw [hx] at hout
            exact hax _ _ _ _ _ hout ρ X w0 w F (evalF tm) o rfl (evs_ok (evok ht) hx) hd (hF _ (Nat.le_refl _) (by simp)) (hF (s.next + 1) (by omega) (by simp))
        have hg := outNeeds_ok hneeds hg hps
        obtain ⟨nx, val, ρ', w', g1, g2, g3, g4, g5⟩ := hg
        have hst := st_op_val (P := P) (cs := cs) (k := k) (ds := ds) (kd := kd) (ro := ro) (fn := fn) (rest := rest) ho hwant (.inr hdef) g1 g2
        refine ⟨ρ', val, w', g3, .one hst, fun x d hdd hx => ?_, (g5.congr fun h => ?_).fresh_mono fun j hj => ⟨hj.1, ?_, ?_⟩⟩
        · dsimp only at hdd hx
          rw [hdd] at hx
          rw [nth_put hx]; exact g4
        · dsimp only
          rw [find_appUs]
          by_cases c : h ∈ us.map updH
          · rw [if_pos c]
          · rw [if_neg c]; exact ((looks_split us (find s.ents) (find s.ents) h).2 c).symm
        · have := hj.2; dsimp only at this; omega
        · have := hj.2; dsimp only at this; omega
      · dsimp only at hh ⊢
        rw [find_appUs]
        exact (looks_split us (find s.ents) (find s.ents) h).2 hh
    split at h <;> try cases h
    · -- a value
      rename_i v us ts hsop
      refine ⟨fun hqs => ?_, ⟨by simp, by simp; omega, len_put, rfl, fun t ht => nth_put_other ht, fun h hh => ?_, fun h hh => logUs_mem hh⟩⟩
      · intro ρ X w0 F look cs fn tm rest k ds kd ro w ht _ hrh hd hF
        have hwant := wantAs_ok as' (wantS_ok2 o ht)
        rw [hw] at hwant
        have hwant := hwant hqs
        have hs2 := sop_congr (P := P) (id := s.next) (look := find s.ents) (look' := look) evsame (fun h hh => (hrh h hh).symm)
        rw [hsop] at hs2
        have hg := sop_ok hok (evok ht) hd (hF _ (Nat.le_refl _) (by simp)) (hF (s.next + 1) (by omega) (by simp)) o
        rw [← hs2] at hg
        obtain ⟨nx, val, ρ', w', g1, g2, g3, g4, g5⟩ := hg
        have hst := st_op_val (P := P) (cs := cs) (k := k) (ds := ds) (kd := kd) (ro := ro) (fn := fn) (rest := rest) ho hwant (.inr hdef) g1 g2
        refine ⟨ρ', val, w', g3, .one hst, fun x d hdd hx => ?_, (g5.congr fun h => ?_).fresh_mono fun j hj => ⟨hj.1, ?_, ?_⟩⟩
        · dsimp only at hdd hx
          rw [hdd] at hx
          rw [nth_put hx]; exact g4
        · dsimp only
          rw [find_appUs]
          by_cases c : h ∈ us.map updH
          · rw [if_pos c]; exact (looks_split us _ _ h).1 c
          · rw [if_neg c]; exact ((looks_split us look look h).2 c).symm
        · have := hj.2; dsimp only at this; omega
        · have := hj.2; dsimp only at this; omega
      · dsimp only at hh ⊢
        rw [find_appUs]
        exact (looks_split us (find s.ents) (find s.ents) h).2 hh
    · -- a call
      rename_i g args hsop
      split at h <;> try cases h
      rename_i ps v ents' next' log' hfi hc
      split at h <;> cases h
      have hn2 : s.next + 2 ≤ next' := Nat.le_of_ble_eq_true (by assumption)
      obtain ⟨c1, c2, c3, c4⟩ := hcal _ _ _ _ _ _ _ _ _ _ _ hc
      refine ⟨fun hqs => ?_, ⟨c1, by simp; omega, len_put, rfl, fun t ht => nth_put_other ht, c3, fun h hh => ?_⟩⟩
      · intro ρ X w0 F look cs fn tm rest k ds kd ro w ht hall hrh hd hF
        have hlook : ∀ h, look h = find s.ents h := hall rfl
        have hwant := wantAs_ok as' (wantS_ok2 o ht)
        rw [hw] at hwant
        have hwant := hwant fun p hp => hqs p (List.mem_append_left _ hp)
        have c4 := c4 fun p hp => hqs p (List.mem_append_right _ hp)
        have hs2 := sop_congr (P := P) (id := s.next) (look := find s.ents) (look' := look) evsame (fun h hh => (hlook h).symm)
        rw [hsop] at hs2
        have hg := sop_ok hok (evok ht) hd (hF _ (Nat.le_refl _) (by simp; omega)) (hF (s.next + 1) (by omega) (by simp; omega)) o
        rw [← hs2] at hg
        obtain ⟨vs, h1, h2⟩ := hg
        have h2 := h2.trans (run_callFunc hok hfi _ w)
        have hst := st_op_enter (P := P) (cs := cs) (k := k) (ds := ds) (kd := kd) (ro := ro) (fn := fn) (rest := rest) ho hwant (.inr hdef) h2
        obtain ⟨e, w', fr, ⟨ρ', x, rfl, g1, g2, g3⟩, hcomes, hfn, hleave⟩ := c4 vs w ρ X w0 F h1 (hd.congr fun h => (hlook h).symm) hF (⟨fn, tm, .inRegion ops (i :: rest) :: k, ds, .run, kd, ro⟩ :: cs)
        have hlast := step_leave_returned (c := ⟨fn, tm, .inRegion ops (i :: rest) :: k, ds, .run, kd, ro⟩) (cs := cs) hleave
        rw [finish_region, hdst] at hlast
        refine ⟨ρ', x, w', g1, .head hst (Steps.trans hcomes (.one hlast)), fun y d hdd hy => ?_, g3.congr fun h => ?_⟩
        · dsimp only at hdd hy
          rw [hdd] at hy
          rw [nth_put hy]; exact g2
        · dsimp only
          split
          · rfl
          · rename_i hh
            rw [hlook, c3 h hh]
      · rw [List.mem_append, not_or] at hh
        exact ⟨hh.2, hh.1⟩
    · -- a value, by a test
      rename_i b x y hsop
      split at h <;> cases h
      rename_i ps v us hneeds
      refine ⟨fun hps => ?_, ⟨by simp, by simp; omega, len_put, rfl, fun t ht => nth_put_other ht, fun h hh => ?_, fun h hh => logUs_mem hh⟩⟩
      · intro ρ X w0 F look cs fn tm rest k ds kd ro w ht hall hrh hd hF
        have hlook : look = find s.ents := funext fun h => hall rfl h
        subst hlook
        have hwant := wantAs_ok as' (wantS_ok2 o ht)
        rw [hw] at hwant
        have hwant := hwant fun p hp => hps p (List.mem_append_left _ hp)
        have hps := fun p hp => hps p (List.mem_append_right _ hp)
        have hs2 := sop_congr (P := P) (id := s.next) (look := find s.ents) (look' := find s.ents) evsame (fun h hh => rfl)
        rw [hsop] at hs2
        have hg := sop_ok hok (evok ht) hd (hF _ (Nat.le_refl _) (by simp)) (hF (s.next + 1) (by omega) (by simp)) o
        rw [← hs2] at hg
        have hg := outNeeds_ok hneeds hg hps
        obtain ⟨nx, val, ρ', w', g1, g2, g3, g4, g5⟩ := hg
        have hst := st_op_val (P := P) (cs := cs) (k := k) (ds := ds) (kd := kd) (ro := ro) (fn := fn) (rest := rest) ho hwant (.inr hdef) g1 g2
        refine ⟨ρ', val, w', g3, .one hst, fun x d hdd hx => ?_, (g5.congr fun h => ?_).fresh_mono fun j hj => ⟨hj.1, ?_, ?_⟩⟩
        · dsimp only at hdd hx
          rw [hdd] at hx
          rw [nth_put hx]; exact g4
        · dsimp only
          rw [find_appUs]
          by_cases c : h ∈ us.map updH
          · rw [if_pos c]
          · rw [if_neg c]; exact ((looks_split us (find s.ents) (find s.ents) h).2 c).symm
        · have := hj.2; dsimp only at this; omega
        · have := hj.2; dsimp only at this; omega
      · dsimp only at hh ⊢
        rw [find_appUs]
        exact (looks_split us (find s.ents) (find s.ents) h).2 hh
end
end Go.Sx
/- Regions that draw their order: the whole region; calls within it. -/
namespace Go.Sx
set_option linter.unusedSimpArgs false
set_option linter.unusedVariables false
open Go Go.RowKit Go.Cd Go.Proofs.YtnoiijjkjcklpaaGreat Go.MapKept

def dAll (P : Program) (ax : Ax) (cal : Callee) (as' : List (Bm × Bool)) (ops : Array Oper) (hi : Nat) : List Oper → St → Option (List Foot × List St)
  | [], _ => some ([], [])
  | o :: l, s => match dOne P ax cal as' ops hi o s with
    | some (s', f) => match dAll P ax cal as' ops hi l s' with
      | some (fs, ss) => some (f :: fs, s' :: ss)
      | none => none
    | none => none
def mem (n : Nat) : List Nat → Bool
  | [] => false
  | x :: l => match Nat.beq x n with
    | true => true
    | false => mem n l
theorem mem_iff [Val] {n : Nat} : ∀ {l : List Nat}, mem n l = true ↔ n ∈ l
  | [] => by simp [mem]
  | x :: l => by
    unfold mem
    split
    · rename_i h; have := Nat.eq_of_beq_eq_true h; simp [this]
    · rename_i h; have := Nat.ne_of_beq_eq_false h; rw [mem_iff (l := l)]; simp [Ne.symm this]
theorem mem_false [Val] {n : Nat} {l : List Nat} (h : mem n l = false) : n ∉ l := fun hh => by rw [mem_iff.2 hh] at h; cases h
def none' : List Nat → List Nat → Bool
  | [], _ => true
  | x :: l, m => match mem x m with
    | true => false
    | false => none' l m
theorem none'_ok [Val] : ∀ {l m : List Nat}, none' l m = true → ∀ x ∈ l, x ∉ m
  | [], _, _, x, hx => by simp at hx
  | y :: l, m, h, x, hx => by
    unfold none' at h
    split at h
    · cases h
    · rename_i e
      rcases List.mem_cons.1 hx with rfl | hx
      · exact mem_false e
      · exact none'_ok h x hx
def isNil : List Nat → Bool
  | [] => true
  | _ => false
def noConfB (a b : Foot) : Bool :=
  (match a.wt with
    | some t => !(mem t b.rt) && (match b.wt with
      | some u => !(Nat.beq u t)
      | none => true)
    | none => true) &&
  (match b.wt with
    | some t => !(mem t a.rt)
    | none => true) &&
  (isNil a.wh || (!b.all && none' a.wh b.rh && none' a.wh b.wh)) &&
  (isNil b.wh || (!a.all && none' b.wh a.rh))
theorem noConfB_ok [Val] {a b : Foot} (h : noConfB a b = true) : NoConf a b := by
  unfold noConfB at h
  rw [Bool.and_eq_true, Bool.and_eq_true, Bool.and_eq_true] at h
  obtain ⟨⟨⟨h1, h2⟩, h3⟩, h4⟩ := h
  refine ⟨fun t ht => ?_, fun t ht => ?_, fun x hx => ?_, fun x hx => ?_⟩
  · rw [ht] at h1
    simp only [Bool.and_eq_true, Bool.not_eq_true'] at h1
    refine ⟨mem_false h1.1, fun e => ?_⟩
    rw [e] at h1
    have := h1.2
    simp at this
  · rw [ht] at h2
    simp only [Bool.not_eq_true'] at h2
    exact mem_false h2
  · rw [Bool.or_eq_true] at h3
    rcases h3 with h3 | h3
    · cases hw : a.wh with
      | nil => rw [hw] at hx; simp at hx
      | cons y l => rw [hw] at h3; cases h3
    · rw [Bool.and_eq_true, Bool.and_eq_true, Bool.not_eq_true'] at h3
      exact ⟨h3.1.1, none'_ok h3.1.2 x hx, none'_ok h3.2 x hx⟩
  · rw [Bool.or_eq_true] at h4
    rcases h4 with h4 | h4
    · cases hw : b.wh with
      | nil => rw [hw] at hx; simp at hx
      | cons y l => rw [hw] at h4; cases h4
    · rw [Bool.and_eq_true, Bool.not_eq_true'] at h4
      exact ⟨h4.1, none'_ok h4.2 x hx⟩
def bindsB (e : Edge) : Bool := Region.binds .any e
def nthN : List Nat → Nat → Nat
  | [], _ => 0
  | x :: _, 0 => x
  | _ :: l, n + 1 => nthN l n
theorem nthN_eq [Val] : ∀ (l : List Nat) (i : Nat), nthN l i = (l[i]?).getD 0
  | [], _ => by simp [nthN]
  | _ :: _, 0 => by simp [nthN]
  | _ :: l, i + 1 => by simp [nthN, nthN_eq l i]
def maskE (ms : List Nat) : List Edge → Nat
  | [] => 0
  | e :: es => match bindsB e with
    | true => Nat.lor (Nat.lor (2 ^ e.on) (nthN ms e.on)) (maskE ms es)
    | false => maskE ms es
def masks : List Nat → List Oper → List Nat
  | ms, [] => ms
  | ms, o :: l => masks (ms ++ [maskE ms o.after.toList]) l
theorem maskE_ok [Val] {ms : List Nat} : ∀ {es : List Edge} {i : Nat}, (maskE ms es).testBit i = true → ∃ e ∈ es, Region.binds .any e = true ∧ (i = e.on ∨ ((ms[e.on]?).getD 0).testBit i = true)
  | [], i, h => by simp [maskE] at h
  | e :: es, i, h => by
    unfold maskE at h
    split at h
    · rename_i hb
      have h' : ((2 ^ e.on ||| nthN ms e.on) ||| maskE ms es).testBit i = true := h
      rw [Nat.testBit_or, Nat.testBit_or, Bool.or_eq_true, Bool.or_eq_true] at h'
      rcases h' with (h' | h') | h'
      · rw [Nat.testBit_two_pow] at h'
        exact ⟨e, by simp, hb, .inl (by simpa using (of_decide_eq_true h').symm)⟩
      · rw [nthN_eq] at h'
        exact ⟨e, by simp, hb, .inr h'⟩
      · obtain ⟨e', h1, h2⟩ := maskE_ok h'
        exact ⟨e', by simp [h1], h2⟩
    · obtain ⟨e', h1, h2⟩ := maskE_ok h
      exact ⟨e', by simp [h1], h2⟩
theorem masks_ok [Val] {ops : Array Oper} : ∀ {l : List Oper} {ms : List Nat}, (∀ i, l[i]? = ops[ms.length + i]?) → (∀ j m i, ms[j]? = some m → m.testBit i = true → Bef ops i j) →
    (masks ms l).length = ms.length + l.length ∧ ∀ j m i, (masks ms l)[j]? = some m → m.testBit i = true → Bef ops i j
  | [], ms, _, h => ⟨by simp [masks], h⟩
  | o :: l, ms, hl, h => by
    unfold masks
    have ho : ops[ms.length]? = some o := by have := hl 0; simpa using this.symm
    obtain ⟨h1, h2⟩ := masks_ok (ops := ops) (l := l) (ms := ms ++ [maskE ms o.after.toList]) (fun i => by
      have := hl (i + 1)
      simp at this ⊢
      rw [this]; congr 1; omega) (fun j m i hj hm => by
      rw [List.getElem?_append] at hj
      split at hj
      · exact h j m i hj hm
      · rename_i hge
        have hj0 : j - ms.length = 0 := by
          have := (List.getElem?_eq_some_iff.1 hj).1
          simpa using this
        have hjj : j = ms.length := by omega
        subst hjj
        simp at hj; subst hj
        obtain ⟨e, he, hb, hc⟩ := maskE_ok hm
        have he' : e ∈ o.after := by simpa using he
        rcases hc with rfl | hc
        · exact .edge ho he' hb
        · cases hx : ms[e.on]? with
          | none => rw [hx] at hc; simp at hc
          | some m' =>
            rw [hx] at hc
            exact .step ho he' hb (h e.on m' i hx hc))
    exact ⟨by rw [h1]; simp; omega, h2⟩
def edgesB (i : Nat) : List Edge → Bool
  | [] => true
  | e :: es => match bindsB e with
    | true => match Nat.blt e.on i with
      | true => edgesB i es
      | false => false
    | false => edgesB i es
theorem edgesB_ok [Val] {i : Nat} : ∀ {es : List Edge}, edgesB i es = true → ∀ e ∈ es, Region.binds .any e = true → e.on < i
  | [], _, e, he, _ => by simp at he
  | x :: es, h, e, he, hb => by
    unfold edgesB at h
    split at h
    · split at h
      · rename_i hx hlt
        rcases List.mem_cons.1 he with rfl | he
        · exact Nat.le_of_ble_eq_true hlt
        · exact edgesB_ok h e he hb
      · cases h
    · rename_i hx
      rcases List.mem_cons.1 he with rfl | he
      · rw [bindsB, hb] at hx; cases hx
      · exact edgesB_ok h e he hb
def edgesAll : Nat → List Oper → Bool
  | _, [] => true
  | i, o :: l => match edgesB i o.after.toList with
    | true => edgesAll (i + 1) l
    | false => false
theorem edgesAll_ok [Val] : ∀ {l : List Oper} {k : Nat}, edgesAll k l = true → ∀ i o, l[i]? = some o → ∀ e ∈ o.after, Region.binds .any e = true → e.on < k + i
  | [], _, _, i, o, ho, _, _, _ => by simp at ho
  | x :: l, k, h, i, o, ho, e, he, hb => by
    unfold edgesAll at h
    split at h
    · rename_i h1
      cases i with
      | zero =>
        simp at ho; subst ho
        exact edgesB_ok h1 e (by simpa using he) hb
      | succ i =>
        have := edgesAll_ok h i o (by simpa using ho) e he hb
        omega
    · cases h
def pairOk (m : Nat) (fj : Foot) : Nat → List Foot → Bool
  | _, [] => true
  | i, f :: fs => match Nat.testBit m i with
    | true => pairOk m fj (i + 1) fs
    | false => match noConfB f fj with
      | true => pairOk m fj (i + 1) fs
      | false => false
theorem pairOk_ok [Val] {m : Nat} {fj : Foot} : ∀ {fs : List Foot} {k : Nat}, pairOk m fj k fs = true → ∀ i f, fs[i]? = some f → m.testBit (k + i) = true ∨ NoConf f fj
  | [], _, _, i, f, hf => by simp at hf
  | g :: fs, k, h, i, f, hf => by
    unfold pairOk at h
    have rest : pairOk m fj (k + 1) fs = true → ∀ i, fs[i]? = some f → m.testBit (k + (i + 1)) = true ∨ NoConf f fj := fun h i hf => by
      have := pairOk_ok h i f hf
      rwa [show k + 1 + i = k + (i + 1) by omega] at this
    split at h
    · rename_i hb
      cases i with
      | zero => exact .inl hb
      | succ i => exact rest h i (by simpa using hf)
    · split at h
      · rename_i hc
        cases i with
        | zero => simp at hf; subst hf; exact .inr (noConfB_ok hc)
        | succ i => exact rest h i (by simpa using hf)
      · cases h
def pairsAll : List Foot → List Foot → List Nat → Bool
  | _, [], _ => true
  | pre, f :: fs, m :: ms => match pairOk m f 0 pre with
    | true => pairsAll (pre ++ [f]) fs ms
    | false => false
  | _, _ :: _, [] => false
theorem pairsAll_ok [Val] : ∀ {fs pre : List Foot} {ms : List Nat}, pairsAll pre fs ms = true → ∀ i j f g m, i < pre.length + j → (pre ++ fs)[i]? = some f → fs[j]? = some g → ms[j]? = some m → m.testBit i = true ∨ NoConf f g
  | [], _, _, _, i, j, f, g, m, _, _, hg, _ => by simp at hg
  | x :: fs, pre, [], h, _, _, _, _, _, _, _, _, _ => by simp [pairsAll] at h
  | x :: fs, pre, y :: ms, h, i, j, f, g, m, hij, hf, hg, hm => by
    unfold pairsAll at h
    split at h
    · rename_i h1
      cases j with
      | zero =>
        simp at hg hm hij; subst hg hm
        rw [List.getElem?_append_left hij] at hf
        have := pairOk_ok h1 i f hf
        simpa using this
      | succ j =>
        exact pairsAll_ok h i j f g m (by simp; omega) (by simpa using hf) (by simpa using hg) (by simpa using hm)
    · cases h
def lastS : St → List St → St
  | s, [] => s
  | _, s :: l => lastS s l
def preLen : List Nat → Nat → Nat → Nat
  | [], _, z => z
  | m :: ms, i, z => match Nat.beq (m % 2 ^ i) (2 ^ i - 1) with
    | true => preLen ms (i + 1) z
    | false => preLen ms (i + 1) (i + 1)
theorem preLen_ok [Val] : ∀ {ms : List Nat} {i z : Nat}, z ≤ i → z ≤ preLen ms i z ∧ preLen ms i z ≤ i + ms.length ∧ ∀ j m, ms[j]? = some m → preLen ms i z ≤ i + j → ∀ q, q < i + j → m.testBit q = true
  | [], i, z, h => ⟨Nat.le_refl _, by simpa [preLen] using h, fun j m hj => by simp at hj⟩
  | x :: ms, i, z, h => by
    unfold preLen
    split
    · rename_i hb
      have hb := Nat.eq_of_beq_eq_true hb
      obtain ⟨h1, h2, h3⟩ := preLen_ok (ms := ms) (i := i + 1) (z := z) (by omega)
      refine ⟨h1, by simp; omega, fun j m hj hle q hq => ?_⟩
      cases j with
      | zero =>
        simp at hj; subst hj
        have : (x % 2 ^ i).testBit q = true := by
          rw [hb, Nat.testBit_two_pow_sub_one]; simpa using hq
        rw [Nat.testBit_mod_two_pow] at this
        simp at this
        exact this.2
      | succ j => exact h3 j m (by simpa using hj) (by omega) q (by omega)
    · obtain ⟨h1, h2, h3⟩ := preLen_ok (ms := ms) (i := i + 1) (z := i + 1) (Nat.le_refl _)
      refine ⟨by omega, by simp; omega, fun j m hj hle q hq => ?_⟩
      cases j with
      | zero => omega
      | succ j => exact h3 j m (by simpa using hj) (by omega) q (by omega)
def pre : List Oper → Nat → List Oper
  | o :: l, n + 1 => o :: pre l n
  | _, _ => []
theorem pre_get [Val] : ∀ {l : List Oper} {n i : Nat}, i < n → (pre l n)[i]? = l[i]?
  | [], 0, _, h => by omega
  | [], _ + 1, _, _ => by simp [pre]
  | _ :: _, 0, _, h => by omega
  | _ :: l, n + 1, 0, _ => by simp [pre]
  | _ :: l, n + 1, i + 1, h => by simp [pre, pre_get (l := l) (n := n) (i := i) (by omega)]
theorem pre_length [Val] : ∀ {l : List Oper} {n : Nat}, n ≤ l.length → (pre l n).length = n
  | [], 0, _ => rfl
  | [], _ + 1, h => by simp at h
  | _ :: _, 0, _ => rfl
  | _ :: l, n + 1, h => by simp [pre, pre_length (l := l) (n := n) (by simpa using h)]
def rangeF : Nat → Nat → List Nat
  | _, 0 => []
  | i, n + 1 => i :: rangeF (i + 1) n
theorem rangeF_eq [Val] : ∀ {n i : Nat}, rangeF i n = List.range' i n
  | 0, _ => rfl
  | n + 1, i => by rw [rangeF, List.range'_succ, rangeF_eq]
def needsOf : List Foot → List Bm
  | [] => []
  | f :: l => f.need ++ needsOf l
theorem needsOf_mem {p : Bm} : ∀ {l : List Foot} {i : Nat} {f : Foot}, l[i]? = some f → p ∈ f.need → p ∈ needsOf l
  | [], i, f, h, _ => by simp at h
  | g :: l, 0, f, h, hp => by
    simp at h; subst h
    exact List.mem_append_left _ hp
  | g :: l, i + 1, f, h, hp => List.mem_append_right _ (needsOf_mem (by simpa using h) hp)
def sDraw (P : Program) (ax : Ax) (cal : Callee) : Dr := fun as' ops tmps ents next hi log =>
  match masks [] ops.toList with
  | ms => match preLen ms 0 0 with
    | z => match Nat.ble next hi, dAll P ax cal as' ops hi (pre ops.toList z) ⟨tmps, ents, next, log⟩ with
      | true, some (fs, ss) => match edgesAll 0 ops.toList, pairsAll [] fs ms with
        | true, true => match lastS ⟨tmps, ents, next, log⟩ ss with
          | ⟨t, e, n, l⟩ => some (needsOf fs, t, e, n, l, rangeF z (ops.size - z))
        | _, _ => none
      | _, _ => none
abbrev CalAsk := List (Bm × Bool) → FuncId → List SV → Ents → Nat → Nat → Option Bm
def dAsk (P : Program) (ax : Ax) (cal : Callee) (cask : CalAsk) (as' : List (Bm × Bool)) (ops : Array Oper) (hi : Nat) : List Oper → St → Option Bm
  | [], _ => none
  | o :: l, s => match dOne P ax cal as' ops hi o s with
    | some (s', _) => dAsk P ax cal cask as' ops hi l s'
    | none => match wantAs as' (wantS ops s.tmps o), wantS ops s.tmps o with
      | (.yes, _), _ => match ax (find s.ents) s.next o.op (evs (evalS s.tmps) o.op.operands.toList) with
        | some out => outAsk as' out
        | none => match sop P (find s.ents) s.next (evalS s.tmps) o.op with
          | .enter f args => cask as' f args s.ents s.next hi
          | out => outAsk as' out
      | (.unk, _), .ask b _ => some b
      | _, _ => none
def sAsk (P : Program) (ax : Ax) (cal : Callee) (cask : CalAsk) : Ask := fun as' ops tmps ents next hi => dAsk P ax cal cask as' ops hi (pre ops.toList (preLen (masks [] ops.toList) 0 0)) ⟨tmps, ents, next, []⟩
section
variable {P : Program}
theorem dAll_spec [Val] {ax : Ax} {cal : Callee} {as' : List (Bm × Bool)} {ops : Array Oper} {hi : Nat} : ∀ {l : List Oper} {s : St} {fs : List Foot} {ss : List St}, dAll P ax cal as' ops hi l s = some (fs, ss) → fs.length = l.length ∧ ss.length = l.length ∧
    ∀ (i : Nat) (o : Oper), l[i]? = some o → ∃ si s' f, (s :: ss)[i]? = some si ∧ ss[i]? = some s' ∧ fs[i]? = some f ∧ dOne P ax cal as' ops hi o si = some (s', f)
  | [], s, _, _, h => by simp only [dAll, Option.some.injEq, Prod.mk.injEq] at h; obtain ⟨rfl, rfl⟩ := h; simp
  | o :: l, s, _, _, h => by
    unfold dAll at h
    split at h <;> try cases h
    rename_i s' f hs
    split at h <;> cases h
    rename_i fs ss hl
    obtain ⟨h1, h2, h3⟩ := dAll_spec hl
    refine ⟨by simp [h1], by simp [h2], fun i o' ho => ?_⟩
    cases i with
    | zero => simp at ho; subst ho; exact ⟨s, s', f, rfl, rfl, rfl, hs⟩
    | succ i =>
      obtain ⟨si, s2, f2, e1, e2, e3, e4⟩ := h3 i o' (by simpa using ho)
      exact ⟨si, s2, f2, by simpa using e1, by simpa using e2, by simpa using e3, e4⟩
theorem lastS_eq [Val] : ∀ (ss : List St) (s : St), lastS s ss = ((s :: ss)[ss.length]?).getD s
  | [], s => by simp [lastS]
  | x :: ss, s => by rw [lastS, lastS_eq ss x]; simp
def DrLog (dr : Dr) : Prop := ∀ as' ops tmps ents next hi log ps tmps' ents' next' log' rest, dr as' ops tmps ents next hi log = some (ps, tmps', ents', next', log', rest) → ∀ h, h ∉ log' → h ∉ log ∧ find ents' h = find ents h
theorem sDraw_ok [Val] (hok : FnOk P) (hm : P.follows .mixedOrders = true) {ax : Ax} (hax : AxOk P ax) (hs : AxSafe ax) {cal : Callee} (hcal : CalleeOk P cal) : DrOk P (sDraw P ax cal) ∧ DrLog (sDraw P ax cal) := by
  have key : ∀ as' ops tmps ents next hi log ps tmps' ents' next' log' rest, sDraw P ax cal as' ops tmps ents next hi log = some (ps, tmps', ents', next', log', rest) → ∃ st ft z, ((∀ p ∈ ps, p.v = true) → Plan P ops st ft hi z) ∧ st 0 = ⟨tmps, ents, next, log⟩ ∧ st z = ⟨tmps', ents', next', log'⟩ ∧ rest = List.range' z (ops.size - z) ∧
      ∀ i, i < z → ∀ h, h ∉ (st (i + 1)).log → h ∉ (st i).log ∧ find (st (i + 1)).ents h = find (st i).ents h := by
    intro as' ops tmps ents next hi log ps tmps' ents' next' log' rest h
    unfold sDraw at h
    dsimp only at h
    generalize hz : preLen (masks [] ops.toList) 0 0 = z at h
    have hmk := masks_ok (ops := ops) (l := ops.toList) (ms := []) (fun i => by simp) (fun j m i hj => by simp at hj)
    obtain ⟨z1, z2, z3⟩ := preLen_ok (ms := masks [] ops.toList) (Nat.le_refl 0)
    rw [hz] at z1 z2 z3
    have hmlen : (masks [] ops.toList).length = ops.size := by rw [hmk.1]; simp
    have hzle : z ≤ ops.size := by omega
    split at h <;> try (cases h; done)
    rename_i fs ss hble hd
    have hble := Nat.le_of_ble_eq_true hble
    split at h <;> try (cases h; done)
    rename_i hed hpa
    generalize hlast : lastS ⟨tmps, ents, next, log⟩ ss = L at h
    obtain ⟨t, e, n, l⟩ := L
    cases h
    obtain ⟨g1, g2, g3⟩ := dAll_spec hd
    generalize hs0 : (⟨tmps, ents, next, log⟩ : St) = s0 at *
    have hsz : (pre ops.toList z).length = z := pre_length (by simpa using hzle)
    rw [hsz] at g1 g2
    let st : Nat → St := fun i => ((s0 :: ss)[i]?).getD s0
    let ft : Nat → Foot := fun i => (fs[i]?).getD ⟨[], none, false, [], [], []⟩
    have each : ∀ i, i < z → ∃ o, ops[i]? = some o ∧ dOne P ax cal as' ops hi o (st i) = some (st (i + 1), ft i) := fun i hi' => by
      have hi2 : i < ops.size := by omega
      have ho : (pre ops.toList z)[i]? = some ops[i] := by rw [pre_get hi']; simp [hi2]
      obtain ⟨si, s', f, e1, e2, e3, e4⟩ := g3 i _ ho
      refine ⟨ops[i], by simp [hi2], ?_⟩
      have f1 : st i = si := by simp only [st, e1, Option.getD_some]
      have f2 : st (i + 1) = s' := by simp only [st, List.getElem?_cons_succ, e2, Option.getD_some]
      have f3 : ft i = f := by simp only [ft, e3, Option.getD_some]
      rw [f1, f2, f3]; exact e4
    have good : ∀ i, i < z → ∃ o, ops[i]? = some o ∧ ((∀ p ∈ (ft i).need, p.v = true) → OpSem P ops i (st i) (st (i + 1)) (ft i)) ∧ Next1 (st i) (st (i + 1)) (ft i) o hi := fun i hi' => by
      obtain ⟨o, ho, hd1⟩ := each i hi'
      obtain ⟨q1, q2⟩ := dOne_ok hok hax hs hcal ho hd1
      exact ⟨o, ho, q1, q2⟩
    have hle : ∀ k, k ≤ z → (st k).next ≤ hi := fun k => by
      induction k with
      | zero => intro _; simp only [st, List.getElem?_cons_zero, Option.getD_some]; rw [← hs0]; exact hble
      | succ k ih =>
        intro hk
        obtain ⟨o, _, _, n1⟩ := good k (by omega)
        have := n1.le
        have := ih (by omega)
        omega
    have hmj : ∀ j, j < ops.size → ∃ m, (masks [] ops.toList)[j]? = some m := fun j hj => by
      have : j < (masks [] ops.toList).length := by omega
      exact ⟨_, List.getElem?_eq_getElem this⟩
    refine ⟨st, ft, z, fun hps => ⟨fun i hi' => ?_, fun i hi' => ?_, hle _ (Nat.le_refl _), fun i hi' => ?_, fun i hi' => ?_, fun i hi' => ?_, fun i o ho e he hb => ?_, fun i j hij hj => ?_, hzle, fun j hj1 hj2 i hij => ?_⟩, ?_, ?_, rangeF_eq, fun i hi' h hh => ?_⟩
    · obtain ⟨o, _, q, _⟩ := good i hi'
      have hfi : fs[i]? = some (ft i) := by
        have : i < fs.length := by omega
        simp only [ft, List.getElem?_eq_getElem this, Option.getD_some]
      exact q fun p hp => hps p (needsOf_mem hfi hp)
    · obtain ⟨o, _, _, q⟩ := good i hi'; exact q.next
    · obtain ⟨o, _, _, q⟩ := good i hi'; exact q.len
    · obtain ⟨o, _, _, q⟩ := good i hi'; exact q.tmp
    · obtain ⟨o, _, _, q⟩ := good i hi'; exact q.heap
    · have := edgesAll_ok hed i o (by simpa using ho) e he hb
      simpa using this
    · have hfi : fs[i]? = some (ft i) := by
        have : i < fs.length := by omega
        simp only [ft, List.getElem?_eq_getElem this, Option.getD_some]
      have hfj : fs[j]? = some (ft j) := by
        have : j < fs.length := by omega
        simp only [ft, List.getElem?_eq_getElem this, Option.getD_some]
      obtain ⟨m, hmj⟩ := hmj j (by omega)
      rcases pairsAll_ok hpa i j (ft i) (ft j) m (by simpa using hij) (by simpa using hfi) hfj hmj with hb | hc
      · exact .inl (hmk.2 j m i hmj hb)
      · exact .inr hc
    · obtain ⟨m, hm⟩ := hmj j hj2
      exact hmk.2 j m i hm (z3 j m hm (by omega) i (by omega))
    · simp only [st, List.getElem?_cons_zero, Option.getD_some]
    · rw [← hlast, lastS_eq, g2]
    · obtain ⟨o, _, _, q⟩ := good i hi'
      obtain ⟨r1, r2⟩ := q.log h hh
      exact ⟨r1, q.heap h r2⟩
  refine ⟨?_, ?_⟩
  · intro as' ops tmps ents next hi log ps tmps' ents' next' log' rest h hps ρ X w0 F lo cs fn tm k ds kd ro w t htm hd hF
    obtain ⟨st, ft, z, p, h0, hn, rfl, _⟩ := key _ _ _ _ _ _ _ _ _ _ _ _ _ h
    have p := p hps
    have hF0 : FrOk F lo (st 0).next hi := by rw [h0]; exact hF
    have hsch : Region.schedule (P.follows .mixedOrders) ops t = Region.linearise.go .any ops ops.size t (Array.replicate ops.size false) [] := by
      simp only [Region.schedule, hm, Bool.true_or, if_true, Region.linearise]
    rw [hsch]
    have hD0 : ∀ i, (Array.replicate ops.size false).getD i false = false := fun i => by
      simp only [Array.getD_eq_getD_getElem?, Array.getElem?_replicate]
      split <;> rfl
    have m0T : ∀ k t, mixT (fun i => (Array.replicate ops.size false).getD i false) st ft k t = nth (st 0).tmps t := fun k t => by
      induction k with
      | zero => rfl
      | succ k ih => rw [mixT, if_neg (by simp [hD0]), ih]
    have m0H : ∀ k t, mixH (fun i => (Array.replicate ops.size false).getD i false) st ft k t = find (st 0).ents t := fun k t => by
      induction k with
      | zero => rfl
      | succ k ih => rw [mixH, if_neg (by simp [hD0]), ih]
    obtain ⟨ρ', tm', w', g1, g2, g3, g4⟩ := p.all hF0 (X := X) (w0 := w0) cs fn k ds kd ro ops.size t (Array.replicate ops.size false) ρ tm w (by simp) (cnt_le _ _) (fun j o e hj => by rw [show (fun i => (Array.replicate ops.size false).getD i false) j = false from hD0 j] at hj; cases hj) (fun i _ => hD0 i)
      ⟨by rw [h0]; have := denL_length htm; simpa using this, fun t x hx => by
        rw [m0T, h0] at hx
        rw [nth_eq] at hx
        obtain ⟨v, q1, q2⟩ := denL_get htm hx
        exact ⟨v, by simpa using q1, q2⟩, (hd.congr fun h => by rw [m0H, h0]).fresh_mono fun q hq => ⟨hq.1, by have := hq.2.1; rw [h0] at this; exact this⟩⟩
    rw [hn] at g3 g4
    have hnext := p.next_mono (Nat.zero_le z) (Nat.le_refl _)
    rw [h0, hn] at hnext
    exact ⟨ρ', tm', w', g1, g2, g3, g4, hnext⟩
  · intro as' ops tmps ents next hi log ps tmps' ents' next' log' rest h x hx
    obtain ⟨st, ft, z, p, h0, hn, _, hl⟩ := key _ _ _ _ _ _ _ _ _ _ _ _ _ h
    have down : ∀ k, k ≤ z → x ∉ (st (z - k)).log ∧ find (st z).ents x = find (st (z - k)).ents x := fun k => by
      induction k with
      | zero => intro _; rw [Nat.sub_zero, hn]; exact ⟨hx, rfl⟩
      | succ k ih =>
        intro hk
        obtain ⟨i1, i2⟩ := ih (by omega)
        have := hl (z - (k + 1)) (by omega) x (by rw [show z - (k + 1) + 1 = z - k by omega]; exact i1)
        rw [show z - (k + 1) + 1 = z - k by omega] at this
        exact ⟨this.1, i2.trans this.2⟩
    obtain ⟨d1, d2⟩ := down z (Nat.le_refl _)
    rw [Nat.sub_self, h0] at d1 d2
    rw [hn] at d2
    exact ⟨d1, d2⟩
end
end Go.Sx
