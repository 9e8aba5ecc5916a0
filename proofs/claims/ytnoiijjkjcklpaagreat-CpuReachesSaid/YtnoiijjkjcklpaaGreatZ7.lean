/- Parts of the proof: Sx25, Sx14, Sx15. -/
import Derived.Test.YtnoiijjkjcklpaaGreatZ6
/- Two ways that meet: code that only puts values into temporaries.  -/
namespace Go.Sx
set_option linter.unusedSimpArgs false
set_option linter.unusedVariables false
open Go Go.RowKit Go.Cd Go.Proofs.YtnoiijjkjcklpaaGreat Go.MapKept
def strOps (P : Program) (ents : Ents) (hi : Nat) (ops : Array Oper) : List Nat → List SV → Nat → Option (List SV × Nat)
  | [], tmps, n => some (tmps, n)
  | i :: l, tmps, n => match ops[i]? with
    | none => none
    | some o => match isDefer o.op, Nat.ble (n + 2) hi, wantS ops tmps o with
      | false, true, .yes => match sop P (find ents) n (evalS tmps) o.op with
        | .val v [] _ => strOps P ents hi ops l (putS tmps o.dst v) (n + 2)
        | _ => none
      | false, true, .no => strOps P ents hi ops l (putS tmps o.dst undefS) n
      | _, _, _ => none
def strCode (P : Program) (ents : Ents) (hi : Nat) : Code → List SV → Nat → Option (List SV × Nat)
  | .skip, tmps, n => some (tmps, n)
  | .seq a b, tmps, n => match strCode P ents hi a tmps n with
    | some (t, n') => strCode P ents hi b t n'
    | none => none
  | .block _ c, tmps, n => strCode P ents hi c tmps n
  | .region _ ops false, tmps, n => strOps P ents hi ops (List.range ops.size) tmps n
  | _, _, _ => none
def dstsO (ops : Array Oper) : List Nat → List Nat
  | [] => []
  | i :: l => match (ops[i]?).bind (·.dst) with
    | some d => d :: dstsO ops l
    | none => dstsO ops l
def dstsC : Code → List Nat
  | .seq a b => dstsC a ++ dstsC b
  | .block _ c => dstsC c
  | .region _ ops _ => dstsO ops (List.range ops.size)
  | _ => []
def Keeps (w : List Nat) (tm tm' : Array Value) : Prop := tm'.size = tm.size ∧ ∀ j, j ∉ w → tm'[j]? = tm[j]?
theorem Keeps.refl (w : List Nat) (tm : Array Value) : Keeps w tm tm := ⟨rfl, fun _ _ => rfl⟩
theorem Keeps.trans {u w : List Nat} {a b c : Array Value} (h : Keeps u a b) (h' : Keeps w b c) : Keeps (u ++ w) a c :=
  ⟨h'.1.trans h.1, fun j hj => by
    rw [List.mem_append, not_or] at hj
    exact (h'.2 j hj.2).trans (h.2 j hj.1)⟩
theorem Keeps.put {ops : Array Oper} {i : Nat} {l : List Nat} {o : Oper} {tm tm' : Array Value} {v : Value} (ho : ops[i]? = some o) (h : Keeps (dstsO ops l) (putD tm o.dst v) tm') : Keeps (dstsO ops (i :: l)) tm tm' := by
  have hd : (ops[i]?).bind (·.dst) = o.dst := by rw [ho]; rfl
  obtain ⟨h1, h2⟩ := h
  unfold dstsO
  rw [hd]
  cases hod : o.dst with
  | none => rw [hod] at h1 h2; exact ⟨h1, h2⟩
  | some d =>
    rw [hod] at h1 h2
    refine ⟨by rw [h1]; simp [putD], fun j hj => ?_⟩
    simp only [List.mem_cons, not_or] at hj
    rw [h2 j hj.2]
    simp only [putD]
    exact Array.getElem?_setIfInBounds_ne (fun e => hj.1 e.symm)
section
variable {P : Program} {X : Nat → Prop} {w0 : World} {F : Nat → Prop} {lo : Nat} {cs : List Frame}
theorem strOps_ok [Val] (hok : FnOk P) {ents : Ents} {hi : Nat} {ops : Array Oper} {fn : FuncId} {k : List Item} {ds : List Deferred} {kd : CallKind} {ro : Option Nat} : ∀ {l : List Nat} {tmps r : List SV} {n n' : Nat}, strOps P ents hi ops l tmps n = some (r, n') →
    ∀ {ρ : Env} {tm : Array Value} {w : World}, SV.DenL ρ tmps tm.toList → DenH ρ X w0 (find ents) (Fr F lo n) w → FrOk F lo n hi →
      ∃ ρ' tm' w', ρ.le ρ' ∧ Steps P (lone ⟨fn, tm, .inRegion ops l :: k, ds, .run, kd, ro⟩ cs w) (lone ⟨fn, tm', .inRegion ops [] :: k, ds, .run, kd, ro⟩ cs w') ∧ SV.DenL ρ' r tm'.toList ∧ DenH ρ' X w0 (find ents) (Fr F lo n') w' ∧ n ≤ n' ∧ Keeps (dstsO ops l) tm tm'
  | [], tmps, r, n, n', h, ρ, tm, w, htm, hd, hF => by
    simp only [strOps, Option.some.injEq, Prod.mk.injEq] at h
    obtain ⟨rfl, rfl⟩ := h
    exact ⟨ρ, tm, w, Env.le_refl _, Steps.refl _ _, htm, hd, Nat.le_refl _, Keeps.refl _ _⟩
  | i :: l, tmps, r, n, n', h, ρ, tm, w, htm, hd, hF => by
    unfold strOps at h
    split at h <;> try (cases h; done)
    rename_i o ho
    split at h <;> try (cases h; done)
    · rename_i hdef hble hw
      have hble := Nat.le_of_ble_eq_true hble
      split at h <;> try (cases h; done)
      rename_i v ts hsop
      have hwant := wantS_ok htm (ops := ops) o
      rw [hw] at hwant
      have hf0 : Fr F lo n n := hF.self 0 (by omega)
      have hf1 : Fr F lo n (n + 1) := hF.self 1 (by omega)
      have hg := sop_ok hok (evalS_ok htm) hd hf0 hf1 o
      rw [hsop] at hg
      obtain ⟨nx, val, ρ', w', g1, g2, g3, g4, g5⟩ := hg
      have hst := st_op_val (P := P) (cs := cs) (k := k) (ds := ds) (kd := kd) (ro := ro) (fn := fn) (rest := l) ho hwant (.inr hdef) g1 g2
      have g5' : DenH ρ' X w0 (find ents) (Fr F lo (n + 2)) w' := g5.fresh_mono fun j hj => by
        obtain ⟨h1, h2⟩ := hF.ne (n := 2) hj
        exact ⟨h1, h2 0 (by omega), h2 1 (by omega)⟩
      obtain ⟨ρ2, tm2, w2, k1, k2, k3, k4, k5, k6⟩ := strOps_ok hok h (putS_den (htm.mono g3) g4 _) g5' (hF.more (Nat.le_add_right _ _))
      exact ⟨ρ2, tm2, w2, Env.le_trans g3 k1, .head hst k2, k3, k4, by omega, Keeps.put ho k6⟩
    · rename_i hdef hble hw
      have hwant := wantS_ok htm (ops := ops) o
      rw [hw] at hwant
      have hst := st_op_skip (P := P) (cs := cs) (w := w) (k := k) (ds := ds) (kd := kd) (ro := ro) (fn := fn) (ops := ops) (i := i) (rest := l) (tmps := tm) (by simp [ho, hwant])
      have hdst : (ops[i]?).bind (·.dst) = o.dst := by rw [ho]; rfl
      rw [hdst] at hst
      obtain ⟨ρ2, tm2, w2, k1, k2, k3, k4, k5, k6⟩ := strOps_ok hok h (putS_den htm undefS_den _) hd hF
      exact ⟨ρ2, tm2, w2, k1, .head hst k2, k3, k4, k5, Keeps.put ho k6⟩
theorem strCode_ok [Val] (hok : FnOk P) {ents : Ents} {hi : Nat} {fn : FuncId} {ds : List Deferred} {kd : CallKind} {ro : Option Nat} : ∀ {c : Code} {k : List Item} {tmps r : List SV} {n n' : Nat}, strCode P ents hi c tmps n = some (r, n') →
    ∀ {ρ : Env} {tm : Array Value} {w : World}, SV.DenL ρ tmps tm.toList → DenH ρ X w0 (find ents) (Fr F lo n) w → FrOk F lo n hi →
      ∃ ρ' tm' w', ρ.le ρ' ∧ Steps P (lone ⟨fn, tm, .code c :: k, ds, .run, kd, ro⟩ cs w) (lone ⟨fn, tm', k, ds, .run, kd, ro⟩ cs w') ∧ SV.DenL ρ' r tm'.toList ∧ DenH ρ' X w0 (find ents) (Fr F lo n') w' ∧ n ≤ n' ∧ Keeps (dstsC c) tm tm' := by
  intro c
  induction c with
  | skip =>
    intro k tmps r n n' h ρ tm w htm hd hF
    simp only [strCode, Option.some.injEq, Prod.mk.injEq] at h
    obtain ⟨rfl, rfl⟩ := h
    exact ⟨ρ, tm, w, Env.le_refl _, .one st_skip, htm, hd, Nat.le_refl _, Keeps.refl _ _⟩
  | seq a b iha ihb =>
    intro k tmps r n n' h ρ tm w htm hd hF
    simp only [strCode] at h
    split at h <;> try (cases h; done)
    rename_i t n1 h1
    obtain ⟨ρ1, tm1, w1, a1, a2, a3, a4, a5, a6⟩ := iha (k := .code b :: k) h1 htm hd hF
    obtain ⟨ρ2, tm2, w2, b1, b2, b3, b4, b5, b6⟩ := ihb (k := k) h a3 a4 (hF.more a5)
    exact ⟨ρ2, tm2, w2, Env.le_trans a1 b1, .head st_seq (Steps.trans a2 b2), b3, b4, by omega, a6.trans b6⟩
  | block m c ih =>
    intro k tmps r n n' h ρ tm w htm hd hF
    simp only [strCode] at h
    obtain ⟨ρ1, tm1, w1, a1, a2, a3, a4, a5, a6⟩ := ih (k := .inBlock m :: k) h htm hd hF
    exact ⟨ρ1, tm1, w1, a1, .head st_block (Steps.trans a2 (.one st_inBlock)), a3, a4, a5, a6⟩
  | region m ops draw =>
    intro k tmps r n n' h ρ tm w htm hd hF
    cases draw with
    | true => simp [strCode] at h
    | false =>
      simp only [strCode] at h
      obtain ⟨ρ1, tm1, w1, a1, a2, a3, a4, a5, a6⟩ := strOps_ok (fn := fn) (k := k) (ds := ds) (kd := kd) (ro := ro) (cs := cs) hok h htm hd hF
      exact ⟨ρ1, tm1, w1, a1, .head st_region (Steps.trans a2 (.one st_region_end)), a3, a4, a5, a6⟩
  | _ => intro k tmps r n n' h; simp [strCode] at h
end
def memN (n : Nat) : List Nat → Bool
  | [] => false
  | x :: l => match Nat.beq x n with
    | true => true
    | false => memN n l
theorem memN_false {n : Nat} : ∀ {l : List Nat}, memN n l = false → n ∉ l
  | [], _ => by simp
  | x :: l, h => by
    unfold memN at h
    split at h
    · cases h
    · rename_i hx
      have := Nat.ne_of_beq_eq_false hx
      simp [memN_false h, Ne.symm this]
def mergeW (t : Bm) (w : List Nat) : Nat → List SV → List SV → List SV → Option (List SV)
  | _, [], [], [] => some []
  | j, o :: os, x :: xs, y :: ys => match mergeW t w (j + 1) os xs ys with
    | some r => match memN j w with
      | true => some (mergeV t 50 x y :: r)
      | false => some (o :: r)
    | none => none
  | _, _, _, _ => none
theorem mergeW_den [Val] {t : Bm} {w : List Nat} {ρ : Env} : ∀ {os xs ys r : List SV} {j : Nat} {vs vs' : List Value}, mergeW t w j os xs ys = some r → SV.DenL ρ os vs → (t.v = true → SV.DenL ρ xs vs') → (t.v = false → SV.DenL ρ ys vs') →
    (∀ i, j + i ∉ w → vs'[i]? = vs[i]?) → vs'.length = vs.length → SV.DenL ρ r vs'
  | [], [], [], r, j, vs, vs', h, h0, h1, h2, hk, hl => by
    simp only [mergeW, Option.some.injEq] at h; subst h
    cases ht : t.v with
    | true => exact h1 ht
    | false => exact h2 ht
  | o :: os, x :: xs, y :: ys, r, j, vs, vs', h, h0, h1, h2, hk, hl => by
    simp only [mergeW] at h
    split at h <;> try (cases h; done)
    rename_i r' hr
    obtain ⟨u, us, rfl, u1, u2⟩ := denL_cons.1 h0
    match vs', hl with
    | u' :: us', hl =>
      have hk' : ∀ i, j + 1 + i ∉ w → us'[i]? = us[i]? := fun i hi => by
        have := hk (i + 1) (by rw [show j + (i + 1) = j + 1 + i by omega]; exact hi)
        simpa using this
      have ih := mergeW_den hr u2 (fun ht => (denL_cons'.1 (h1 ht)).2) (fun ht => (denL_cons'.1 (h2 ht)).2) hk' (by simpa using hl)
      split at h <;> cases h
      · exact denL_cons'.2 ⟨(merge_den 50).1 x y u' (fun ht => (denL_cons'.1 (h1 ht)).1) (fun ht => (denL_cons'.1 (h2 ht)).1), ih⟩
      · rename_i hm
        have := hk 0 (by simpa using memN_false hm)
        simp at this
        subst this
        exact denL_cons'.2 ⟨u1, ih⟩
  | [], [], _ :: _, _, _, _, _, h, _, _, _, _, _ => by simp [mergeW] at h
  | [], _ :: _, _, _, _, _, _, h, _, _, _, _, _ => by simp [mergeW] at h
  | _ :: _, [], _, _, _, _, _, h, _, _, _, _, _ => by simp [mergeW] at h
  | _ :: _, _ :: _, [], _, _, _, _, h, _, _, _, _, _ => by simp [mergeW] at h
end Go.Sx
/- The symbolic machine's step: what it does. -/
namespace Go.Sx
set_option linter.unusedSimpArgs false
set_option linter.unusedVariables false
open Go Go.RowKit Go.Cd Go.Proofs.YtnoiijjkjcklpaaGreat Go.MapKept

def sOut (P : Program) (e : Ext) (S : SState) (td : List SItem) (dst : Option Tmp) : OOut → Tree SState
  | .val v us _ => .leaf { S with top := { S.top with tmps := putS S.top.tmps dst v, todo := td }, ents := appUs us S.ents, next := S.next + 2, log := logUs us S.log }
  | .enter f args => match fnOf P f with
    | none => match e.xt f args with
      | some v => .leaf { S with top := { S.top with tmps := putS S.top.tmps dst v, todo := td } }
      | none => .stuck 70
    | some i => match e.con f args S.ents S.next with
      | some (next', t) => match Nat.ble next' S.hi with
        | true => t.bind fun r => .leaf { S with top := { S.top with tmps := putS S.top.tmps dst r.val, todo := td }, ents := r.ents, next := next', log := r.log ++ S.log }
        | false => .stuck 77
      | none => .leaf { S with top := enterS i f args .normal, stk := S.top :: S.stk }
  | .yield h args => match find S.ents h with
    | some (.loop l) => match Nat.beq args.length l.params.length with
      | true => .leaf { S with top := { fn := l.fn, tmps := bindS l.params args l.tmps, todo := [.code l.assign, .beginRound, .code l.body], defers := [], mode := .run, kind := .normal, round := some h }, stk := S.top :: S.stk }
      | false => .stuck 71
    | _ => .stuck 72
  | .dfr f c a => .leaf { S with top := { S.top with tmps := putS S.top.tmps dst undefS, todo := td, defers := .call f c a :: S.top.defers } }
  | .pan v => .leaf { S with top := { S.top with mode := .panicking [⟨v, false⟩] } }
  | .rcv => match S.top.kind, S.top.round, S.stk with
    | .deferred, none, c :: rest => match c.mode with
      | .panicking (⟨v, false⟩ :: older) => .leaf { S with top := { S.top with tmps := putS S.top.tmps dst v, todo := td }, stk := { c with mode := .panicking (⟨v, true⟩ :: older) } :: rest }
      | _ => .leaf { S with top := { S.top with tmps := putS S.top.tmps dst .nili, todo := td } }
    | _, _, _ => .stuck 73
  | .split b x y => .split b (sOut P e S td dst x) (sOut P e S td dst y)
  | .need p x => .need p (sOut P e S td dst x)
  | .stuck n => .stuck n
def sSkip (S : SState) (td : List SItem) (dst : Option Tmp) : Tree SState := .leaf { S with top := { S.top with tmps := putS S.top.tmps dst undefS, todo := td } }
def sDo (P : Program) (e : Ext) (S : SState) (td : List SItem) (o : Oper) : Tree SState :=
  match isDefer o.op, S.top.round with
  | true, some _ => .stuck 74
  | _, _ => match Nat.ble (S.next + 2) S.hi with
    | true => sOut P e S td o.dst (sopX P e.ax (find S.ents) S.next (evalS S.top.tmps) o.op)
    | false => .stuck 75
def sOp (P : Program) (e : Ext) (S : SState) (ops : Array Oper) (i : Nat) (rest : List Nat) (k : List SItem) : Tree SState :=
  match ops[i]? with
  | none => sSkip S (.inRegion ops rest :: k) none
  | some o => match wantS ops S.top.tmps o with
    | .yes => sDo P e S (.inRegion ops rest :: k) o
    | .no => sSkip S (.inRegion ops rest :: k) o.dst
    | .ask b want => match want with
      | true => .split b (sDo P e S (.inRegion ops rest :: k) o) (sSkip S (.inRegion ops rest :: k) o.dst)
      | false => .split b (sSkip S (.inRegion ops rest :: k) o.dst) (sDo P e S (.inRegion ops rest :: k) o)
    | .unk => .stuck 76
def finishS (c : SFrame) (v : SV) : Option SFrame :=
  match c.todo with
  | .inRegion ops (i :: rest) :: k => some { c with tmps := putS c.tmps ((ops[i]?).bind (·.dst)) v, todo := .inRegion ops rest :: k }
  | .inRangeFunc h :: k => some { c with todo := .endRangeFunc h :: k }
  | _ => none
def settleS : SMode → SMode
  | .panicking (⟨_, true⟩ :: _) => .returning
  | m => m
def raiseS (c : SFrame) (l : List SPan) : SFrame :=
  match c.mode with
  | .panicking old => { c with mode := .panicking (l ++ old) }
  | _ => { c with mode := .panicking l }
def sUnwind (P : Program) (S : SState) : Tree SState :=
  match S.top.defers with
  | .collected h :: ds => match find S.ents h with
    | some (.defs (some l)) => .leaf { S with top := { S.top with defers := l ++ ds }, ents := upd S.ents h (.defs none), log := h :: S.log }
    | _ => .stuck 80
  | .call f c a :: ds => match fnOf P f with
    | some i => .leaf { S with top := enterS i f (a ++ c) .deferred, stk := { S.top with defers := ds } :: S.stk }
    | none => .stuck 81
  | [] => match S.stk with
    | [] => .stuck 82
    | c :: rest => match fnOf P S.top.fn with
      | none => .stuck 83
      | some i => match S.top.mode with
        | .panicking l => .leaf { S with top := raiseS c l, stk := rest }
        | .returning => match resultS P (find S.ents) S.top.tmps i.results with
          | none => .stuck 84
          | some v => match S.top.kind with
            | .normal => match finishS c v with
              | some c' => .leaf { S with top := c', stk := rest }
              | none => .stuck 85
            | .deferred => .leaf { S with top := { c with mode := settleS c.mode }, stk := rest }
            | _ => .stuck 86
        | .run => .stuck 87
def sRoundEnd (S : SState) (jump : Option Code) : Tree SState :=
  match S.top.round, S.top.kind, S.stk with
  | some h, .normal, c :: rest => match find S.ents h with
    | some (.loop l) => match finishS c (.bool (.lit jump.isNone)) with
      | some c' => .leaf { S with top := c', stk := rest, ents := upd S.ents h (.loop { l with state := if jump.isNone then .ready else .done, pending := jump }), log := h :: S.log }
      | none => .stuck 90
    | _ => .stuck 91
  | _, _, _ => .stuck 92
def sLeave (S : SState) (jump : Option Code) (ret : Bool) : Tree SState :=
  match S.top.round with
  | none => match ret with
    | true => .leaf { S with top := { S.top with mode := .returning } }
    | false => .stuck 93
  | some _ => sRoundEnd S jump
def sRangeFunc (P : Program) (S : SState) (f : Operand) (params : Array Tmp) (assign body : Code) (k : List SItem) : Tree SState :=
  match evalS S.top.tmps f with
  | some (.fn (.func g) first cap) => match fnOf P g, Nat.ble (S.next + 2) S.hi with
    | some i, true => match S.top.round with
      | none => .leaf { S with
          top := enterS i g (first ++ [.fn (.yield (S.next + 1)) [] []] ++ cap) .normal,
          stk := { S.top with todo := .inRangeFunc (S.next + 1) :: k, defers := .collected S.next :: S.top.defers } :: S.stk,
          ents := (S.next + 1, .loop { state := .ready, pending := none, fn := S.top.fn, tmps := S.top.tmps, params := params.toList, assign, body, defers := S.next }) :: (S.next, .defs (some [])) :: S.ents,
          next := S.next + 2, log := (S.next + 1) :: S.next :: S.log }
      | some h => match find S.ents h with
        | some (.loop l) => .leaf { S with
            top := enterS i g (first ++ [.fn (.yield S.next) [] []] ++ cap) .normal,
            stk := { S.top with todo := .inRangeFunc S.next :: k } :: S.stk,
            ents := (S.next, .loop { state := .ready, pending := none, fn := S.top.fn, tmps := S.top.tmps, params := params.toList, assign, body, defers := l.defers }) :: S.ents,
            next := S.next + 2, log := S.next :: S.log }
        | _ => .stuck 94
    | _, _ => .stuck 95
  | _ => .stuck 96
def sMeet (P : Program) (S : SState) (t : Bm) (a b : Code) : Option (List SV × Nat) :=
  match strCode P S.ents S.hi a S.top.tmps S.next, strCode P S.ents S.hi b S.top.tmps S.next with
  | some (ta, na), some (tb, nb) => match mergeW t (dstsC a ++ dstsC b) 0 S.top.tmps ta tb with
    | some r => some (r, Nat.max na nb)
    | none => none
  | _, _ => none
def drTree (e : Ext) (S : SState) (ops : Array Oper) (k : List SItem) : Nat → List (Bm × Bool) → Tree SState
  | 0, _ => .stuck 101
  | n + 1, as' => match e.dr as' ops S.top.tmps S.ents S.next S.hi S.log with
    | some (ps, tmps', ents', next', log', rest) => needAll ps (.leaf { S with top := { S.top with tmps := tmps', todo := .inRegion ops rest :: k }, ents := ents', next := next', log := log' })
    | none => match e.ask as' ops S.top.tmps S.ents S.next S.hi with
      | some b => .split b (drTree e S ops k n ((b, true) :: as')) (drTree e S ops k n ((b, false) :: as'))
      | none => .stuck 101
def sCode (P : Program) (dr : Ext) (S : SState) (c : Code) (k : List SItem) : Tree SState :=
  match c with
  | .skip => .leaf { S with top := { S.top with todo := k } }
  | .label _ => .leaf { S with top := { S.top with todo := k } }
  | .seq a b => .leaf { S with top := { S.top with todo := .code a :: .code b :: k } }
  | .cond x a b => match evalS S.top.tmps x with
    | some (.bool (.lit true)) => .leaf { S with top := { S.top with todo := .code a :: k } }
    | some (.bool (.lit false)) => .leaf { S with top := { S.top with todo := .code b :: k } }
    | some (.bool (.sym t)) => match sMeet P S t a b with
      | some (r, n) => .leaf { S with top := { S.top with tmps := r, todo := k }, next := n }
      | none => .split t (.leaf { S with top := { S.top with todo := .code a :: k } }) (.leaf { S with top := { S.top with todo := .code b :: k } })
    | _ => .stuck 100
  | .block n a => .leaf { S with top := { S.top with todo := .code a :: .inBlock n :: k } }
  | .loop a => .leaf { S with top := { S.top with todo := .code a :: .inLoop a :: k } }
  | .scope a => .leaf { S with top := { S.top with todo := .code a :: .inScope a :: k } }
  | .exit n => match sexitTo n k with
    | some k' => .leaf { S with top := { S.top with todo := k' } }
    | none => sLeave S (some (.exit n)) false
  | .goto n => match sgotoIn n k with
    | some k' => .leaf { S with top := { S.top with todo := k' } }
    | none => sLeave S (some (.goto n)) false
  | .ret => sLeave S (some .ret) true
  | .region _ ops draw => match draw with
    | false => .leaf { S with top := { S.top with todo := .inRegion ops (List.range ops.size) :: k } }
    | true => drTree dr S ops k 60 []
  | .rangeFunc f params assign body => sRangeFunc P S f params assign body k
  | .refuse _ => .stuck 102
def sItem (P : Program) (dr : Ext) (S : SState) (it : SItem) (k : List SItem) : Tree SState :=
  match it with
  | .code c => sCode P dr S c k
  | .inBlock _ => .leaf { S with top := { S.top with todo := k } }
  | .inScope _ => .leaf { S with top := { S.top with todo := k } }
  | .inLoop a => .leaf { S with top := { S.top with todo := .code a :: .inLoop a :: k } }
  | .inRegion ops l => match l with
    | [] => .leaf { S with top := { S.top with todo := k } }
    | i :: rest => sOp P dr S ops i rest k
  | .inRangeFunc _ => .stuck 103
  | .endRangeFunc h => match find S.ents h with
    | some (.loop l) => match l.state with
      | .busy => .stuck 104
      | _ => .leaf { S with top := { S.top with todo := (match l.pending with
            | some c => .code c :: k
            | none => k) }, ents := upd S.ents h (.loop { l with state := .exhausted }), log := h :: S.log }
    | _ => .stuck 105
  | .beginRound => match S.top.round with
    | some h => match find S.ents h with
      | some (.loop l) => match l.state with
        | .ready => .leaf { S with top := { S.top with todo := k }, ents := upd S.ents h (.loop { l with state := .busy }), log := h :: S.log }
        | _ => .stuck 106
      | _ => .stuck 107
    | none => .stuck 108
def sstep (P : Program) (dr : Ext) (S : SState) : Tree SState :=
  match S.top.mode with
  | .run => match S.top.todo with
    | [] => sLeave S none true
    | it :: k => sItem P dr S it k
  | _ => sUnwind P S
def sDone (S : SState) : Bool :=
  match S.stk, S.top.mode, S.top.defers with
  | [], .returning, [] => true
  | [], .panicking _, [] => true
  | _, _, _ => false

section
variable {P : Program} {X : Nat → Prop} {w0 : World} {F : Nat → Prop} {lo : Nat} {cs : List Frame}
def Goes [Val] (P : Program) (ρ : Env) (X : Nat → Prop) (w0 : World) (F : Nat → Prop) (lo : Nat) (cs : List Frame) (Q : SState → Prop) (m : Machine) : Prop :=
  ∃ ρ' S' m', ρ.le ρ' ∧ Q S' ∧ Steps P m m' ∧ DenS ρ' X w0 F lo cs S' m'
theorem Goes.one [Val] {ρ ρ' : Env} {Q : SState → Prop} {m m' : Machine} {S' : SState} (hle : ρ.le ρ') (hq : Q S') (h : step P m = .next m') (hd : DenS ρ' X w0 F lo cs S' m') : Goes P ρ X w0 F lo cs Q m := ⟨ρ', S', m', hle, hq, .one h, hd⟩
theorem sOut_ok [Val] (hok : FnOk P) {e : Ext} (he : ExtOk P e) {ρ : Env} {S : SState} {td : List SItem} {k : List Item} {Q : SState → Prop} {fn : FuncId} {tm : Array Value} {ops : Array Oper} {i : Nat} {rest : List Nat} {ds : List Deferred} {kd : CallKind} {ro : Option Nat} {frs : List Frame} {w : World} {o : Oper}
    (hfr : S.top.Den ρ ⟨fn, tm, .inRegion ops (i :: rest) :: k, ds, .run, kd, ro⟩) (hmode : S.top.mode = .run) (htd : ∀ ρ', ρ.le ρ' → DenIs ρ' td (.inRegion ops rest :: k)) (hfs : DenFs ρ S.stk frs) (hd : DenH ρ X w0 (find S.ents) (Fr F lo S.next) w) (hF : FrOk F lo S.next S.hi) (hnext : S.next + 2 ≤ S.hi)
    (ho : ops[i]? = some o) (hw : Region.wanted o (yielded ops tm) = true) (hdef : ro = none ∨ isDefer o.op = false) :
    ∀ (x : OOut), OGood P ρ X w0 (find S.ents) (Fr F lo S.next) S.next x (execOp (evalF tm) o) w → (sOut P e S td o.dst x).sat Q →
      Goes P ρ X w0 F lo cs Q (lone ⟨fn, tm, .inRegion ops (i :: rest) :: k, ds, .run, kd, ro⟩ (frs ++ cs) w)
  | .val v us ts, hg, hq => by
    obtain ⟨nx, val, ρ', w', g1, g2, g3, g4, g5⟩ := hg
    have hst := st_op_val (cs := frs ++ cs) (k := k) (ds := ds) (kd := kd) (ro := ro) (fn := fn) (rest := rest) ho hw hdef g1 g2
    refine .one g3 hq hst ⟨_, frs, w', rfl, ⟨hfr.fn, putS_den (hfr.tmps.mono g3) g4 _, htd ρ' g3, hfr.defers.mono g3, by rw [hmode]; rfl, hfr.kind, hfr.round.mono g3⟩, hfs.mono g3, ?_, hF.more (Nat.le_add_right _ _)⟩
    rw [find_appUs]
    exact g5.fresh_mono fun j hj => by
      obtain ⟨h1, h2⟩ := hF.ne (n := 2) hj
      exact ⟨h1, h2 0 (by omega), h2 1 (by omega)⟩
  | .enter f args, hg, hq => by
    obtain ⟨vs, h1, h2⟩ := hg
    simp only [sOut] at hq
    split at hq
    · split at hq
      · rename_i v hv
        obtain ⟨x, g1, g2⟩ := he.xt _ _ _ hv ρ vs w h1
        have hst := st_op_val (P := P) (cs := frs ++ cs) (k := k) (ds := ds) (kd := kd) (ro := ro) (fn := fn) (rest := rest) ho hw hdef (h2.trans g1) (.inl rfl)
        exact .one (Env.le_refl _) hq hst ⟨_, frs, w, rfl, ⟨hfr.fn, putS_den hfr.tmps g2 _, htd ρ (Env.le_refl _), hfr.defers, by rw [hmode]; rfl, hfr.kind, hfr.round⟩, hfs, hd, hF⟩
      · exact hq.elim
    rename_i i' hi'
    have hst := st_op_enter (P := P) (cs := frs ++ cs) (k := k) (ds := ds) (kd := kd) (ro := ro) (fn := fn) (rest := rest) ho hw hdef (h2.trans (run_callFunc hok hi' _ w))
    split at hq
    · rename_i next' t hct
      split at hq
      · rename_i hble
        have hble := Nat.le_of_ble_eq_true hble
        obtain ⟨c1, c2⟩ := he.con _ _ _ _ _ _ hct
        obtain ⟨e, w', fr, ⟨ρ', x, r, hQ, rfl, g1, g2, g3⟩, hcomes, hfn, hleave⟩ := c2 _ (Tree.sat_bind hq) vs w ρ X w0 _ h1 hd (fun j h1 h2 => by
          have := hF.self (j - S.next) (by omega)
          rwa [show S.next + (j - S.next) = j by omega] at this) (⟨fn, tm, .inRegion ops (i :: rest) :: k, ds, .run, kd, ro⟩ :: (frs ++ cs))
        have hlast := step_leave_returned (c := ⟨fn, tm, .inRegion ops (i :: rest) :: k, ds, .run, kd, ro⟩) (cs := frs ++ cs) hleave
        rw [finish_region, ho] at hlast
        refine ⟨ρ', _, _, g1, hQ, .head hst (Steps.trans hcomes (.one hlast)), ⟨_, frs, w', rfl, ⟨hfr.fn, putS_den (hfr.tmps.mono g1) g2 _, htd ρ' g1, hfr.defers.mono g1, by rw [hmode]; rfl, hfr.kind, hfr.round.mono g1⟩, hfs.mono g1, g3.fresh_mono fun j hj => ⟨⟨hj.1, ?_⟩, ?_⟩, hF.more (show S.next ≤ next' by omega)⟩⟩
        · have := hj.2; dsimp only at this; omega
        · have := hj.2; have := hF.1; dsimp only at *; omega
      · exact hq.elim
    · exact .one (Env.le_refl _) hq hst ⟨_, _ :: frs, w, rfl, enterS_den hi' h1, ⟨_, _, rfl, hfr, hfs⟩, hd, hF⟩
  | .yield h args, hg, hq => by
    obtain ⟨vs, l, h1, h2, h3⟩ := hg
    simp only [sOut] at hq
    split at hq <;> try exact hq.elim
    rename_i L hL
    split at hq <;> try exact hq.elim
    rename_i hlen
    have hlen := Nat.eq_of_beq_eq_true hlen
    obtain ⟨b, obj, hb, hobj, hden⟩ := hd.at hL rfl
    obtain rfl : b = l := by rw [h2] at hb; injection hb with e; exact e.symm
    obtain ⟨LL, hLL, rfl⟩ := hden
    have hps : vs.toArray.size = LL.params.size := by
      have e1 := denL_length h1
      have e2 : LL.params.size = L.params.length := by rw [← hLL.params]; simp
      simp; omega
    have hy := run_yield (P := P) hobj hps
    rw [← h3] at hy
    have hst := st_op_round (cs := frs ++ cs) (k := k) (ds := ds) (kd := kd) (ro := ro) (fn := fn) (rest := rest) ho hw hdef hy
    refine .one (Env.le_refl _) hq hst ⟨_, _ :: frs, w, rfl, ⟨hLL.fn, ?_, ?_, rfl, rfl, rfl, ⟨b, hb, rfl⟩⟩, ⟨_, _, rfl, hfr, hfs⟩, hd, hF⟩
    · simp only [Frame.round]
      have e : (LL.params.zip vs.toArray).foldl (fun tmps (x : Tmp × Value) => tmps.setIfInBounds x.1 x.2) LL.tmps = (L.params.zip vs).foldl (fun tmps (p : Tmp × Value) => tmps.setIfInBounds p.1 p.2) LL.tmps := by
        rw [← Array.foldl_toList, Array.toList_zip, hLL.params]
      have e2 : (LL.params.zip vs.toArray).foldl (fun tmps (x : Tmp × Value) => match x with | (t, a) => tmps.setIfInBounds t a) LL.tmps = (LL.params.zip vs.toArray).foldl (fun tmps (x : Tmp × Value) => tmps.setIfInBounds x.1 x.2) LL.tmps := rfl
      rw [e2, e]
      exact bindS_den h1 hLL.tmps
    · simp only [Frame.round]
      exact ⟨_, _, rfl, by rw [hLL.assign]; rfl, _, _, rfl, rfl, _, _, rfl, by rw [hLL.body]; rfl, rfl⟩
  | .dfr f c a, hg, hq => by
    obtain ⟨⟨i', hi'⟩, dd, h1, h2⟩ := hg
    have hst := st_op_defer (cs := frs ++ cs) (k := k) (ds := ds) (kd := kd) (ro := ro) (fn := fn) (rest := rest) ho hw hdef h2
    exact .one (Env.le_refl _) hq hst ⟨_, frs, w, rfl, ⟨hfr.fn, putS_den hfr.tmps undefS_den _, htd ρ (Env.le_refl _), ⟨dd, ds, rfl, h1, hfr.defers⟩, by rw [hmode]; rfl, hfr.kind, hfr.round⟩, hfs, hd, hF⟩
  | .pan v, hg, hq => by
    obtain ⟨x, h1, h2⟩ := hg
    have hst := st_op_panic (cs := frs ++ cs) (k := k) (ds := ds) (kd := kd) (ro := ro) (fn := fn) (rest := rest) ho hw hdef h2
    exact .one (Env.le_refl _) hq hst ⟨_, frs, w, rfl, ⟨hfr.fn, hfr.tmps, hfr.todo, hfr.defers, ⟨_, ⟨x, [], rfl, h1, rfl⟩, rfl⟩, hfr.kind, hfr.round⟩, hfs, hd, hF⟩
  | .rcv, hg, hq => by
    have hr : (execOp (evalF tm) o).run P w = .ok .recover w := hg
    simp only [sOut] at hq
    split at hq <;> try exact hq.elim
    rename_i c rest' hkd hro hstk
    have hk : kd = .deferred := hfr.kind.trans hkd
    have hro' : ro = none := by have := hfr.round; rw [hro] at this; exact this
    subst hk hro'
    rw [hstk] at hfs
    obtain ⟨cf, frs', rfl, hc, hfs'⟩ := hfs
    have htdd := htd ρ (Env.le_refl _)
    split at hq
    · rename_i v older hm
      have hcm := hc.mode
      rw [hm] at hcm
      obtain ⟨ch, hch, hcm⟩ := hcm
      obtain ⟨x, ch', rfl, hx, hold⟩ := hch
      have hrec : recoverD (cf :: (frs' ++ cs)) = some (x, { cf with mode := .panicking ({ v := x, recovered := true, goexit := false } :: ch') } :: (frs' ++ cs)) := by
        simp [recoverD, hcm]
      have hst := st_op_recover_yes (cs := frs' ++ cs) (k := k) (ds := ds) (fn := fn) (rest := rest) ho hw hr hrec
      exact .one (Env.le_refl _) hq hst ⟨_, _ :: frs', w, rfl, ⟨hfr.fn, putS_den hfr.tmps hx _, htdd, hfr.defers, by rw [hmode]; rfl, hfr.kind, hfr.round⟩, ⟨_, _, rfl, ⟨hc.fn, hc.tmps, hc.todo, hc.defers, ⟨_, ⟨x, ch', rfl, hx, hold⟩, rfl⟩, hc.kind, hc.round⟩, hfs'⟩, hd, hF⟩
    · rename_i hm
      have hrec : recoverD (cf :: (frs' ++ cs)) = none := by
        have hcm := hc.mode
        cases hmm : c.mode with
        | run => rw [hmm] at hcm; simp only [SMode.Den] at hcm; simp [recoverD, hcm]
        | returning => rw [hmm] at hcm; simp only [SMode.Den] at hcm; simp [recoverD, hcm]
        | panicking l =>
          rw [hmm] at hcm
          obtain ⟨ch, hch, hcm⟩ := hcm
          cases l with
          | nil => simp only [DenPans] at hch; subst hch; simp [recoverD, hcm]
          | cons p l =>
            obtain ⟨x, ch', rfl, hx, hold⟩ := hch
            obtain ⟨pv, pr⟩ := p
            cases pr with
            | false => exact absurd hmm (hm _ _)
            | true => simp [recoverD, hcm]
      have hst := st_op_recover_no (cs := frs' ++ cs) (k := k) (ds := ds) (fn := fn) (rest := rest) ho hw hr hrec
      exact .one (Env.le_refl _) hq hst ⟨_, _ :: frs', w, rfl, ⟨hfr.fn, putS_den hfr.tmps (by simp [SV.Den]) _, htdd, hfr.defers, by rw [hmode]; rfl, hfr.kind, hfr.round⟩, by rw [hstk]; exact ⟨_, _, rfl, hc, hfs'⟩, hd, hF⟩
  | .split b x y, hg, hq => by
    simp only [sOut, Tree.sat] at hq
    cases hb : b.v with
    | true => exact sOut_ok hok he hfr hmode htd hfs hd hF hnext ho hw hdef x (hg.1 hb) (hq.1 hb)
    | false => exact sOut_ok hok he hfr hmode htd hfs hd hF hnext ho hw hdef y (hg.2 hb) (hq.2 hb)
  | .need p x, hg, hq => by
    simp only [sOut, Tree.sat] at hq
    exact sOut_ok hok he hfr hmode htd hfs hd hF hnext ho hw hdef x (hg hq.1) hq.2
  | .stuck n, _, hq => hq.elim
end
end Go.Sx
/- The symbolic machine's step is right; runs; calls. -/
namespace Go.Sx
set_option linter.unusedSimpArgs false
set_option linter.unusedVariables false
open Go Go.RowKit Go.Cd Go.Proofs.YtnoiijjkjcklpaaGreat Go.MapKept
section
variable {P : Program} {X : Nat → Prop} {w0 : World} {F : Nat → Prop} {lo : Nat} {cs : List Frame}

theorem sDo_ok [Val] (hok : FnOk P) {e : Ext} (he : ExtOk P e) {ρ : Env} {S : SState} {td : List SItem} {k : List Item} {Q : SState → Prop} {fn : FuncId} {tm : Array Value} {ops : Array Oper} {i : Nat} {rest : List Nat} {ds : List Deferred} {kd : CallKind} {ro : Option Nat} {frs : List Frame} {w : World} {o : Oper}
    (hfr : S.top.Den ρ ⟨fn, tm, .inRegion ops (i :: rest) :: k, ds, .run, kd, ro⟩) (hmode : S.top.mode = .run) (htd : ∀ ρ', ρ.le ρ' → DenIs ρ' td (.inRegion ops rest :: k)) (hfs : DenFs ρ S.stk frs) (hd : DenH ρ X w0 (find S.ents) (Fr F lo S.next) w) (hF : FrOk F lo S.next S.hi)
    (ho : ops[i]? = some o) (hw : Region.wanted o (yielded ops tm) = true) (hq : (sDo P e S td o).sat Q) :
    Goes P ρ X w0 F lo cs Q (lone ⟨fn, tm, .inRegion ops (i :: rest) :: k, ds, .run, kd, ro⟩ (frs ++ cs) w) := by
  have hdef : (∀ h, isDefer o.op = true → S.top.round = some h → False) → ro = none ∨ isDefer o.op = false := fun hh => by
    cases hdd : isDefer o.op with
    | false => exact .inr rfl
    | true =>
      left
      have hro := hfr.round
      cases hr : S.top.round with
      | none => rw [hr] at hro; exact hro
      | some h => exact (hh h hdd hr).elim
  unfold sDo at hq
  split at hq
  · exact hq.elim
  · rename_i hne
    split at hq
    · rename_i hb
      have hb := Nat.le_of_ble_eq_true hb
      have hf : Fr F lo S.next S.next := hF.self 0 (by omega)
      have hf1 : Fr F lo S.next (S.next + 1) := hF.self 1 (by omega)
      exact sOut_ok hok he hfr hmode htd hfs hd hF hb ho hw (hdef fun h e1 e2 => hne h e1 e2) _ (sopX_ok hok he.ax he.axs (evalS_ok hfr.tmps) hd hf hf1 o) hq
    · exact hq.elim
theorem sSkip_ok [Val] {ρ : Env} {S : SState} {td : List SItem} {k : List Item} {Q : SState → Prop} {fn : FuncId} {tm : Array Value} {ops : Array Oper} {i : Nat} {rest : List Nat} {ds : List Deferred} {kd : CallKind} {ro : Option Nat} {frs : List Frame} {w : World} {dst : Option Tmp}
    (hfr : S.top.Den ρ ⟨fn, tm, .inRegion ops (i :: rest) :: k, ds, .run, kd, ro⟩) (hmode : S.top.mode = .run) (htd : DenIs ρ td (.inRegion ops rest :: k)) (hfs : DenFs ρ S.stk frs) (hd : DenH ρ X w0 (find S.ents) (Fr F lo S.next) w) (hF : FrOk F lo S.next S.hi)
    (hw : ((ops[i]?).map (Region.wanted · (yielded ops tm))).getD false = false) (hdst : (ops[i]?).bind (·.dst) = dst) (hq : (sSkip S td dst).sat Q) :
    Goes P ρ X w0 F lo cs Q (lone ⟨fn, tm, .inRegion ops (i :: rest) :: k, ds, .run, kd, ro⟩ (frs ++ cs) w) := by
  have hst := st_op_skip (P := P) (cs := frs ++ cs) (w := w) (k := k) (ds := ds) (kd := kd) (ro := ro) (fn := fn) (rest := rest) hw
  rw [hdst] at hst
  exact .one (Env.le_refl _) hq hst ⟨_, frs, w, rfl, ⟨hfr.fn, putS_den hfr.tmps undefS_den _, htd, hfr.defers, by rw [hmode]; rfl, hfr.kind, hfr.round⟩, hfs, hd, hF⟩
theorem sOp_ok [Val] (hok : FnOk P) {e : Ext} (he : ExtOk P e) {ρ : Env} {S : SState} {sk : List SItem} {k : List Item} {Q : SState → Prop} {fn : FuncId} {tm : Array Value} {ops : Array Oper} {i : Nat} {rest : List Nat} {ds : List Deferred} {kd : CallKind} {ro : Option Nat} {frs : List Frame} {w : World}
    (hfr : S.top.Den ρ ⟨fn, tm, .inRegion ops (i :: rest) :: k, ds, .run, kd, ro⟩) (hmode : S.top.mode = .run) (hk : DenIs ρ sk k) (hfs : DenFs ρ S.stk frs) (hd : DenH ρ X w0 (find S.ents) (Fr F lo S.next) w) (hF : FrOk F lo S.next S.hi)
    (hq : (sOp P e S ops i rest sk).sat Q) : Goes P ρ X w0 F lo cs Q (lone ⟨fn, tm, .inRegion ops (i :: rest) :: k, ds, .run, kd, ro⟩ (frs ++ cs) w) := by
  have htd : ∀ ρ', ρ.le ρ' → DenIs ρ' (.inRegion ops rest :: sk) (.inRegion ops rest :: k) := fun ρ' h => ⟨_, _, rfl, rfl, hk.mono h⟩
  unfold sOp at hq
  split at hq
  · rename_i ho
    exact sSkip_ok hfr hmode (htd _ (Env.le_refl _)) hfs hd hF (by simp [ho]) (by simp [ho]) hq
  · rename_i o ho
    have hwant := wantS_ok hfr.tmps (ops := ops) o
    have skip : ∀ b, Region.wanted o (yielded ops tm) = b → b = false → (sSkip S (.inRegion ops rest :: sk) o.dst).sat Q → Goes P ρ X w0 F lo cs Q (lone ⟨fn, tm, .inRegion ops (i :: rest) :: k, ds, .run, kd, ro⟩ (frs ++ cs) w) := fun b h1 h2 h3 => by
      subst h2
      exact sSkip_ok hfr hmode (htd _ (Env.le_refl _)) hfs hd hF (by simp [ho, h1]) (by simp [ho]) h3
    have doit : ∀ b, Region.wanted o (yielded ops tm) = b → b = true → (sDo P e S (.inRegion ops rest :: sk) o).sat Q → Goes P ρ X w0 F lo cs Q (lone ⟨fn, tm, .inRegion ops (i :: rest) :: k, ds, .run, kd, ro⟩ (frs ++ cs) w) := fun b h1 h2 h3 => by
      subst h2
      exact sDo_ok hok he hfr hmode htd hfs hd hF ho h1 h3
    split at hq
    · rename_i hwn
      rw [hwn] at hwant
      exact doit _ hwant rfl hq
    · rename_i hwn
      rw [hwn] at hwant
      exact skip _ hwant rfl hq
    · rename_i b want hwn
      rw [hwn] at hwant
      simp only at hwant
      split at hq
      · cases hb : b.v with
        | true => rw [hb] at hwant; exact doit _ hwant rfl (hq.1 hb)
        | false => rw [hb] at hwant; exact skip _ hwant rfl (hq.2 hb)
      · cases hb : b.v with
        | true => rw [hb] at hwant; exact skip _ hwant rfl (hq.1 hb)
        | false => rw [hb] at hwant; exact doit _ hwant rfl (hq.2 hb)
    · exact hq.elim
theorem finishS_ok [Val] {ρ : Env} {c c' : SFrame} {f : Frame} {s : SV} {v : Value} (h : finishS c s = some c') (hc : c.Den ρ f) (hs : s.Den ρ v) : c'.Den ρ (f.finish v) := by
  obtain ⟨fn, tm, td, ds, md, kd, ro⟩ := f
  have htd := hc.todo
  unfold finishS at h
  split at h
  · rename_i ops i rest k hto
    cases h
    rw [hto] at htd
    obtain ⟨it, l', hl, h1, h2⟩ := htd
    simp only [SItem.Den] at h1; subst h1
    dsimp only at hl; subst hl
    rw [finish_region]
    exact ⟨hc.fn, putS_den hc.tmps hs _, ⟨_, _, rfl, rfl, h2⟩, hc.defers, hc.mode, hc.kind, hc.round⟩
  · rename_i hh k hto
    cases h
    rw [hto] at htd
    obtain ⟨it, l', hl, ⟨l, h1, rfl⟩, h2⟩ := htd
    dsimp only at hl; subst hl
    rw [finish_rangeFunc]
    exact ⟨hc.fn, hc.tmps, ⟨_, _, rfl, ⟨l, h1, rfl⟩, h2⟩, hc.defers, hc.mode, hc.kind, hc.round⟩
  · cases h
theorem denPans_append [Val] {ρ : Env} : ∀ {a b : List SPan} {x y : List PanicEntry}, DenPans ρ a x → DenPans ρ b y → DenPans ρ (a ++ b) (x ++ y)
  | [], _, _, _, h, h' => by simp only [DenPans] at h; subst h; simpa using h'
  | _ :: _, _, _, _, ⟨v, l, rfl, h1, h2⟩, h' => ⟨v, _, rfl, h1, denPans_append h2 h'⟩
theorem raiseS_ok [Val] {ρ : Env} {c : SFrame} {f : Frame} {l : List SPan} {ch : List PanicEntry} (hc : c.Den ρ f) (hl : DenPans ρ l ch) : (raiseS c l).Den ρ (f.raise ch) := by
  have hm := hc.mode
  unfold raiseS
  split
  · rename_i old ho
    rw [ho] at hm
    obtain ⟨o, h1, h2⟩ := hm
    have e : f.raise ch = { f with mode := .panicking (ch ++ o) } := by simp [Frame.raise, h2]
    rw [e]
    exact ⟨hc.fn, hc.tmps, hc.todo, hc.defers, ⟨_, denPans_append hl h1, rfl⟩, hc.kind, hc.round⟩
  · rename_i hne
    have e : f.raise ch = { f with mode := .panicking ch } := by
      cases hmm : c.mode with
      | run => rw [hmm] at hm; simp only [SMode.Den] at hm; simp [Frame.raise, hm]
      | returning => rw [hmm] at hm; simp only [SMode.Den] at hm; simp [Frame.raise, hm]
      | panicking l => exact absurd hmm (hne l)
    rw [e]
    exact ⟨hc.fn, hc.tmps, hc.todo, hc.defers, ⟨_, hl, rfl⟩, hc.kind, hc.round⟩
theorem settleS_ok [Val] {ρ : Env} {m : SMode} {fm : FrameMode} (h : m.Den ρ fm) : (settleS m).Den ρ (settle fm) := by
  have drop : ∀ {l : List SPan} {c : List PanicEntry}, DenPans ρ l c → c.dropWhile (!·.goexit) = [] := fun {l} => by
    induction l with
    | nil => intro c hc; simp only [DenPans] at hc; subst hc; rfl
    | cons p l ih =>
      intro c hc
      obtain ⟨x, c', rfl, _, h2⟩ := hc
      simp [List.dropWhile_cons, ih h2]
  cases m with
  | run => simp only [SMode.Den] at h; subst h; rfl
  | returning => simp only [SMode.Den] at h; subst h; rfl
  | panicking l =>
    obtain ⟨c, hc, rfl⟩ := h
    cases l with
    | nil => simp only [DenPans] at hc; subst hc; exact ⟨[], rfl, rfl⟩
    | cons p l =>
      obtain ⟨x, c', rfl, h1, h2⟩ := hc
      obtain ⟨pv, pr⟩ := p
      cases pr with
      | true => simp only [settleS, settle, drop h2, SMode.Den]
      | false => exact ⟨_, ⟨x, c', rfl, h1, h2⟩, rfl⟩
theorem denDs_append [Val] {ρ : Env} : ∀ {a b : List SDef} {x y : List Deferred}, DenDs ρ a x → DenDs ρ b y → DenDs ρ (a ++ b) (x ++ y)
  | [], _, _, _, h, h' => by simp only [DenDs] at h; subst h; simpa using h'
  | _ :: _, _, _, _, ⟨v, l, rfl, h1, h2⟩, h' => ⟨v, _, rfl, h1, denDs_append h2 h'⟩
theorem sUnwind_ok [Val] (hok : FnOk P) {ρ : Env} {S : SState} {Q : SState → Prop} {fr : Frame} {frs : List Frame} {w : World} (hfr : S.top.Den ρ fr) (hmode : S.top.mode ≠ .run) (hfs : DenFs ρ S.stk frs) (hd : DenH ρ X w0 (find S.ents) (Fr F lo S.next) w) (hF : FrOk F lo S.next S.hi)
    (hq : (sUnwind P S).sat Q) : Goes P ρ X w0 F lo cs Q (lone fr (frs ++ cs) w) := by
  obtain ⟨fn, tm, td, ds, md, kd, ro⟩ := fr
  have hmd : md ≠ .run := fun e => by
    have := hfr.mode
    cases hm : S.top.mode with
    | run => exact hmode hm
    | returning => rw [hm] at this; simp only [SMode.Den] at this; rw [this] at e; cases e
    | panicking l => rw [hm] at this; obtain ⟨c, _, h2⟩ := this; dsimp only at h2; rw [h2] at e; cases e
  have hdf := hfr.defers
  unfold sUnwind at hq
  split at hq
  · rename_i h ds' hds
    split at hq <;> try exact hq.elim
    rename_i l hl
    rw [hds] at hdf
    obtain ⟨dd, dr, e, ⟨b, hb, rfl⟩, h2⟩ := hdf
    dsimp only at e; subst e
    obtain ⟨b', obj, hb', hobj, hden⟩ := hd.at hl rfl
    obtain rfl : b' = b := by rw [hb] at hb'; injection hb' with e; exact e.symm
    obtain ⟨xs, hxs, rfl⟩ := hden
    have hst := st_collected (P := P) (fn := fn) (tmps := tm) (td := td) (kd := kd) (ro := ro) (cs := frs ++ cs) (ds := dr) hmd (run_takeDeferred hobj)
    refine .one (Env.le_refl _) hq hst ⟨_, frs, _, rfl, ⟨hfr.fn, hfr.tmps, hfr.todo, denDs_append hxs h2, hfr.mode, hfr.kind, hfr.round⟩, hfs, ?_, hF⟩
    exact hd.put hl rfl hb (o' := .defs none) rfl (World.putObj_heap_same (lt_of_heap hobj)) (only_putObj _ _ _) rfl (fun j => find_upd _ _ _ j)
  · rename_i f c a ds' hds
    split at hq <;> try exact hq.elim
    rename_i i hi
    rw [hds] at hdf
    obtain ⟨dd, dr, e, ⟨c', a', hc, ha, rfl⟩, h2⟩ := hdf
    dsimp only at e; subst e
    have hinv : (invoke (.fn (.func f) c'.toArray) a'.toArray).run P w = .ok (.enter f (a' ++ c').toArray) w := by
      simp [invoke, run_callFunc hok hi]
    have hst := st_defer (P := P) (fn := fn) (tmps := tm) (td := td) (kd := kd) (ro := ro) (cs := frs ++ cs) (ds := dr) hmd hinv
    exact .one (Env.le_refl _) hq hst ⟨_, _ :: frs, w, rfl, enterS_den hi (denL_append ha hc), ⟨_, _, rfl, ⟨hfr.fn, hfr.tmps, hfr.todo, h2, hfr.mode, hfr.kind, hfr.round⟩, hfs⟩, hd, hF⟩
  · rename_i hds
    rw [hds] at hdf
    simp only [DenDs] at hdf; subst hdf
    split at hq
    · exact hq.elim
    · rename_i c rest hstk
      rw [hstk] at hfs
      obtain ⟨cf, frs', rfl, hc, hfs'⟩ := hfs
      split at hq <;> try exact hq.elim
      rename_i i hi
      obtain ⟨Fu, hFu, hFb, hFn, hFr⟩ := fnOf_spec hi
      have hfn : fn = S.top.fn := hfr.fn
      rw [← hfn] at hFu
      have hm := hfr.mode
      split at hq
      · rename_i l hl
        rw [hl] at hm
        obtain ⟨ch, hch, e⟩ := hm
        dsimp only at e; subst e
        have hst := st_raise (P := P) (tmps := tm) (td := td) (kd := kd) (ro := ro) (cs := frs' ++ cs) (w := w) (c := cf) (chain := ch) hFu
        exact .one (Env.le_refl _) hq hst ⟨_, frs', w, rfl, raiseS_ok hc hch, hfs', hd, hF⟩
      · rename_i hl
        rw [hl] at hm
        simp only [SMode.Den] at hm; subst hm
        split at hq
        · exact hq.elim
        · rename_i s hs
          rw [← hFr] at hs
          obtain ⟨v, hv, hsv⟩ := resultS_ok hd hfr.tmps hs
          have hkd : kd = S.top.kind := hfr.kind
          split at hq
          · rename_i hk
            split at hq <;> try exact hq.elim
            rename_i c' hc'
            have hst := st_return (P := P) (tmps := tm) (td := td) (kd := kd) (ro := ro) (cs := frs' ++ cs) (w := w) (c := cf) hFu hv (by rw [hkd, hk])
            exact .one (Env.le_refl _) hq hst ⟨_, frs', w, rfl, finishS_ok hc' hc hsv, hfs', hd, hF⟩
          · rename_i hk
            obtain rfl : kd = .deferred := by rw [hkd, hk]
            have hst := st_return_deferred (P := P) (tmps := tm) (td := td) (ro := ro) (cs := frs' ++ cs) (w := w) (c := cf) hFu hv
            exact .one (Env.le_refl _) hq hst ⟨_, frs', w, rfl, ⟨hc.fn, hc.tmps, hc.todo, hc.defers, settleS_ok hc.mode, hc.kind, hc.round⟩, hfs', hd, hF⟩
          · exact hq.elim
      · exact hq.elim
theorem sLeave_ok [Val] {ρ : Env} {S : SState} {Q : SState → Prop} {fr : Frame} {frs : List Frame} {w : World} {jump : Option Code} {ret : Bool} (hfr : S.top.Den ρ fr) (hmode : S.top.mode = .run) (hfs : DenFs ρ S.stk frs) (hd : DenH ρ X w0 (find S.ents) (Fr F lo S.next) w) (hF : FrOk F lo S.next S.hi)
    (hj : fr.todo = [] ∧ jump = none ∧ ret = true ∨ (∃ k, fr.todo = .code .ret :: k) ∧ jump = some .ret ∧ ret = true ∨ (∃ n k, fr.todo = .code (.exit n) :: k ∧ exitTo n k = none ∧ jump = some (.exit n) ∧ ret = false) ∨ (∃ n k, fr.todo = .code (.goto n) :: k ∧ gotoIn n k = none ∧ jump = some (.goto n) ∧ ret = false))
    (hq : (sLeave S jump ret).sat Q) : Goes P ρ X w0 F lo cs Q (lone fr (frs ++ cs) w) := by
  obtain ⟨fn, tm, td, ds, md, kd, ro⟩ := fr
  have hm := hfr.mode
  rw [hmode] at hm
  simp only [SMode.Den] at hm; subst hm
  have hro := hfr.round
  unfold sLeave at hq
  split at hq
  · rename_i hr
    rw [hr] at hro
    simp only [DenOh] at hro; subst hro
    split at hq
    · have fin : Goes P ρ X w0 F lo cs Q (lone ⟨fn, tm, td, ds, .run, kd, none⟩ (frs ++ cs) w) := by
        have hD : DenS ρ X w0 F lo cs { S with top := { S.top with mode := .returning } } (lone ⟨fn, tm, td, ds, .returning, kd, none⟩ (frs ++ cs) w) :=
          ⟨_, frs, w, rfl, ⟨hfr.fn, hfr.tmps, hfr.todo, hfr.defers, rfl, hfr.kind, hfr.round⟩, hfs, hd, hF⟩
        rcases hj with ⟨h1, h2, h3⟩ | ⟨⟨k, h1⟩, h2, h3⟩ | ⟨n, k, h1, h2, h3, h4⟩ | ⟨n, k, h1, h2, h3, h4⟩
        · dsimp only at h1; subst h1
          exact .one (Env.le_refl _) hq st_end0 hD
        · dsimp only at h1; subst h1
          exact .one (Env.le_refl _) hq st_ret0 hD
        · cases h4
        · cases h4
      exact fin
    · exact hq.elim
  · unfold sRoundEnd at hq
    split at hq <;> try exact hq.elim
    rename_i h c rest hr hk hstk
    rw [hr] at hro
    obtain ⟨l, hl, e⟩ := hro
    dsimp only at e; subst e
    rw [hstk] at hfs
    obtain ⟨cf, frs', rfl, hc, hfs'⟩ := hfs
    split at hq <;> try exact hq.elim
    rename_i L hL
    split at hq <;> try exact hq.elim
    rename_i c' hc'
    obtain ⟨b, obj, hb, hobj, hden⟩ := hd.at hL rfl
    obtain rfl : b = l := by rw [hl] at hb; injection hb with e; exact e.symm
    obtain ⟨LL, hLL, rfl⟩ := hden
    obtain rfl : kd = .normal := hfr.kind.trans hk
    have hst := st_endRound (P := P) (fn := fn) (tmps := tm) (ds := ds) (cs := frs' ++ cs) (c := cf) (td := td) (run_endRound jump hobj) (by
      rcases hj with ⟨h1, h2, h3⟩ | ⟨⟨k, h1⟩, h2, h3⟩ | ⟨n, k, h1, h2, h3, h4⟩ | ⟨n, k, h1, h2, h3, h4⟩
      · exact .inl ⟨h1, h2⟩
      · exact .inr (.inl ⟨⟨k, h1⟩, h2⟩)
      · exact .inr (.inr (.inl ⟨n, k, h1, h2, h3⟩))
      · exact .inr (.inr (.inr ⟨n, k, h1, h2, h3⟩)))
    refine .one (Env.le_refl _) hq hst ⟨_, frs', _, rfl, finishS_ok hc' hc (by simp [SV.Den]), hfs', ?_, hF⟩
    refine hd.put hL rfl hb (o' := .loop { L with state := if jump.isNone then .ready else .done, pending := jump }) rfl (World.putObj_heap_same (lt_of_heap hobj)) (only_putObj _ _ _) ⟨{ LL with state := if jump.isNone then .ready else .done, pending := jump }, ⟨rfl, rfl, hLL.fn, hLL.tmps, hLL.params, hLL.assign, hLL.body, hLL.defers⟩, rfl⟩ (fun j => find_upd _ _ _ j)
theorem sRangeFunc_ok [Val] (hok : FnOk P) {ρ : Env} {S : SState} {Q : SState → Prop} {fn : FuncId} {tm : Array Value} {f : Operand} {params : Array Tmp} {assign body : Code} {k : List Item} {sk : List SItem} {ds : List Deferred} {kd : CallKind} {ro : Option Nat} {frs : List Frame} {w : World}
    (hfr : S.top.Den ρ ⟨fn, tm, .code (.rangeFunc f params assign body) :: k, ds, .run, kd, ro⟩) (hmode : S.top.mode = .run) (hk : DenIs ρ sk k) (hfs : DenFs ρ S.stk frs) (hd : DenH ρ X w0 (find S.ents) (Fr F lo S.next) w) (hF : FrOk F lo S.next S.hi)
    (hq : (sRangeFunc P S f params assign body sk).sat Q) : Goes P ρ X w0 F lo cs Q (lone ⟨fn, tm, .code (.rangeFunc f params assign body) :: k, ds, .run, kd, ro⟩ (frs ++ cs) w) := by
  unfold sRangeFunc at hq
  split at hq <;> try exact hq.elim
  rename_i g first cap hf
  have hfv := evalS_ok hfr.tmps _ _ hf
  simp only [SV.Den, SFn.Den] at hfv
  obtain ⟨gf, a, b, rfl, ha, hb, hfv⟩ := hfv
  split at hq <;> try exact hq.elim
  rename_i i hi hble
  have hble := Nat.le_of_ble_eq_true hble
  have hro := hfr.round
  have hf0 : Fr F lo S.next S.next := hF.self 0 (by omega)
  have hf1 : Fr F lo S.next (S.next + 1) := hF.self 1 (by omega)
  have hn0 : ρ S.next = none := hd.newName hf0
  have hn1 : ρ (S.next + 1) = none := hd.newName hf1
  have args : ∀ (ρ' : Env) (h l : Nat), ρ.le ρ' → ρ' h = some l → SV.DenL ρ' (first ++ [.fn (.yield h) [] []] ++ cap) (a ++ [.func (.yield l) #[] #[]] ++ b) := fun ρ' h l hle hl =>
    denL_append (denL_append (ha.mono hle) (denL_cons'.2 ⟨(by simp only [SV.Den, SFn.Den]; exact ⟨_, [], [], ⟨l, hl, rfl⟩, by simp, by simp, rfl⟩), by simp⟩)) (hb.mono hle)
  have earr : ∀ l, a.toArray ++ #[Value.func (.yield l) #[] #[]] ++ b.toArray = (a ++ [Value.func (.yield l) #[] #[]] ++ b).toArray := fun l => by simp
  split at hq
  · rename_i hr
    rw [hr] at hro
    simp only [DenOh] at hro; subst hro
    obtain ⟨W1, hW1⟩ : ∃ W1, W1 = w.alloc (.deferred (some [])) := ⟨_, rfl⟩
    obtain ⟨lp, hlo⟩ : ∃ lp : Loop, lp = { state := .ready, pending := none, fn, tmps := tm, params, assign, body, defers := w.heap.size } := ⟨_, rfl⟩
    have hst := st_rangeFunc (P := P) (fn := fn) (k := k) (ds := ds) (kd := kd) (ro := none) (cs := frs ++ cs) (run_enterLoop_outer (P := P) (w := w) fn tm params assign body) hfv (fun xs => run_callFunc hok hi xs _)
    rw [earr] at hst
    have hle1 : ρ.le (ρ.put S.next w.heap.size) := Env.le_put _ hn0
    have hle2 : (ρ.put S.next w.heap.size).le ((ρ.put S.next w.heap.size).put (S.next + 1) (w.heap.size + 1)) := Env.le_put _ (by rw [Env.put_other _ _ (by omega)]; exact hn1)
    have hle := Env.le_trans hle1 hle2
    have e0 : ((ρ.put S.next w.heap.size).put (S.next + 1) (w.heap.size + 1)) S.next = some w.heap.size := hle2 _ _ (Env.put_same _ _ _)
    have e1 : ((ρ.put S.next w.heap.size).put (S.next + 1) (w.heap.size + 1)) (S.next + 1) = some (w.heap.size + 1) := Env.put_same _ _ _
    have hd1 : DenH (ρ.put S.next w.heap.size) X w0 (find ((S.next, .defs (some [])) :: S.ents)) (Fr F lo (S.next + 1)) W1 := by
      rw [hW1]
      refine hd.alloc (h := S.next) (o := .defs (some [])) rfl hle1 hf0 (Env.put_same _ _ _) ⟨[], rfl, rfl⟩ (fun j => find_cons _ _ _ _) fun j hj => ?_
      obtain ⟨g1, g2⟩ := hF.ne (n := 1) hj
      rw [Env.put_other _ _ (show j ≠ S.next from g2 0 (by omega))]
      exact hd.newName g1
    have hsz : W1.heap.size = w.heap.size + 1 := by rw [hW1]; simp
    refine .one hle hq hst ⟨_, _ :: frs, _, rfl, enterS_den hi (args _ _ _ hle e1), ⟨_, _, rfl, ⟨hfr.fn, hfr.tmps.mono hle, ⟨_, _, rfl, ⟨_, e1, rfl⟩, hk.mono hle⟩, ⟨_, _, rfl, ⟨_, e0, rfl⟩, hfr.defers.mono hle⟩, by rw [hmode]; rfl, hfr.kind, hfr.round.mono hle⟩, hfs.mono hle⟩, ?_, hF.more (Nat.le_add_right _ _)⟩
    rw [← hW1, ← hlo]
    refine hd1.alloc (h := S.next + 1) (o := .loop { state := .ready, pending := none, fn := S.top.fn, tmps := S.top.tmps, params := params.toList, assign, body, defers := S.next }) rfl hle2 ((hF.more (Nat.le_succ _)).self 0 (by omega)) (by rw [hsz]; exact e1) ⟨lp, ?_, rfl⟩ (fun j => find_cons _ _ _ _) fun j hj => ?_
    · rw [hlo]
      exact ⟨rfl, rfl, hfr.fn, hfr.tmps.mono hle, rfl, rfl, rfl, e0⟩
    · obtain ⟨g1, g2⟩ := hF.ne (n := 2) hj
      rw [Env.put_other _ _ (show j ≠ S.next + 1 from g2 1 (by omega)), Env.put_other _ _ (show j ≠ S.next from g2 0 (by omega))]
      exact hd.newName g1
  · rename_i h hr
    split at hq <;> try exact hq.elim
    rename_i L hL
    rw [hr] at hro
    obtain ⟨l, hl, e⟩ := hro
    dsimp only at e; subst e
    obtain ⟨b', obj, hb', hobj, hden⟩ := hd.at hL rfl
    obtain rfl : b' = l := by rw [hl] at hb'; injection hb' with e; exact e.symm
    obtain ⟨LL, hLL, rfl⟩ := hden
    have hst := st_rangeFunc (P := P) (fn := fn) (k := k) (ds := ds) (kd := kd) (ro := some b') (cs := frs ++ cs) (run_enterLoop_inner (P := P) hobj fn tm params assign body) hfv (fun xs => run_callFunc hok hi xs _)
    rw [earr] at hst
    have hle : ρ.le (ρ.put S.next w.heap.size) := Env.le_put _ hn0
    have e1 : (ρ.put S.next w.heap.size) S.next = some w.heap.size := Env.put_same _ _ _
    refine .one hle hq hst ⟨_, _ :: frs, _, rfl, enterS_den hi (args _ _ _ hle e1), ⟨_, _, rfl, ⟨hfr.fn, hfr.tmps.mono hle, ⟨_, _, rfl, ⟨_, e1, rfl⟩, hk.mono hle⟩, hfr.defers.mono hle, by rw [hmode]; rfl, hfr.kind, hfr.round.mono hle⟩, hfs.mono hle⟩, ?_, hF.more (Nat.le_add_right _ _)⟩
    refine hd.alloc (h := S.next) (o := .loop { state := .ready, pending := none, fn := S.top.fn, tmps := S.top.tmps, params := params.toList, assign, body, defers := L.defers }) rfl hle hf0 e1 ⟨{ state := .ready, pending := none, fn, tmps := tm, params, assign, body, defers := LL.defers }, ⟨rfl, rfl, hfr.fn, hfr.tmps.mono hle, rfl, rfl, rfl, hle _ _ hLL.defers⟩, rfl⟩ (fun j => find_cons _ _ _ _) fun j hj => ?_
    obtain ⟨g1, g2⟩ := hF.ne (n := 2) hj
    rw [Env.put_other _ _ (show j ≠ S.next from g2 0 (by omega))]
    exact hd.newName g1
end
end Go.Sx
