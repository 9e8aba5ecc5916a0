/- The symbolic machine's step: what it does. -/
import Derived.Test.YtpooghnemlnopaaSx13
namespace Go.Sx
set_option linter.unusedSimpArgs false
set_option linter.unusedVariables false
open Go Go.RowKit Go.Cd Go.Proofs.Ytpooghnemlnopaa Go.MapKept

def sOut (P : Program) (e : Ext) (S : SState) (td : List SItem) (dst : Option Tmp) : OOut → Tree SState
  | .val v us _ => .leaf { S with top := { S.top with tmps := putS S.top.tmps dst v, todo := td }, ents := appUs us S.ents, next := S.next + 2, log := logUs us S.log }
  | .enter f args => match fnOf P f with
    | none => match e.xt f args with
      | some v => .leaf { S with top := { S.top with tmps := putS S.top.tmps dst v, todo := td } }
      | none => .stuck 70
    | some i => match e.con f args S.ents S.next with
      | some (next', t) => match Nat.ble next' S.hi with
        | true => t.bind fun r => .leaf { S with top := { S.top with tmps := putS S.top.tmps dst r.val, todo := td }, ents := r.ents, next := next', log := r.log ++ S.log }
        | false => .stuck 77
      | none => .leaf { S with top := enterS i f args .normal, stk := S.top :: S.stk }
  | .yield h args => match find S.ents h with
    | some (.loop l) => match Nat.beq args.length l.params.length with
      | true => .leaf { S with top := { fn := l.fn, tmps := bindS l.params args l.tmps, todo := [.code l.assign, .beginRound, .code l.body], defers := [], mode := .run, kind := .normal, round := some h }, stk := S.top :: S.stk }
      | false => .stuck 71
    | _ => .stuck 72
  | .dfr f c a => .leaf { S with top := { S.top with tmps := putS S.top.tmps dst undefS, todo := td, defers := .call f c a :: S.top.defers } }
  | .pan v => .leaf { S with top := { S.top with mode := .panicking [⟨v, false⟩] } }
  | .rcv => match S.top.kind, S.top.round, S.stk with
    | .deferred, none, c :: rest => match c.mode with
      | .panicking (⟨v, false⟩ :: older) => .leaf { S with top := { S.top with tmps := putS S.top.tmps dst v, todo := td }, stk := { c with mode := .panicking (⟨v, true⟩ :: older) } :: rest }
      | _ => .leaf { S with top := { S.top with tmps := putS S.top.tmps dst .nili, todo := td } }
    | _, _, _ => .stuck 73
  | .split b x y => .split b (sOut P e S td dst x) (sOut P e S td dst y)
  | .need p x => .need p (sOut P e S td dst x)
  | .stuck n => .stuck n
def sSkip (S : SState) (td : List SItem) (dst : Option Tmp) : Tree SState := .leaf { S with top := { S.top with tmps := putS S.top.tmps dst undefS, todo := td } }
def sDo (P : Program) (e : Ext) (S : SState) (td : List SItem) (o : Oper) : Tree SState :=
  match isDefer o.op, S.top.round with
  | true, some _ => .stuck 74
  | _, _ => match Nat.ble (S.next + 2) S.hi with
    | true => sOut P e S td o.dst (sop P (find S.ents) S.next (evalS S.top.tmps) o.op)
    | false => .stuck 75
def sOp (P : Program) (e : Ext) (S : SState) (ops : Array Oper) (i : Nat) (rest : List Nat) (k : List SItem) : Tree SState :=
  match ops[i]? with
  | none => sSkip S (.inRegion ops rest :: k) none
  | some o => match wantS ops S.top.tmps o with
    | .yes => sDo P e S (.inRegion ops rest :: k) o
    | .no => sSkip S (.inRegion ops rest :: k) o.dst
    | .ask b want => match want with
      | true => .split b (sDo P e S (.inRegion ops rest :: k) o) (sSkip S (.inRegion ops rest :: k) o.dst)
      | false => .split b (sSkip S (.inRegion ops rest :: k) o.dst) (sDo P e S (.inRegion ops rest :: k) o)
    | .unk => .stuck 76
def finishS (c : SFrame) (v : SV) : Option SFrame :=
  match c.todo with
  | .inRegion ops (i :: rest) :: k => some { c with tmps := putS c.tmps ((ops[i]?).bind (·.dst)) v, todo := .inRegion ops rest :: k }
  | .inRangeFunc h :: k => some { c with todo := .endRangeFunc h :: k }
  | _ => none
def settleS : SMode → SMode
  | .panicking (⟨_, true⟩ :: _) => .returning
  | m => m
def raiseS (c : SFrame) (l : List SPan) : SFrame :=
  match c.mode with
  | .panicking old => { c with mode := .panicking (l ++ old) }
  | _ => { c with mode := .panicking l }
def sUnwind (P : Program) (S : SState) : Tree SState :=
  match S.top.defers with
  | .collected h :: ds => match find S.ents h with
    | some (.defs (some l)) => .leaf { S with top := { S.top with defers := l ++ ds }, ents := upd S.ents h (.defs none), log := h :: S.log }
    | _ => .stuck 80
  | .call f c a :: ds => match fnOf P f with
    | some i => .leaf { S with top := enterS i f (a ++ c) .deferred, stk := { S.top with defers := ds } :: S.stk }
    | none => .stuck 81
  | [] => match S.stk with
    | [] => .stuck 82
    | c :: rest => match fnOf P S.top.fn with
      | none => .stuck 83
      | some i => match S.top.mode with
        | .panicking l => .leaf { S with top := raiseS c l, stk := rest }
        | .returning => match resultS P (find S.ents) S.top.tmps i.results with
          | none => .stuck 84
          | some v => match S.top.kind with
            | .normal => match finishS c v with
              | some c' => .leaf { S with top := c', stk := rest }
              | none => .stuck 85
            | .deferred => .leaf { S with top := { c with mode := settleS c.mode }, stk := rest }
            | _ => .stuck 86
        | .run => .stuck 87
/-- A round ends. -/
def sRoundEnd (S : SState) (jump : Option Code) : Tree SState :=
  match S.top.round, S.top.kind, S.stk with
  | some h, .normal, c :: rest => match find S.ents h with
    | some (.loop l) => match finishS c (.bool (.lit jump.isNone)) with
      | some c' => .leaf { S with top := c', stk := rest, ents := upd S.ents h (.loop { l with state := if jump.isNone then .ready else .done, pending := jump }), log := h :: S.log }
      | none => .stuck 90
    | _ => .stuck 91
  | _, _, _ => .stuck 92
def sLeave (S : SState) (jump : Option Code) (ret : Bool) : Tree SState :=
  match S.top.round with
  | none => match ret with
    | true => .leaf { S with top := { S.top with mode := .returning } }
    | false => .stuck 93
  | some _ => sRoundEnd S jump
def sRangeFunc (P : Program) (S : SState) (f : Operand) (params : Array Tmp) (assign body : Code) (k : List SItem) : Tree SState :=
  match evalS S.top.tmps f with
  | some (.fn (.func g) first cap) => match fnOf P g, Nat.ble (S.next + 2) S.hi with
    | some i, true => match S.top.round with
      | none => .leaf { S with
          top := enterS i g (first ++ [.fn (.yield (S.next + 1)) [] []] ++ cap) .normal,
          stk := { S.top with todo := .inRangeFunc (S.next + 1) :: k, defers := .collected S.next :: S.top.defers } :: S.stk,
          ents := (S.next + 1, .loop { state := .ready, pending := none, fn := S.top.fn, tmps := S.top.tmps, params := params.toList, assign, body, defers := S.next }) :: (S.next, .defs (some [])) :: S.ents,
          next := S.next + 2, log := (S.next + 1) :: S.next :: S.log }
      | some h => match find S.ents h with
        | some (.loop l) => .leaf { S with
            top := enterS i g (first ++ [.fn (.yield S.next) [] []] ++ cap) .normal,
            stk := { S.top with todo := .inRangeFunc S.next :: k } :: S.stk,
            ents := (S.next, .loop { state := .ready, pending := none, fn := S.top.fn, tmps := S.top.tmps, params := params.toList, assign, body, defers := l.defers }) :: S.ents,
            next := S.next + 2, log := S.next :: S.log }
        | _ => .stuck 94
    | _, _ => .stuck 95
  | _ => .stuck 96
def sCode (P : Program) (dr : Ext) (S : SState) (c : Code) (k : List SItem) : Tree SState :=
  match c with
  | .skip => .leaf { S with top := { S.top with todo := k } }
  | .label _ => .leaf { S with top := { S.top with todo := k } }
  | .seq a b => .leaf { S with top := { S.top with todo := .code a :: .code b :: k } }
  | .cond x a b => match evalS S.top.tmps x with
    | some (.bool (.lit true)) => .leaf { S with top := { S.top with todo := .code a :: k } }
    | some (.bool (.lit false)) => .leaf { S with top := { S.top with todo := .code b :: k } }
    | some (.bool (.sym t)) => .split t (.leaf { S with top := { S.top with todo := .code a :: k } }) (.leaf { S with top := { S.top with todo := .code b :: k } })
    | _ => .stuck 100
  | .block n a => .leaf { S with top := { S.top with todo := .code a :: .inBlock n :: k } }
  | .loop a => .leaf { S with top := { S.top with todo := .code a :: .inLoop a :: k } }
  | .scope a => .leaf { S with top := { S.top with todo := .code a :: .inScope a :: k } }
  | .exit n => match sexitTo n k with
    | some k' => .leaf { S with top := { S.top with todo := k' } }
    | none => sLeave S (some (.exit n)) false
  | .goto n => match sgotoIn n k with
    | some k' => .leaf { S with top := { S.top with todo := k' } }
    | none => sLeave S (some (.goto n)) false
  | .ret => sLeave S (some .ret) true
  | .region _ ops draw => match draw with
    | false => .leaf { S with top := { S.top with todo := .inRegion ops (List.range ops.size) :: k } }
    | true => match dr.dr ops S.top.tmps S.ents S.next S.hi S.log with
      | some (tmps', ents', next', log', rest) => .leaf { S with top := { S.top with tmps := tmps', todo := .inRegion ops rest :: k }, ents := ents', next := next', log := log' }
      | none => .stuck 101
  | .rangeFunc f params assign body => sRangeFunc P S f params assign body k
  | .refuse _ => .stuck 102
def sItem (P : Program) (dr : Ext) (S : SState) (it : SItem) (k : List SItem) : Tree SState :=
  match it with
  | .code c => sCode P dr S c k
  | .inBlock _ => .leaf { S with top := { S.top with todo := k } }
  | .inScope _ => .leaf { S with top := { S.top with todo := k } }
  | .inLoop a => .leaf { S with top := { S.top with todo := .code a :: .inLoop a :: k } }
  | .inRegion ops l => match l with
    | [] => .leaf { S with top := { S.top with todo := k } }
    | i :: rest => sOp P dr S ops i rest k
  | .inRangeFunc _ => .stuck 103
  | .endRangeFunc h => match find S.ents h with
    | some (.loop l) => match l.state with
      | .busy => .stuck 104
      | _ => .leaf { S with top := { S.top with todo := (match l.pending with
            | some c => .code c :: k
            | none => k) }, ents := upd S.ents h (.loop { l with state := .exhausted }), log := h :: S.log }
    | _ => .stuck 105
  | .beginRound => match S.top.round with
    | some h => match find S.ents h with
      | some (.loop l) => match l.state with
        | .ready => .leaf { S with top := { S.top with todo := k }, ents := upd S.ents h (.loop { l with state := .busy }), log := h :: S.log }
        | _ => .stuck 106
      | _ => .stuck 107
    | none => .stuck 108
def sstep (P : Program) (dr : Ext) (S : SState) : Tree SState :=
  match S.top.mode with
  | .run => match S.top.todo with
    | [] => sLeave S none true
    | it :: k => sItem P dr S it k
  | _ => sUnwind P S
/-- Is the lowest frame about to leave? -/
def sDone (S : SState) : Bool :=
  match S.stk, S.top.mode, S.top.defers with
  | [], .returning, [] => true
  | [], .panicking _, [] => true
  | _, _, _ => false

/-! Sound. -/
section
variable {P : Program} {X : Nat → Prop} {w0 : World} {F : Nat → Prop} {lo : Nat} {cs : List Frame}
/-- What is to be shown of a step from a state. -/
def Goes [Val] (P : Program) (ρ : Env) (X : Nat → Prop) (w0 : World) (F : Nat → Prop) (lo : Nat) (cs : List Frame) (Q : SState → Prop) (m : Machine) : Prop :=
  ∃ ρ' S' m', ρ.le ρ' ∧ Q S' ∧ Steps P m m' ∧ DenS ρ' X w0 F lo cs S' m'
theorem Goes.one [Val] {ρ ρ' : Env} {Q : SState → Prop} {m m' : Machine} {S' : SState} (hle : ρ.le ρ') (hq : Q S') (h : step P m = .next m') (hd : DenS ρ' X w0 F lo cs S' m') : Goes P ρ X w0 F lo cs Q m := ⟨ρ', S', m', hle, hq, .one h, hd⟩
theorem sOut_ok [Val] (hok : FnOk P) {e : Ext} (he : ExtOk P e) {ρ : Env} {S : SState} {td : List SItem} {k : List Item} {Q : SState → Prop} {fn : FuncId} {tm : Array Value} {ops : Array Oper} {i : Nat} {rest : List Nat} {ds : List Deferred} {kd : CallKind} {ro : Option Nat} {frs : List Frame} {w : World} {o : Oper}
    (hfr : S.top.Den ρ ⟨fn, tm, .inRegion ops (i :: rest) :: k, ds, .run, kd, ro⟩) (hmode : S.top.mode = .run) (htd : ∀ ρ', ρ.le ρ' → DenIs ρ' td (.inRegion ops rest :: k)) (hfs : DenFs ρ S.stk frs) (hd : DenH ρ X w0 (find S.ents) (Fr F lo S.next) w) (hF : FrOk F lo S.next S.hi) (hnext : S.next + 2 ≤ S.hi)
    (ho : ops[i]? = some o) (hw : Region.wanted o (yielded ops tm) = true) (hdef : ro = none ∨ isDefer o.op = false) :
    ∀ (x : OOut), OGood P ρ X w0 (find S.ents) (Fr F lo S.next) S.next x (execOp (evalF tm) o) w → (sOut P e S td o.dst x).sat Q →
      Goes P ρ X w0 F lo cs Q (lone ⟨fn, tm, .inRegion ops (i :: rest) :: k, ds, .run, kd, ro⟩ (frs ++ cs) w)
  | .val v us ts, hg, hq => by
    obtain ⟨nx, val, ρ', w', g1, g2, g3, g4, g5⟩ := hg
    have hst := st_op_val (cs := frs ++ cs) (k := k) (ds := ds) (kd := kd) (ro := ro) (fn := fn) (rest := rest) ho hw hdef g1 g2
    refine .one g3 hq hst ⟨_, frs, w', rfl, ⟨hfr.fn, putS_den (hfr.tmps.mono g3) g4 _, htd ρ' g3, hfr.defers.mono g3, by rw [hmode]; rfl, hfr.kind, hfr.round.mono g3⟩, hfs.mono g3, ?_, hF.more (Nat.le_add_right _ _)⟩
    rw [find_appUs]
    exact g5.fresh_mono fun j hj => by
      obtain ⟨h1, h2⟩ := hF.ne (n := 2) hj
      exact ⟨h1, h2 0 (by omega), h2 1 (by omega)⟩
  | .enter f args, hg, hq => by
    obtain ⟨vs, h1, h2⟩ := hg
    simp only [sOut] at hq
    split at hq
    · split at hq
      · rename_i v hv
        obtain ⟨x, g1, g2⟩ := he.xt _ _ _ hv ρ vs w h1
        have hst := st_op_val (P := P) (cs := frs ++ cs) (k := k) (ds := ds) (kd := kd) (ro := ro) (fn := fn) (rest := rest) ho hw hdef (h2.trans g1) (.inl rfl)
        exact .one (Env.le_refl _) hq hst ⟨_, frs, w, rfl, ⟨hfr.fn, putS_den hfr.tmps g2 _, htd ρ (Env.le_refl _), hfr.defers, by rw [hmode]; rfl, hfr.kind, hfr.round⟩, hfs, hd, hF⟩
      · exact hq.elim
    rename_i i' hi'
    have hst := st_op_enter (P := P) (cs := frs ++ cs) (k := k) (ds := ds) (kd := kd) (ro := ro) (fn := fn) (rest := rest) ho hw hdef (h2.trans (run_callFunc hok hi' _ w))
    split at hq
    · rename_i next' t hct
      split at hq
      · rename_i hble
        have hble := Nat.le_of_ble_eq_true hble
        obtain ⟨c1, c2⟩ := he.con _ _ _ _ _ _ hct
        obtain ⟨e, w', fr, ⟨ρ', x, r, hQ, rfl, g1, g2, g3⟩, hcomes, hfn, hleave⟩ := c2 _ (Tree.sat_bind hq) vs w ρ X w0 _ h1 hd (fun j h1 h2 => by
          have := hF.self (j - S.next) (by omega)
          rwa [show S.next + (j - S.next) = j by omega] at this) (⟨fn, tm, .inRegion ops (i :: rest) :: k, ds, .run, kd, ro⟩ :: (frs ++ cs))
        have hlast := step_leave_returned (c := ⟨fn, tm, .inRegion ops (i :: rest) :: k, ds, .run, kd, ro⟩) (cs := frs ++ cs) hleave
        rw [finish_region, ho] at hlast
        refine ⟨ρ', _, _, g1, hQ, .head hst (Steps.trans hcomes (.one hlast)), ⟨_, frs, w', rfl, ⟨hfr.fn, putS_den (hfr.tmps.mono g1) g2 _, htd ρ' g1, hfr.defers.mono g1, by rw [hmode]; rfl, hfr.kind, hfr.round.mono g1⟩, hfs.mono g1, g3.fresh_mono fun j hj => ⟨⟨hj.1, ?_⟩, ?_⟩, hF.more (show S.next ≤ next' by omega)⟩⟩
        · have := hj.2; dsimp only at this; omega
        · have := hj.2; have := hF.1; dsimp only at *; omega
      · exact hq.elim
    · exact .one (Env.le_refl _) hq hst ⟨_, _ :: frs, w, rfl, enterS_den hi' h1, ⟨_, _, rfl, hfr, hfs⟩, hd, hF⟩
  | .yield h args, hg, hq => by
    obtain ⟨vs, l, h1, h2, h3⟩ := hg
    simp only [sOut] at hq
    split at hq <;> try exact hq.elim
    rename_i L hL
    split at hq <;> try exact hq.elim
    rename_i hlen
    have hlen := Nat.eq_of_beq_eq_true hlen
    obtain ⟨b, obj, hb, hobj, hden⟩ := hd.at hL rfl
    obtain rfl : b = l := by rw [h2] at hb; injection hb with e; exact e.symm
    obtain ⟨LL, hLL, rfl⟩ := hden
    have hps : vs.toArray.size = LL.params.size := by
      have e1 := denL_length h1
      have e2 : LL.params.size = L.params.length := by rw [← hLL.params]; simp
      simp; omega
    have hy := run_yield (P := P) hobj hps
    rw [← h3] at hy
    have hst := st_op_round (cs := frs ++ cs) (k := k) (ds := ds) (kd := kd) (ro := ro) (fn := fn) (rest := rest) ho hw hdef hy
    refine .one (Env.le_refl _) hq hst ⟨_, _ :: frs, w, rfl, ⟨hLL.fn, ?_, ?_, rfl, rfl, rfl, ⟨b, hb, rfl⟩⟩, ⟨_, _, rfl, hfr, hfs⟩, hd, hF⟩
    · simp only [Frame.round]
      have e : (LL.params.zip vs.toArray).foldl (fun tmps (x : Tmp × Value) => tmps.setIfInBounds x.1 x.2) LL.tmps = (L.params.zip vs).foldl (fun tmps (p : Tmp × Value) => tmps.setIfInBounds p.1 p.2) LL.tmps := by
        rw [← Array.foldl_toList, Array.toList_zip, hLL.params]
      have e2 : (LL.params.zip vs.toArray).foldl (fun tmps (x : Tmp × Value) => match x with | (t, a) => tmps.setIfInBounds t a) LL.tmps = (LL.params.zip vs.toArray).foldl (fun tmps (x : Tmp × Value) => tmps.setIfInBounds x.1 x.2) LL.tmps := rfl
      rw [e2, e]
      exact bindS_den h1 hLL.tmps
    · simp only [Frame.round]
      exact ⟨_, _, rfl, by rw [hLL.assign]; rfl, _, _, rfl, rfl, _, _, rfl, by rw [hLL.body]; rfl, rfl⟩
  | .dfr f c a, hg, hq => by
    obtain ⟨⟨i', hi'⟩, dd, h1, h2⟩ := hg
    have hst := st_op_defer (cs := frs ++ cs) (k := k) (ds := ds) (kd := kd) (ro := ro) (fn := fn) (rest := rest) ho hw hdef h2
    exact .one (Env.le_refl _) hq hst ⟨_, frs, w, rfl, ⟨hfr.fn, putS_den hfr.tmps undefS_den _, htd ρ (Env.le_refl _), ⟨dd, ds, rfl, h1, hfr.defers⟩, by rw [hmode]; rfl, hfr.kind, hfr.round⟩, hfs, hd, hF⟩
  | .pan v, hg, hq => by
    obtain ⟨x, h1, h2⟩ := hg
    have hst := st_op_panic (cs := frs ++ cs) (k := k) (ds := ds) (kd := kd) (ro := ro) (fn := fn) (rest := rest) ho hw hdef h2
    exact .one (Env.le_refl _) hq hst ⟨_, frs, w, rfl, ⟨hfr.fn, hfr.tmps, hfr.todo, hfr.defers, ⟨_, ⟨x, [], rfl, h1, rfl⟩, rfl⟩, hfr.kind, hfr.round⟩, hfs, hd, hF⟩
  | .rcv, hg, hq => by
    have hr : (execOp (evalF tm) o).run P w = .ok .recover w := hg
    simp only [sOut] at hq
    split at hq <;> try exact hq.elim
    rename_i c rest' hkd hro hstk
    have hk : kd = .deferred := hfr.kind.trans hkd
    have hro' : ro = none := by have := hfr.round; rw [hro] at this; exact this
    subst hk hro'
    rw [hstk] at hfs
    obtain ⟨cf, frs', rfl, hc, hfs'⟩ := hfs
    have htdd := htd ρ (Env.le_refl _)
    split at hq
    · rename_i v older hm
      have hcm := hc.mode
      rw [hm] at hcm
      obtain ⟨ch, hch, hcm⟩ := hcm
      obtain ⟨x, ch', rfl, hx, hold⟩ := hch
      have hrec : recoverD (cf :: (frs' ++ cs)) = some (x, { cf with mode := .panicking ({ v := x, recovered := true, goexit := false } :: ch') } :: (frs' ++ cs)) := by
        simp [recoverD, hcm]
      have hst := st_op_recover_yes (cs := frs' ++ cs) (k := k) (ds := ds) (fn := fn) (rest := rest) ho hw hr hrec
      exact .one (Env.le_refl _) hq hst ⟨_, _ :: frs', w, rfl, ⟨hfr.fn, putS_den hfr.tmps hx _, htdd, hfr.defers, by rw [hmode]; rfl, hfr.kind, hfr.round⟩, ⟨_, _, rfl, ⟨hc.fn, hc.tmps, hc.todo, hc.defers, ⟨_, ⟨x, ch', rfl, hx, hold⟩, rfl⟩, hc.kind, hc.round⟩, hfs'⟩, hd, hF⟩
    · rename_i hm
      have hrec : recoverD (cf :: (frs' ++ cs)) = none := by
        have hcm := hc.mode
        cases hmm : c.mode with
        | run => rw [hmm] at hcm; simp only [SMode.Den] at hcm; simp [recoverD, hcm]
        | returning => rw [hmm] at hcm; simp only [SMode.Den] at hcm; simp [recoverD, hcm]
        | panicking l =>
          rw [hmm] at hcm
          obtain ⟨ch, hch, hcm⟩ := hcm
          cases l with
          | nil => simp only [DenPans] at hch; subst hch; simp [recoverD, hcm]
          | cons p l =>
            obtain ⟨x, ch', rfl, hx, hold⟩ := hch
            obtain ⟨pv, pr⟩ := p
            cases pr with
            | false => exact absurd hmm (hm _ _)
            | true => simp [recoverD, hcm]
      have hst := st_op_recover_no (cs := frs' ++ cs) (k := k) (ds := ds) (fn := fn) (rest := rest) ho hw hr hrec
      exact .one (Env.le_refl _) hq hst ⟨_, _ :: frs', w, rfl, ⟨hfr.fn, putS_den hfr.tmps (by simp [SV.Den]) _, htdd, hfr.defers, by rw [hmode]; rfl, hfr.kind, hfr.round⟩, by rw [hstk]; exact ⟨_, _, rfl, hc, hfs'⟩, hd, hF⟩
  | .split b x y, hg, hq => by
    simp only [sOut, Tree.sat] at hq
    cases hb : b.v with
    | true => exact sOut_ok hok he hfr hmode htd hfs hd hF hnext ho hw hdef x (hg.1 hb) (hq.1 hb)
    | false => exact sOut_ok hok he hfr hmode htd hfs hd hF hnext ho hw hdef y (hg.2 hb) (hq.2 hb)
  | .need p x, hg, hq => by
    simp only [sOut, Tree.sat] at hq
    exact sOut_ok hok he hfr hmode htd hfs hd hF hnext ho hw hdef x (hg hq.1) hq.2
  | .stuck n, _, hq => hq.elim
end
end Go.Sx
