/- Parts of the proof: Sx12, Sx13, Sx24. -/
import Derived.Test.YtnoiijjkjcklpaaGreatZ5
import Derived.Defers
import Derived.Recover
import Derived.RangeFuncNested
/- The symbolic machine: frames, and what they stand for; single steps of the machine. -/
namespace Go.Sx
set_option linter.unusedSimpArgs false
set_option linter.unusedVariables false
open Go Go.RowKit Go.Cd Go.Proofs.YtnoiijjkjcklpaaGreat Go.MapKept

inductive SItem where
  | code (c : Code)
  | inBlock (id : Nat)
  | inLoop (c : Code)
  | inScope (c : Code)
  | inRegion (ops : Array Oper) (idx : List Nat)
  | inRangeFunc (h : Nat)
  | endRangeFunc (h : Nat)
  | beginRound
structure SPan where
  v : SV
  recovered : Bool
inductive SMode where
  | run
  | returning
  | panicking (l : List SPan)
structure SFrame where
  fn : FuncId
  tmps : List SV
  todo : List SItem
  defers : List SDef
  mode : SMode
  kind : CallKind
  round : Option Nat
structure SState where
  top : SFrame
  stk : List SFrame
  ents : Ents
  next : Nat
  hi : Nat
  log : List Nat

def SItem.Den [Val] (ρ : Env) : SItem → Item → Prop
  | .code c, i => i = .code c
  | .inBlock n, i => i = .inBlock n
  | .inLoop c, i => i = .inLoop c
  | .inScope c, i => i = .inScope c
  | .inRegion ops l, i => i = .inRegion ops l
  | .inRangeFunc h, i => ∃ l, ρ h = some l ∧ i = .inRangeFunc l
  | .endRangeFunc h, i => ∃ l, ρ h = some l ∧ i = .endRangeFunc l
  | .beginRound, i => i = .beginRound
def DenIs [Val] (ρ : Env) : List SItem → List Item → Prop
  | [], l => l = []
  | s :: r, l => ∃ i l', l = i :: l' ∧ s.Den ρ i ∧ DenIs ρ r l'
def DenPans [Val] (ρ : Env) : List SPan → List PanicEntry → Prop
  | [], l => l = []
  | s :: r, l => ∃ x l', l = { v := x, recovered := s.recovered, goexit := false } :: l' ∧ s.v.Den ρ x ∧ DenPans ρ r l'
def SMode.Den [Val] (ρ : Env) : SMode → FrameMode → Prop
  | .run, m => m = .run
  | .returning, m => m = .returning
  | .panicking l, m => ∃ c, DenPans ρ l c ∧ m = .panicking c
def DenOh [Val] (ρ : Env) : Option Nat → Option Nat → Prop
  | none, o => o = none
  | some h, o => ∃ l, ρ h = some l ∧ o = some l
theorem SItem.Den.mono [Val] {ρ ρ' : Env} (h : ρ.le ρ') : ∀ {s : SItem} {i : Item}, s.Den ρ i → s.Den ρ' i
  | .code _, _, e => e
  | .inBlock _, _, e => e
  | .inLoop _, _, e => e
  | .inScope _, _, e => e
  | .inRegion _ _, _, e => e
  | .inRangeFunc _, _, ⟨l, e, e'⟩ => ⟨l, h _ _ e, e'⟩
  | .endRangeFunc _, _, ⟨l, e, e'⟩ => ⟨l, h _ _ e, e'⟩
  | .beginRound, _, e => e
theorem DenIs.mono [Val] {ρ ρ' : Env} (h : ρ.le ρ') : ∀ {s : List SItem} {i : List Item}, DenIs ρ s i → DenIs ρ' s i
  | [], _, e => e
  | _ :: _, _, ⟨i, l', e1, e2, e3⟩ => ⟨i, l', e1, e2.mono h, DenIs.mono h e3⟩
theorem DenPans.mono [Val] {ρ ρ' : Env} (h : ρ.le ρ') : ∀ {s : List SPan} {i : List PanicEntry}, DenPans ρ s i → DenPans ρ' s i
  | [], _, e => e
  | _ :: _, _, ⟨i, l', e1, e2, e3⟩ => ⟨i, l', e1, e2.mono h, DenPans.mono h e3⟩
theorem SMode.Den.mono [Val] {ρ ρ' : Env} (h : ρ.le ρ') : ∀ {s : SMode} {m : FrameMode}, s.Den ρ m → s.Den ρ' m
  | .run, _, e => e
  | .returning, _, e => e
  | .panicking _, _, ⟨c, e1, e2⟩ => ⟨c, e1.mono h, e2⟩
theorem DenOh.mono [Val] {ρ ρ' : Env} (h : ρ.le ρ') : ∀ {s o : Option Nat}, DenOh ρ s o → DenOh ρ' s o
  | none, _, e => e
  | some _, _, ⟨l, e1, e2⟩ => ⟨l, h _ _ e1, e2⟩
structure SFrame.Den [Val] (ρ : Env) (s : SFrame) (f : Frame) : Prop where
  fn : f.fn = s.fn
  tmps : SV.DenL ρ s.tmps f.tmps.toList
  todo : DenIs ρ s.todo f.todo
  defers : DenDs ρ s.defers f.defers
  mode : s.mode.Den ρ f.mode
  kind : f.kind = s.kind
  round : DenOh ρ s.round f.roundOf
theorem SFrame.Den.mono [Val] {ρ ρ' : Env} (h : ρ.le ρ') {s : SFrame} {f : Frame} (d : s.Den ρ f) : s.Den ρ' f :=
  ⟨d.fn, d.tmps.mono h, d.todo.mono h, d.defers.mono h, d.mode.mono h, d.kind, d.round.mono h⟩
def DenFs [Val] (ρ : Env) : List SFrame → List Frame → Prop
  | [], l => l = []
  | s :: r, l => ∃ f l', l = f :: l' ∧ s.Den ρ f ∧ DenFs ρ r l'
theorem DenFs.mono [Val] {ρ ρ' : Env} (h : ρ.le ρ') : ∀ {s : List SFrame} {l : List Frame}, DenFs ρ s l → DenFs ρ' s l
  | [], _, e => e
  | _ :: _, _, ⟨f, l', e1, e2, e3⟩ => ⟨f, l', e1, e2.mono h, DenFs.mono h e3⟩
def Fr (F : Nat → Prop) (lo next : Nat) : Nat → Prop := fun j => F j ∧ (j < lo ∨ next ≤ j)
def FrOk (F : Nat → Prop) (lo next hi : Nat) : Prop := lo ≤ next ∧ ∀ j, lo ≤ j → j < hi → F j
theorem FrOk.self [Val] {F : Nat → Prop} {lo next hi : Nat} (h : FrOk F lo next hi) (n : Nat) (hn : next + n < hi) : Fr F lo next (next + n) := ⟨h.2 _ (Nat.le_trans h.1 (by omega)) hn, .inr (by omega)⟩
theorem FrOk.more [Val] {F : Nat → Prop} {lo next hi : Nat} (h : FrOk F lo next hi) {next' : Nat} (hn : next ≤ next') : FrOk F lo next' hi := ⟨Nat.le_trans h.1 hn, h.2⟩
theorem FrOk.ne [Val] {F : Nat → Prop} {lo next hi : Nat} (h : FrOk F lo next hi) {j n : Nat} (hj : Fr F lo (next + n) j) : Fr F lo next j ∧ ∀ m, m < n → j ≠ next + m := by
  obtain ⟨h1, h2⟩ := hj
  have := h.1
  exact ⟨⟨h1, by omega⟩, fun m hm => by omega⟩
def DenS [Val] (ρ : Env) (X : Nat → Prop) (w0 : World) (F : Nat → Prop) (lo : Nat) (cs : List Frame) (S : SState) (m : Machine) : Prop :=
  ∃ fr frs w, m = lone fr (frs ++ cs) w ∧ S.top.Den ρ fr ∧ DenFs ρ S.stk frs ∧ DenH ρ X w0 (find S.ents) (Fr F lo S.next) w ∧ FrOk F lo S.next S.hi

inductive Tree (α : Type) where
  | leaf (a : α)
  | split (b : Bm) (x y : Tree α)
  | need (p : Bm) (x : Tree α)
  | stuck (why : Nat)
def Tree.sat [Val] {α : Type} (Q : α → Prop) : Tree α → Prop
  | .leaf a => Q a
  | .split b x y => (b.v = true → x.sat Q) ∧ (b.v = false → y.sat Q)
  | .need p x => p.v = true ∧ x.sat Q
  | .stuck _ => False
theorem Tree.sat_mono [Val] {α : Type} {Q Q' : α → Prop} (h : ∀ a, Q a → Q' a) : ∀ {t : Tree α}, t.sat Q → t.sat Q'
  | .leaf _, e => h _ e
  | .split _ _ _, e => ⟨fun q => Tree.sat_mono h (e.1 q), fun q => Tree.sat_mono h (e.2 q)⟩
  | .need _ _, e => ⟨e.1, Tree.sat_mono h e.2⟩
  | .stuck _, e => e
def Tree.bind {α β : Type} (t : Tree α) (f : α → Tree β) : Tree β :=
  match t with
  | .leaf a => f a
  | .split b x y => .split b (x.bind f) (y.bind f)
  | .need p x => .need p (x.bind f)
  | .stuck n => .stuck n
theorem Tree.sat_bind [Val] {α β : Type} {Q : β → Prop} {f : α → Tree β} : ∀ {t : Tree α}, (t.bind f).sat Q → t.sat fun a => (f a).sat Q
  | .leaf _, e => e
  | .split _ _ _, e => ⟨fun q => Tree.sat_bind (e.1 q), fun q => Tree.sat_bind (e.2 q)⟩
  | .need _ _, e => ⟨e.1, Tree.sat_bind e.2⟩
  | .stuck _, e => e

def appUs : List Upd → Ents → Ents
  | [], e => e
  | .ins h o :: us, e => appUs us ((h, o) :: e)
  | .set h o :: us, e => appUs us (upd e h o)
  | .del h :: us, e => appUs us (del e h)
theorem find_appUs [Val] : ∀ (us : List Upd) (e : Ents), find (appUs us e) = looks us (find e)
  | [], _ => rfl
  | .ins h o :: us, e => by
    simp only [appUs, looks, find_appUs us]
    congr 1
    funext j
    rw [find_cons]; rfl
  | .set h o :: us, e => by
    simp only [appUs, looks, find_appUs us]
    congr 1
    funext j
    rw [find_upd]; rfl
  | .del h :: us, e => by
    simp only [appUs, looks, find_appUs us]
    congr 1
    funext j
    rw [find_del]; rfl
def updH : Upd → Nat
  | .ins h _ => h
  | .set h _ => h
  | .del h => h
def logUs : List Upd → List Nat → List Nat
  | [], l => l
  | u :: us, l => updH u :: logUs us l

section steps
variable {P : Program} {fn : FuncId} {tmps : Array Value} {k : List Item} {ds : List Deferred} {kd : CallKind} {ro : Option Nat} {cs : List Frame} {w : World}

theorem st_skip [Val] : step P (lone ⟨fn, tmps, .code .skip :: k, ds, .run, kd, ro⟩ cs w) = .next (lone ⟨fn, tmps, k, ds, .run, kd, ro⟩ cs w) := step_lone_go (by simp [stepG, stepG.exec])
theorem st_label [Val] {l : Nat} : step P (lone ⟨fn, tmps, .code (.label l) :: k, ds, .run, kd, ro⟩ cs w) = .next (lone ⟨fn, tmps, k, ds, .run, kd, ro⟩ cs w) := step_lone_go (by simp [stepG, stepG.exec])
theorem st_inBlock [Val] {n : Nat} : step P (lone ⟨fn, tmps, .inBlock n :: k, ds, .run, kd, ro⟩ cs w) = .next (lone ⟨fn, tmps, k, ds, .run, kd, ro⟩ cs w) := step_lone_go (by simp [stepG, stepG.exec])
theorem st_inScope [Val] {c : Code} : step P (lone ⟨fn, tmps, .inScope c :: k, ds, .run, kd, ro⟩ cs w) = .next (lone ⟨fn, tmps, k, ds, .run, kd, ro⟩ cs w) := step_lone_go (by simp [stepG, stepG.exec])
theorem st_seq [Val] {a b : Code} : step P (lone ⟨fn, tmps, .code (.seq a b) :: k, ds, .run, kd, ro⟩ cs w) = .next (lone ⟨fn, tmps, .code a :: .code b :: k, ds, .run, kd, ro⟩ cs w) := step_lone_go (by simp [stepG, stepG.exec])
theorem st_block [Val] {n : Nat} {c : Code} : step P (lone ⟨fn, tmps, .code (.block n c) :: k, ds, .run, kd, ro⟩ cs w) = .next (lone ⟨fn, tmps, .code c :: .inBlock n :: k, ds, .run, kd, ro⟩ cs w) := step_lone_go (by simp [stepG, stepG.exec])
theorem st_loop [Val] {c : Code} : step P (lone ⟨fn, tmps, .code (.loop c) :: k, ds, .run, kd, ro⟩ cs w) = .next (lone ⟨fn, tmps, .code c :: .inLoop c :: k, ds, .run, kd, ro⟩ cs w) := step_lone_go (by simp [stepG, stepG.exec])
theorem st_inLoop [Val] {c : Code} : step P (lone ⟨fn, tmps, .inLoop c :: k, ds, .run, kd, ro⟩ cs w) = .next (lone ⟨fn, tmps, .code c :: .inLoop c :: k, ds, .run, kd, ro⟩ cs w) := step_lone_go (by simp [stepG, stepG.exec])
theorem st_scope [Val] {c : Code} : step P (lone ⟨fn, tmps, .code (.scope c) :: k, ds, .run, kd, ro⟩ cs w) = .next (lone ⟨fn, tmps, .code c :: .inScope c :: k, ds, .run, kd, ro⟩ cs w) := step_lone_go (by simp [stepG, stepG.exec])
def evalF (tmps : Array Value) : Operand → Value
  | .tmp t => tmps.getD t undef
  | .const v => v
  | .global g => .pointer (some ⟨g, 0, none⟩)
  | .func f => .func (.func f) #[] #[]
theorem eval_eq [Val] (fr : Frame) : fr.eval = evalF fr.tmps := by funext x; cases x <;> rfl
theorem st_cond [Val] {c : Operand} {a b : Code} {t : Bool} (h : evalF tmps c = .bool t) : step P (lone ⟨fn, tmps, .code (.cond c a b) :: k, ds, .run, kd, ro⟩ cs w) = .next (lone ⟨fn, tmps, .code (if t then a else b) :: k, ds, .run, kd, ro⟩ cs w) :=
  step_lone_go (by simp [stepG, stepG.exec, eval_eq, h])
theorem st_exit [Val] {n : Nat} {k' : List Item} (h : exitTo n k = some k') : step P (lone ⟨fn, tmps, .code (.exit n) :: k, ds, .run, kd, ro⟩ cs w) = .next (lone ⟨fn, tmps, k', ds, .run, kd, ro⟩ cs w) := step_lone_go (by simp [stepG, stepG.exec, h])
theorem st_goto [Val] {n : Nat} {k' : List Item} (h : gotoIn n k = some k') : step P (lone ⟨fn, tmps, .code (.goto n) :: k, ds, .run, kd, ro⟩ cs w) = .next (lone ⟨fn, tmps, k', ds, .run, kd, ro⟩ cs w) := step_lone_go (by simp [stepG, stepG.exec, h])
theorem st_ret0 [Val] : step P (lone ⟨fn, tmps, .code .ret :: k, ds, .run, kd, none⟩ cs w) = .next (lone ⟨fn, tmps, .code .ret :: k, ds, .returning, kd, none⟩ cs w) := step_lone_go (by simp [stepG, stepG.exec])
theorem st_end0 [Val] : step P (lone ⟨fn, tmps, [], ds, .run, kd, none⟩ cs w) = .next (lone ⟨fn, tmps, [], ds, .returning, kd, none⟩ cs w) := step_lone_go (by simp [stepG, stepG.exec])
theorem st_region [Val] {n : Nat} {ops : Array Oper} : step P (lone ⟨fn, tmps, .code (.region n ops false) :: k, ds, .run, kd, ro⟩ cs w) = .next (lone ⟨fn, tmps, .inRegion ops (List.range ops.size) :: k, ds, .run, kd, ro⟩ cs w) := step_lone_go (by simp [stepG, stepG.exec])
theorem st_region_draw [Val] {n : Nat} {ops : Array Oper} : step P (lone ⟨fn, tmps, .code (.region n ops true) :: k, ds, .run, kd, ro⟩ cs w) =
    .next (lone ⟨fn, tmps, .inRegion ops (Region.schedule (P.follows .mixedOrders) ops (w.tape w.drawn (.order fn n))) :: k, ds, .run, kd, ro⟩ cs { w with drawn := w.drawn + 1 }) :=
  step_lone_go (by simp [stepG, stepG.exec, choose, Sem.run, Question.forced, Question.cut])
theorem st_region_end [Val] {ops : Array Oper} : step P (lone ⟨fn, tmps, .inRegion ops [] :: k, ds, .run, kd, ro⟩ cs w) = .next (lone ⟨fn, tmps, k, ds, .run, kd, ro⟩ cs w) := step_lone_go (by simp [stepG, stepG.exec])
def putD (tmps : Array Value) (d : Option Tmp) (v : Value) : Array Value :=
  match d with
  | some t => tmps.setIfInBounds t v
  | none => tmps
theorem finish_region [Val] {fn : FuncId} {tmps : Array Value} {ops : Array Oper} {i : Nat} {rest : List Nat} {k : List Item} {ds : List Deferred} {m : FrameMode} {kd : CallKind} {ro : Option Nat} (v : Value) :
    (Frame.finish ⟨fn, tmps, .inRegion ops (i :: rest) :: k, ds, m, kd, ro⟩ v) = ⟨fn, putD tmps ((ops[i]?).bind (·.dst)) v, .inRegion ops rest :: k, ds, m, kd, ro⟩ := by
  cases h : (ops[i]?).bind (·.dst) <;> simp [Frame.finish, putD, h]
theorem st_op_skip [Val] {ops : Array Oper} {i : Nat} {rest : List Nat} (h : ((ops[i]?).map (Region.wanted · (yielded ops tmps))).getD false = false) :
    step P (lone ⟨fn, tmps, .inRegion ops (i :: rest) :: k, ds, .run, kd, ro⟩ cs w) = .next (lone ⟨fn, putD tmps ((ops[i]?).bind (·.dst)) undef, .inRegion ops rest :: k, ds, .run, kd, ro⟩ cs w) := by
  rw [← finish_region]
  exact step_lone_go (by simp [stepG, stepG.exec, h])
def isDefer : Op → Bool
  | .defer _ => true
  | _ => false
theorem st_apply [Val] {ops : Array Oper} {i : Nat} {rest : List Nat} {o : Oper} (ho : ops[i]? = some o) (hw : Region.wanted o (yielded ops tmps) = true) (hd : ro = none ∨ isDefer o.op = false) :
    stepG P true { frame := ⟨fn, tmps, .inRegion ops (i :: rest) :: k, ds, .run, kd, ro⟩, callers := cs, status := .running, dying := none } w =
      stepG.apply P true ⟨fn, tmps, .inRegion ops (i :: rest) :: k, ds, .run, kd, ro⟩ cs none (execOp (evalF tmps) o) w := by
  have e : stepG.oper P true ⟨fn, tmps, .inRegion ops (i :: rest) :: k, ds, .run, kd, ro⟩ cs none w = stepG.apply P true ⟨fn, tmps, .inRegion ops (i :: rest) :: k, ds, .run, kd, ro⟩ cs none (execOp (evalF tmps) o) w := by
    simp only [stepG.oper, Frame.oper?, ho, eval_eq]
    rcases hd with rfl | hd
    · rfl
    · obtain ⟨dst, op, ty, pos, after, guard⟩ := o
      cases ro <;> cases op <;> first | rfl | cases hd
  simp [stepG, stepG.exec, ho, hw, e]
section op
variable {ops : Array Oper} {i : Nat} {rest : List Nat} {o : Oper} {w' : World}
theorem st_op_val [Val] {nx : Next} {v : Value} (ho : ops[i]? = some o) (hw : Region.wanted o (yielded ops tmps) = true) (hd : ro = none ∨ isDefer o.op = false) (hr : (execOp (evalF tmps) o).run P w = .ok nx w') (hn : nx = .value v ∨ nx = .skip ∧ v = undef) :
    step P (lone ⟨fn, tmps, .inRegion ops (i :: rest) :: k, ds, .run, kd, ro⟩ cs w) = .next (lone ⟨fn, putD tmps o.dst v, .inRegion ops rest :: k, ds, .run, kd, ro⟩ cs w') := by
  have e : (ops[i]?).bind (·.dst) = o.dst := by rw [ho]; rfl
  rw [← e, ← finish_region]
  rcases hn with rfl | ⟨rfl, rfl⟩ <;> exact step_lone_go (by rw [st_apply ho hw hd]; simp [stepG.apply, hr])
theorem st_op_enter [Val] {f : FuncId} {args : Array Value} (ho : ops[i]? = some o) (hw : Region.wanted o (yielded ops tmps) = true) (hd : ro = none ∨ isDefer o.op = false) (hr : (execOp (evalF tmps) o).run P w = .ok (.enter f args) w') :
    step P (lone ⟨fn, tmps, .inRegion ops (i :: rest) :: k, ds, .run, kd, ro⟩ cs w) = .next (lone (Frame.enter P f args .normal) (⟨fn, tmps, .inRegion ops (i :: rest) :: k, ds, .run, kd, ro⟩ :: cs) w') :=
  step_lone_go (by rw [st_apply ho hw hd]; simp [stepG.apply, hr])
theorem st_op_round [Val] {l : Nat} {f : FuncId} {ts : Array Value} {a b : Code} (ho : ops[i]? = some o) (hw : Region.wanted o (yielded ops tmps) = true) (hd : ro = none ∨ isDefer o.op = false) (hr : (execOp (evalF tmps) o).run P w = .ok (.round l f ts a b) w') :
    step P (lone ⟨fn, tmps, .inRegion ops (i :: rest) :: k, ds, .run, kd, ro⟩ cs w) = .next (lone (Frame.round l f ts a b .normal) (⟨fn, tmps, .inRegion ops (i :: rest) :: k, ds, .run, kd, ro⟩ :: cs) w') :=
  step_lone_go (by rw [st_apply ho hw hd]; simp [stepG.apply, hr])
theorem st_op_defer [Val] {d : Deferred} (ho : ops[i]? = some o) (hw : Region.wanted o (yielded ops tmps) = true) (hd : ro = none ∨ isDefer o.op = false) (hr : (execOp (evalF tmps) o).run P w = .ok (.defer d) w') :
    step P (lone ⟨fn, tmps, .inRegion ops (i :: rest) :: k, ds, .run, kd, ro⟩ cs w) = .next (lone ⟨fn, putD tmps o.dst undef, .inRegion ops rest :: k, d :: ds, .run, kd, ro⟩ cs w') := by
  have e : (ops[i]?).bind (·.dst) = o.dst := by rw [ho]; rfl
  rw [← e, ← finish_region]
  exact step_lone_go (by rw [st_apply ho hw hd]; simp [stepG.apply, hr])
theorem st_op_panic [Val] {v : Value} (ho : ops[i]? = some o) (hw : Region.wanted o (yielded ops tmps) = true) (hd : ro = none ∨ isDefer o.op = false) (hr : (execOp (evalF tmps) o).run P w = .halt (.panic v) w') :
    step P (lone ⟨fn, tmps, .inRegion ops (i :: rest) :: k, ds, .run, kd, ro⟩ cs w) = .next (lone ⟨fn, tmps, .inRegion ops (i :: rest) :: k, ds, .panicking [{ v, recovered := false }], kd, ro⟩ cs w') :=
  step_lone_go (by rw [st_apply ho hw hd]; simp [stepG.apply, hr, Frame.raise])
theorem st_op_recover_no [Val] {c : Frame} (ho : ops[i]? = some o) (hw : Region.wanted o (yielded ops tmps) = true) (hr : (execOp (evalF tmps) o).run P w = .ok .recover w') (hc : recoverD (c :: cs) = none) :
    step P (lone ⟨fn, tmps, .inRegion ops (i :: rest) :: k, ds, .run, .deferred, none⟩ (c :: cs) w) = .next (lone ⟨fn, putD tmps o.dst .nilIface, .inRegion ops rest :: k, ds, .run, .deferred, none⟩ (c :: cs) w') := by
  have e : (ops[i]?).bind (·.dst) = o.dst := by rw [ho]; rfl
  rw [← e, ← finish_region]
  refine step_lone_go ?_
  rw [st_apply ho hw (.inl rfl)]
  have ht : tryRecover ⟨fn, tmps, .inRegion ops (i :: rest) :: k, ds, .run, .deferred, none⟩ (c :: cs) = none := by rw [tryRecover_deferred rfl, hc]
  simp [stepG.apply, hr, ht]
theorem st_op_recover_yes [Val] {c c' : Frame} {v : Value} (ho : ops[i]? = some o) (hw : Region.wanted o (yielded ops tmps) = true) (hr : (execOp (evalF tmps) o).run P w = .ok .recover w') (hc : recoverD (c :: cs) = some (v, c' :: cs)) :
    step P (lone ⟨fn, tmps, .inRegion ops (i :: rest) :: k, ds, .run, .deferred, none⟩ (c :: cs) w) = .next (lone ⟨fn, putD tmps o.dst v, .inRegion ops rest :: k, ds, .run, .deferred, none⟩ (c' :: cs) w') := by
  have e : (ops[i]?).bind (·.dst) = o.dst := by rw [ho]; rfl
  rw [← e, ← finish_region]
  refine step_lone_go ?_
  rw [st_apply ho hw (.inl rfl)]
  have ht : tryRecover ⟨fn, tmps, .inRegion ops (i :: rest) :: k, ds, .run, .deferred, none⟩ (c :: cs) = some (v, c' :: cs) := by rw [tryRecover_deferred rfl, hc]
  simp [stepG.apply, hr, ht]
end op

theorem st_return [Val] {v : Value} {F : Func} {c : Frame} {td : List Item} (hF : P.funcs[fn]? = some F) (hr : (results F tmps).run P w = .ok v w) (hk : kd = .normal) :
    step P (lone ⟨fn, tmps, td, [], .returning, kd, ro⟩ (c :: cs) w) = .next (lone (c.finish v) cs w) := by
  subst hk
  exact step_lone_go (by simp [stepG, unwind, doReturn, hF, hr])
theorem st_return_deferred [Val] {v : Value} {F : Func} {c : Frame} {td : List Item} (hF : P.funcs[fn]? = some F) (hr : (results F tmps).run P w = .ok v w) :
    step P (lone ⟨fn, tmps, td, [], .returning, .deferred, ro⟩ (c :: cs) w) = .next (lone { c with mode := settle c.mode } cs w) := by
  refine step_lone_go ?_
  simp only [stepG, unwind, doReturn, hF, Sem.runT_eq, hr, GStep.bare_after, GStep.bare_go]
  unfold settle
  split <;> (try split) <;> simp_all
theorem st_raise [Val] {chain : List PanicEntry} {F : Func} {c : Frame} {td : List Item} (hF : P.funcs[fn]? = some F) :
    step P (lone ⟨fn, tmps, td, [], .panicking chain, kd, ro⟩ (c :: cs) w) = .next (lone (c.raise chain) cs w) :=
  step_lone_go (by simp [stepG, unwind, Frame.catches, hF])
theorem st_defer [Val] {m : FrameMode} {td : List Item} {fv : Fn} {cap dargs : Array Value} {ds : List Deferred} {f : FuncId} {args : Array Value} (hm : m ≠ .run) (hi : (invoke (.fn fv cap) dargs).run P w = .ok (.enter f args) w) :
    step P (lone ⟨fn, tmps, td, { target := .fn fv cap, args := dargs } :: ds, m, kd, ro⟩ cs w) = .next (lone (Frame.enter P f args .deferred) (⟨fn, tmps, td, ds, m, kd, ro⟩ :: cs) w) :=
  step_defer (fr := ⟨fn, tmps, td, { target := .fn fv cap, args := dargs } :: ds, m, kd, ro⟩) hm rfl rfl hi
theorem st_collected [Val] {m : FrameMode} {td : List Item} {b : Nat} {ds calls : List Deferred} {w' : World} (hm : m ≠ .run) (hr : (Instr.takeDeferred b).run P w = .ok calls w') :
    step P (lone ⟨fn, tmps, td, { target := .collected b, args := #[] } :: ds, m, kd, ro⟩ cs w) = .next (lone ⟨fn, tmps, td, calls ++ ds, m, kd, ro⟩ cs w') := by
  refine step_lone_go ?_
  cases m with
  | run => exact absurd rfl hm
  | returning => simp [stepG, unwind, hr]
  | panicking c => simp [stepG, unwind, hr]

theorem st_rangeFunc [Val] {f : Operand} {params : Array Tmp} {assign body : Code} {l g : Nat} {mark : List Deferred} {w1 : World} {first cap : Array Value} (hr : (Instr.enterLoop fn tmps params assign body ro).run P w = .ok (l, mark) w1)
    (hf : evalF tmps f = .func (.func g) first cap) (hg : ∀ args, (callFunc g args).run P w1 = .ok (.enter g args) w1) :
    step P (lone ⟨fn, tmps, .code (.rangeFunc f params assign body) :: k, ds, .run, kd, ro⟩ cs w) = .next (lone (Frame.enter P g (first ++ #[.func (.yield l) #[] #[]] ++ cap) .normal) (⟨fn, tmps, .inRangeFunc l :: k, mark ++ ds, .run, kd, ro⟩ :: cs) w1) := by
  refine step_lone_go ?_
  have e1 : (Frame.eval ⟨fn, tmps, .inRangeFunc l :: k, mark ++ ds, .run, kd, ro⟩) = evalF tmps := eval_eq _
  simp only [stepG, stepG.exec, Sem.runT_eq, hr, GStep.bare_after, stepG.apply, e1]
  have e2 : (do let d ← resolve (evalF tmps) { callee := .value f, args := #[.const (.func (.yield l) #[] #[])], argTypes := #[] } 0; invoke d.target d.args : Sem Next).run P w1 = .ok (.enter g (first ++ #[.func (.yield l) #[] #[]] ++ cap)) w1 := by
    have hc : evalF tmps (.const (.func (.yield l) #[] #[])) = .func (.yield l) #[] #[] := rfl
    simp [resolve, hf, hc, Deferred.ofValue, invoke, hg]
  simp only [if_true, Sem.runT_eq, e2]
  simp
theorem finish_rangeFunc [Val] {l : Nat} (v : Value) {m : FrameMode} : (Frame.finish ⟨fn, tmps, .inRangeFunc l :: k, ds, m, kd, ro⟩ v) = ⟨fn, tmps, .endRangeFunc l :: k, ds, m, kd, ro⟩ := by simp [Frame.finish]
theorem st_endRangeFunc [Val] {l : Nat} {jump : Option Code} {w' : World} (hr : (Instr.endLoop l).run P w = .ok jump w') :
    step P (lone ⟨fn, tmps, .endRangeFunc l :: k, ds, .run, kd, ro⟩ cs w) = .next (lone ⟨fn, tmps, (jump.map Item.code).toList ++ k, ds, .run, kd, ro⟩ cs w') :=
  step_lone_go (by simp [stepG, stepG.exec, hr])
theorem st_beginRound [Val] {l : Nat} {w' : World} (hr : (Instr.beginRound l).run P w = .ok () w') :
    step P (lone ⟨fn, tmps, .beginRound :: k, ds, .run, kd, some l⟩ cs w) = .next (lone ⟨fn, tmps, k, ds, .run, kd, some l⟩ cs w') := by
  refine step_lone_go ?_
  simp [stepG, stepG.exec, stepG.apply, hr, Frame.finish]
theorem st_endRound [Val] {l : Nat} {v : Value} {w' : World} {c : Frame} {jump : Option Code} {td : List Item} (hr : (Instr.endRound l jump).run P w = .ok v w')
    (hj : td = [] ∧ jump = none ∨ (∃ k, td = .code .ret :: k) ∧ jump = some .ret ∨ (∃ n k, td = .code (.exit n) :: k ∧ exitTo n k = none ∧ jump = some (.exit n)) ∨ (∃ n k, td = .code (.goto n) :: k ∧ gotoIn n k = none ∧ jump = some (.goto n))) :
    step P (lone ⟨fn, tmps, td, ds, .run, .normal, some l⟩ (c :: cs) w) = .next (lone (c.finish v) cs w') := by
  refine step_lone_go ?_
  rcases hj with ⟨rfl, rfl⟩ | ⟨⟨k, rfl⟩, rfl⟩ | ⟨n, k, rfl, he, rfl⟩ | ⟨n, k, rfl, he, rfl⟩
  · simp [stepG, stepG.exec, hr, doReturn]
  · simp [stepG, stepG.exec, hr, doReturn]
  · simp [stepG, stepG.exec, he, hr, doReturn]
  · simp [stepG, stepG.exec, he, hr, doReturn]
end steps
end Go.Sx
/- The symbolic machine's step, and that it is right. -/
namespace Go.Sx
set_option linter.unusedSimpArgs false
set_option linter.unusedVariables false
open Go Go.RowKit Go.Cd Go.Proofs.YtnoiijjkjcklpaaGreat Go.MapKept

def evalS (tmps : List SV) : Ev
  | .tmp t => nth tmps t
  | .const v => ofVal v
  | .func f => some (.fn (.func f) [] [])
  | .global _ => none
theorem evalS_ok [Val] {ρ : Env} {tmps : List SV} {tm : Array Value} (h : SV.DenL ρ tmps tm.toList) : EvOk ρ (evalS tmps) (evalF tm) := fun x s e => by
  cases x with
  | tmp t =>
    simp only [evalS, nth_eq] at e
    obtain ⟨v, hv, hs⟩ := denL_get h e
    have : tm[t]? = some v := by rw [← Array.getElem?_toList]; exact hv
    simpa [evalF, this] using hs
  | const v => exact ofVal_den e
  | global g => cases e
  | func f =>
    simp only [evalS, Option.some.injEq] at e; subst e
    simp only [SV.Den, SFn.Den, evalF]
    exact ⟨_, [], [], rfl, by simp, by simp, rfl⟩
def undefS : SV := .tup []
theorem undefS_den [Val] {ρ : Env} : undefS.Den ρ undef := by simp only [undefS, SV.Den]; exact ⟨[], by simp, rfl⟩
def putS (tmps : List SV) (d : Option Tmp) (v : SV) : List SV :=
  match d with
  | some t => setN tmps t v
  | none => tmps
theorem putS_den [Val] {ρ : Env} {tmps : List SV} {tm : Array Value} (h : SV.DenL ρ tmps tm.toList) {s : SV} {v : Value} (hs : s.Den ρ v) (d : Option Tmp) : SV.DenL ρ (putS tmps d s) (putD tm d v).toList := by
  cases d with
  | none => exact h
  | some t => simp only [putS, putD, setN_eq, Array.toList_setIfInBounds]; exact denL_set h hs t
def undefs : Nat → List SV
  | 0 => []
  | n + 1 => undefS :: undefs n
theorem undefs_den [Val] {ρ : Env} : ∀ n, SV.DenL ρ (undefs n) (List.replicate n undef)
  | 0 => by simp [undefs]
  | n + 1 => denL_cons'.2 ⟨undefS_den, undefs_den n⟩
def enterS (i : FnI) (f : FuncId) (args : List SV) (kind : CallKind) : SFrame :=
  { fn := f, tmps := args ++ undefs (i.ntmps - args.length), todo := [.code i.body], defers := [], mode := .run, kind, round := none }
theorem enterS_den [Val] {P : Program} {ρ : Env} {i : FnI} {f : FuncId} {args : List SV} {vs : List Value} {kind : CallKind} (hi : fnOf P f = some i) (ha : SV.DenL ρ args vs) : (enterS i f args kind).Den ρ (Frame.enter P f vs.toArray kind) := by
  obtain ⟨F, hF, hb, hn, _⟩ := fnOf_spec hi
  have hl := denL_length ha
  refine ⟨rfl, ?_, ?_, rfl, rfl, rfl, rfl⟩
  · simp only [Frame.enter, hF, Option.map_some, Option.getD_some, hn, enterS]
    simp only [Array.toList_append, List.toList_toArray, List.size_toArray, Array.toList_replicate]
    rw [← hl]
    exact denL_append ha (undefs_den _)
  · simp only [Frame.enter, hF, Option.bind_some, hb, Option.getD_some, enterS]
    exact ⟨_, [], rfl, rfl, rfl⟩
def bindS : List Tmp → List SV → List SV → List SV
  | t :: ts, a :: xs, tmps => bindS ts xs (setN tmps t a)
  | _, _, tmps => tmps
theorem bindS_den [Val] {ρ : Env} : ∀ {ts : List Tmp} {xs : List SV} {vs : List Value} {tmps : List SV} {tm : Array Value}, SV.DenL ρ xs vs → SV.DenL ρ tmps tm.toList →
    SV.DenL ρ (bindS ts xs tmps) ((ts.zip vs).foldl (fun tmps (p : Tmp × Value) => tmps.setIfInBounds p.1 p.2) tm).toList
  | [], xs, vs, tmps, tm, _, h => by simpa [bindS] using h
  | t :: ts, [], vs, tmps, tm, ha, h => by rw [denL_nil] at ha; subst ha; simpa [bindS] using h
  | t :: ts, a :: xs, _, tmps, tm, ha, h => by
    obtain ⟨v, vs', rfl, h1, h2⟩ := denL_cons.1 ha
    simp only [bindS, List.zip_cons_cons, List.foldl_cons]
    refine bindS_den h2 ?_
    rw [setN_eq, Array.toList_setIfInBounds]
    exact denL_set h h1 t

inductive Want where
  | yes
  | no
  | ask (b : Bm) (want : Bool)
  | unk
def wantS (ops : Array Oper) (tmps : List SV) (o : Oper) : Want :=
  match o.guard with
  | none => .yes
  | some (j, want) => match (ops[j]?).bind (·.dst) with
    | none => .no
    | some d => match nth tmps d with
      | none => .no
      | some (.bool (.lit b)) => match b == want with
        | true => .yes
        | false => .no
      | some (.bool (.sym b)) => .ask b want
      | some .any => .unk
      | some _ => .no
theorem wantS_ok [Val] {ρ : Env} {ops : Array Oper} {tmps : List SV} {tm : Array Value} (h : SV.DenL ρ tmps tm.toList) (o : Oper) :
    match wantS ops tmps o with
    | .yes => Region.wanted o (yielded ops tm) = true
    | .no => Region.wanted o (yielded ops tm) = false
    | .ask b want => Region.wanted o (yielded ops tm) = (b.v == want)
    | .unk => True := by
  unfold wantS Region.wanted
  cases hg : o.guard with
  | none => simp
  | some p =>
    obtain ⟨j, want⟩ := p
    simp only
    cases hd : (ops[j]?).bind (·.dst) with
    | none => simp [yielded, hd]
    | some d =>
      simp only
      have hyn : tm[d]? = none → yielded ops tm j = none := fun e => by simp [yielded, hd, e]
      have hyb : ∀ b, tm[d]? = some (.bool b) → yielded ops tm j = some b := fun b e => by simp [yielded, hd, e]
      have hyo : ∀ v, tm[d]? = some v → (∀ b, v ≠ .bool b) → yielded ops tm j = none := fun v e hb => by
        simp only [yielded, hd, Option.bind_some, e]
        cases v <;> first | rfl | exact absurd rfl (hb _)
      cases hn : nth tmps d with
      | none =>
        rw [nth_eq] at hn
        have hl := denL_length h
        have : tm[d]? = none := by
          rw [← Array.getElem?_toList]
          rw [List.getElem?_eq_none_iff] at hn ⊢
          omega
        simp [hyn this]
      | some s =>
        rw [nth_eq] at hn
        obtain ⟨v, hv, hs⟩ := denL_get h hn
        have hv' : tm[d]? = some v := by rw [← Array.getElem?_toList]; exact hv
        cases s with
        | bool b =>
          simp only [SV.Den] at hs; subst hs
          have := hyb _ hv'
          cases b with
          | lit b => cases b <;> cases want <;> simp [this]
          | sym b => cases hb : b.v <;> cases want <;> simp [this, SB.v, hb]
        | any => simp
        | _ =>
          have := hyo v hv' (fun b e => by
            subst e
            simp only [SV.Den] at hs
            first
              | (cases hs; done)
              | (obtain ⟨_, _, _, h, _⟩ := hs; cases h; done)
              | (obtain ⟨_, _, _, _, h⟩ := hs; cases h; done)
              | (obtain ⟨_, _, _, _, _, _, _, _, _, h⟩ := hs; cases h; done)
              | (obtain ⟨_, _, h⟩ := hs; cases h; done)
              | (obtain ⟨_, _, _, _, _, _, h⟩ := hs; cases h; done))
          simp [this]

abbrev Ask := List (Bm × Bool) → Array Oper → List SV → Ents → Nat → Nat → Option Bm
abbrev Dr := List (Bm × Bool) → Array Oper → List SV → Ents → Nat → Nat → List Nat → Option (List Bm × List SV × Ents × Nat × List Nat × List Nat)
def DrOk [Val] (P : Program) (dr : Dr) : Prop :=
  ∀ as' ops tmps ents next hi log ps tmps' ents' next' log' rest, dr as' ops tmps ents next hi log = some (ps, tmps', ents', next', log', rest) → (∀ p ∈ ps, p.v = true) →
    ∀ (ρ : Env) (X : Nat → Prop) (w0 : World) (F : Nat → Prop) (lo : Nat) (cs : List Frame) (fn : FuncId) (tm : Array Value) (k : List Item) (ds : List Deferred) (kd : CallKind) (ro : Option Nat) (w : World) (t : Nat),
      SV.DenL ρ tmps tm.toList → DenH ρ X w0 (find ents) (Fr F lo next) w → FrOk F lo next hi →
      ∃ ρ' tm' w', ρ.le ρ' ∧ Steps P (lone ⟨fn, tm, .inRegion ops (Region.schedule (P.follows .mixedOrders) ops t) :: k, ds, .run, kd, ro⟩ cs w) (lone ⟨fn, tm', .inRegion ops rest :: k, ds, .run, kd, ro⟩ cs w') ∧
        SV.DenL ρ' tmps' tm'.toList ∧ DenH ρ' X w0 (find ents') (Fr F lo next') w' ∧ next ≤ next'

def needAll {α : Type} : List Bm → Tree α → Tree α
  | [], t => t
  | p :: l, t => .need p (needAll l t)
theorem needAll_sat [Val] {α : Type} {Q : α → Prop} {t : Tree α} : ∀ {l : List Bm}, (needAll l t).sat Q → (∀ p ∈ l, p.v = true) ∧ t.sat Q
  | [], h => ⟨fun p hp => absurd hp (by simp), h⟩
  | q :: l, h => by
    obtain ⟨h1, h2⟩ := h
    obtain ⟨h3, h4⟩ := needAll_sat h2
    refine ⟨fun p hp => ?_, h4⟩
    rcases List.mem_cons.1 hp with rfl | hp
    · exact h1
    · exact h3 p hp
def Tree.all {α : Type} (Q : α → Prop) : Tree α → Prop
  | .leaf a => Q a
  | .split _ x y => x.all Q ∧ y.all Q
  | .need _ x => x.all Q
  | .stuck _ => True
theorem needAll_all {α : Type} {Q : α → Prop} {t : Tree α} (h : t.all Q) : ∀ {l : List Bm}, (needAll l t).all Q
  | [] => h
  | _ :: l => needAll_all h (l := l)
theorem Tree.all_bind [Val] {α β : Type} {Q : α → Prop} {Q' : β → Prop} {f : α → Tree β} (hf : ∀ a, Q a → (f a).all Q') : ∀ {t : Tree α}, t.all Q → (t.bind f).all Q'
  | .leaf a, h => hf a h
  | .split _ x y, h => ⟨Tree.all_bind hf h.1, Tree.all_bind hf h.2⟩
  | .need _ x, h => Tree.all_bind hf (t := x) h
  | .stuck _, _ => trivial
structure CRes where
  val : SV
  ents : Ents
  log : List Nat
abbrev Con := FuncId → List SV → Ents → Nat → Option (Nat × Tree CRes)
def ConLog (con : Con) : Prop := ∀ f args ents next next' t, con f args ents next = some (next', t) → t.all fun r => ∀ h, h ∉ r.log → find r.ents h = find ents h
def ConOk [Val] (P : Program) (con : Con) : Prop :=
  ∀ f args ents next next' t, con f args ents next = some (next', t) → next + 2 ≤ next' ∧
    ∀ Q : CRes → Prop, t.sat Q → ∀ (vs : List Value) (w : World) (ρ : Env) (X : Nat → Prop) (w0 : World) (F : Nat → Prop), SV.DenL ρ args vs → DenH ρ X w0 (find ents) F w → (∀ j, next ≤ j → j < next' → F j) →
      Calls P f vs.toArray w fun e w' => ∃ ρ' x r, Q r ∧ e = .returned x ∧ ρ.le ρ' ∧ r.val.Den ρ' x ∧ DenH ρ' X w0 (find r.ents) (fun j => F j ∧ ¬ (next ≤ j ∧ j < next')) w'
def noCon : Con := fun _ _ _ _ => none
theorem noCon_ok [Val] (P : Program) : ConOk P noCon := fun _ _ _ _ _ _ h => by cases h
theorem noCon_log : ConLog noCon := fun _ _ _ _ _ _ h => by cases h
abbrev Ax := Look → Nat → Op → Option (List SV) → Option OOut
structure Ext where
  dr : Dr
  ask : Ask
  con : Con
  xt : FuncId → List SV → Option SV
  ax : Ax
def AxOk [Val] (P : Program) (ax : Ax) : Prop :=
  ∀ look id o xs out, ax look id o (some xs) = some out → ∀ (ρ : Env) (X : Nat → Prop) (w0 w : World) (fresh : Nat → Prop) (e : Operand → Value) (op : Oper), op.op = o → SV.DenL ρ xs (o.operands.toList.map e) → DenH ρ X w0 look fresh w → fresh id → fresh (id + 1) →
    OGood P ρ X w0 look fresh id out (execOp e op) w
def AxSafe (ax : Ax) : Prop := ∀ look id o, ax look id o none = none
def noAx : Ax := fun _ _ _ _ => none
theorem noAx_ok [Val] (P : Program) : AxOk P noAx := fun _ _ _ _ _ h => by cases h
def sopX (P : Program) (ax : Ax) (look : Look) (id : Nat) (ev : Ev) (o : Op) : OOut :=
  match ax look id o (evs ev o.operands.toList) with
  | some out => out
  | none => sop P look id ev o
theorem sopX_ok [Val] {P : Program} (hok : FnOk P) {ax : Ax} (hax : AxOk P ax) (hs : AxSafe ax) {ρ : Env} {X : Nat → Prop} {w0 w : World} {look : Look} {fresh : Nat → Prop} {id : Nat} {ev : Ev} {e : Operand → Value} (hev : EvOk ρ ev e) (d : DenH ρ X w0 look fresh w) (hid : fresh id) (hid1 : fresh (id + 1)) (o : Oper) :
    OGood P ρ X w0 look fresh id (sopX P ax look id ev o.op) (execOp e o) w := by
  unfold sopX
  split
  · rename_i out ho
    cases hx : evs ev o.op.operands.toList with
    | none => rw [hx, hs] at ho; cases ho
    | some xs =>
      rw [hx] at ho
      exact hax _ _ _ _ _ ho ρ X w0 w fresh e o rfl (evs_ok hev hx) d hid hid1
  · exact sop_ok hok hev d hid hid1 o
def XtOk [Val] (P : Program) (xt : FuncId → List SV → Option SV) : Prop :=
  ∀ f args v, xt f args = some v → ∀ (ρ : Env) (vs : List Value) (w : World), SV.DenL ρ args vs → ∃ x, (callFunc f vs.toArray).run P w = .ok (.value x) w ∧ v.Den ρ x
def noXt : FuncId → List SV → Option SV := fun _ _ => none
theorem noXt_ok [Val] (P : Program) : XtOk P noXt := fun _ _ _ h => by cases h
structure ExtOk [Val] (P : Program) (x : Ext) : Prop where
  dr : DrOk P x.dr
  con : ConOk P x.con
  xt : XtOk P x.xt
  ax : AxOk P x.ax
  axs : AxSafe x.ax

def sexitTo (n : Nat) : List SItem → Option (List SItem)
  | .inBlock m :: k => match Nat.beq m n with
    | true => some k
    | false => sexitTo n k
  | _ :: k => sexitTo n k
  | [] => none
def sgotoIn (l : Nat) : List SItem → Option (List SItem)
  | .inScope body :: k => match findLabel body l with
    | some rest => some (.code rest :: .inScope body :: k)
    | none => sgotoIn l k
  | _ :: k => sgotoIn l k
  | [] => none
theorem sexitTo_ok [Val] {ρ : Env} {n : Nat} : ∀ {s : List SItem} {l : List Item}, DenIs ρ s l → match sexitTo n s with
    | some k => ∃ k', exitTo n l = some k' ∧ DenIs ρ k k'
    | none => exitTo n l = none
  | [], l, h => by simp only [DenIs] at h; subst h; simp [sexitTo, exitTo]
  | s :: r, _, h => by
    obtain ⟨i, l', rfl, h1, h2⟩ := h
    have ih := sexitTo_ok (n := n) h2
    cases s with
    | inBlock m =>
      simp only [SItem.Den] at h1; subst h1
      simp only [sexitTo, exitTo]
      cases hb : Nat.beq m n with
      | true =>
        have := Nat.eq_of_beq_eq_true hb; subst this
        simp only [beq_self_eq_true, if_true]
        exact ⟨l', rfl, h2⟩
      | false =>
        have hne := Nat.ne_of_beq_eq_false hb
        have : (m == n) = false := by simpa using hne
        simp only [this]
        exact ih
    | code c => simp only [SItem.Den] at h1; subst h1; exact ih
    | inLoop c => simp only [SItem.Den] at h1; subst h1; exact ih
    | inScope c => simp only [SItem.Den] at h1; subst h1; exact ih
    | inRegion ops l => simp only [SItem.Den] at h1; subst h1; exact ih
    | inRangeFunc h => obtain ⟨l, _, rfl⟩ := h1; exact ih
    | endRangeFunc h => obtain ⟨l, _, rfl⟩ := h1; exact ih
    | beginRound => simp only [SItem.Den] at h1; subst h1; exact ih
theorem sgotoIn_ok [Val] {ρ : Env} {n : Nat} : ∀ {s : List SItem} {l : List Item}, DenIs ρ s l → match sgotoIn n s with
    | some k => ∃ k', gotoIn n l = some k' ∧ DenIs ρ k k'
    | none => gotoIn n l = none
  | [], l, h => by simp only [DenIs] at h; subst h; simp [sgotoIn, gotoIn]
  | s :: r, _, h => by
    obtain ⟨i, l', rfl, h1, h2⟩ := h
    have ih := sgotoIn_ok (n := n) h2
    cases s with
    | inScope c =>
      simp only [SItem.Den] at h1; subst h1
      simp only [sgotoIn, gotoIn]
      cases hb : findLabel c n with
      | some rest => exact ⟨_, rfl, _, _, rfl, rfl, _, _, rfl, rfl, h2⟩
      | none => exact ih
    | code c => simp only [SItem.Den] at h1; subst h1; exact ih
    | inLoop c => simp only [SItem.Den] at h1; subst h1; exact ih
    | inBlock c => simp only [SItem.Den] at h1; subst h1; exact ih
    | inRegion ops l => simp only [SItem.Den] at h1; subst h1; exact ih
    | inRangeFunc h => obtain ⟨l, _, rfl⟩ := h1; exact ih
    | endRangeFunc h => obtain ⟨l, _, rfl⟩ := h1; exact ih
    | beginRound => simp only [SItem.Den] at h1; subst h1; exact ih

def resS (P : Program) (look : Look) (tmps : List SV) : List ResultVar → Option (List SV)
  | [] => some []
  | .tmp t :: r => match nth tmps t with
    | none => none
    | some s => match resS P look tmps r with
      | some l => some (s :: l)
      | none => none
  | .cell a t :: r => match nth tmps a with
    | none => none
    | some p => match sLoad P look t p with
      | some (s, _, _) => match resS P look tmps r with
        | some l => some (s :: l)
        | none => none
      | none => none
def resultS (P : Program) (look : Look) (tmps : List SV) (rs : List ResultVar) : Option SV :=
  match resS P look tmps rs with
  | some [s] => some s
  | some l => some (.tup l)
  | none => none
def resF (tm : Array Value) : ResultVar → Sem Value
  | .tmp t => pure (tm.getD t undef)
  | .cell a t => do loadVar t (← asAddr (tm.getD a undef))
theorem results_eq [Val] (F : Func) (tm : Array Value) : results F tm = (do let vs ← F.results.mapM (resF tm); pure (if h : vs.size = 1 then vs[0] else .tuple vs)) := by
  have e : (fun (x : ResultVar) => (match x with
      | .tmp t => pure (tm.getD t undef)
      | .cell a t => do loadVar t (← asAddr (tm.getD a undef)) : Sem Value)) = resF tm := by
    funext x; cases x <;> rfl
  rw [← e]
  rfl
theorem resS_ok [Val] {P : Program} {ρ : Env} {X : Nat → Prop} {w0 w : World} {look : Look} {fresh : Nat → Prop} {tmps : List SV} {tm : Array Value} (d : DenH ρ X w0 look fresh w) (ht : SV.DenL ρ tmps tm.toList) :
    ∀ {rs : List ResultVar} {l : List SV}, resS P look tmps rs = some l → ∃ vs, (rs.mapM (resF tm) : Sem (List Value)).run P w = .ok vs w ∧ SV.DenL ρ l vs
  | [], _, h => by simp only [resS, Option.some.injEq] at h; subst h; exact ⟨[], by simp, by simp⟩
  | .tmp t :: r, _, h => by
    unfold resS at h
    split at h <;> try cases h
    rename_i s hs
    split at h <;> cases h
    rename_i l hl
    obtain ⟨vs, h1, h2⟩ := resS_ok d ht hl
    rw [nth_eq] at hs
    obtain ⟨v, hv, hsv⟩ := denL_get ht hs
    have hv' : tm[t]? = some v := by rw [← Array.getElem?_toList]; exact hv
    refine ⟨v :: vs, ?_, denL_cons'.2 ⟨hsv, h2⟩⟩
    rw [List.mapM_cons]
    simp only [Sem.run_bind, resF, Sem.run_pure, Result.andThen_ok, h1]
    simp [hv']
  | .cell a t :: r, _, h => by
    unfold resS at h
    split at h <;> try cases h
    rename_i p hp
    split at h <;> try cases h
    rename_i s us ts hs
    split at h <;> cases h
    rename_i l hl
    obtain ⟨vs, h1, h2⟩ := resS_ok d ht hl
    rw [nth_eq] at hp
    obtain ⟨v, hv, hpv⟩ := denL_get ht hp
    have hv' : tm[a]? = some v := by rw [← Array.getElem?_toList]; exact hv
    obtain ⟨val, g1, g2, rfl⟩ := sLoad_den d hpv hs
    have hp2 : ∃ b m, v = .pointer (some ⟨b, m, none⟩) := by
      unfold sLoad at hs
      split at hs
      · simp only [SV.Den] at hpv
        obtain ⟨b, m, _, _, e⟩ := hpv
        exact ⟨b, m, e⟩
      · cases hs
    obtain ⟨b, m, rfl⟩ := hp2
    have g3 : (loadVar t ⟨b, m, none⟩).run P w = .ok val w := by simpa [Instr.loadAt, Instr.sureAddr] using g1
    refine ⟨val :: vs, ?_, denL_cons'.2 ⟨g2, h2⟩⟩
    rw [List.mapM_cons]
    have e2 : (asAddr (tm.getD a undef)).run P w = .ok ⟨b, m, none⟩ w := by
      have e1 : tm.getD a undef = .pointer (some ⟨b, m, none⟩) := by simp [hv']
      rw [e1]; rfl
    simp only [Sem.run_bind, resF, e2, Sem.run_pure, Result.andThen_ok, g3, h1]
theorem resultS_ok [Val] {P : Program} {ρ : Env} {X : Nat → Prop} {w0 w : World} {look : Look} {fresh : Nat → Prop} {tmps : List SV} {tm : Array Value} (d : DenH ρ X w0 look fresh w) (ht : SV.DenL ρ tmps tm.toList) {F : Func} {s : SV}
    (h : resultS P look tmps F.results.toList = some s) : ∃ v, (results F tm).run P w = .ok v w ∧ s.Den ρ v := by
  have key : ∀ l, resS P look tmps F.results.toList = some l → ∃ vs, (results F tm).run P w = .ok (if h : vs.toArray.size = 1 then vs.toArray[0] else .tuple vs.toArray) w ∧ SV.DenL ρ l vs := fun l hl => by
    obtain ⟨vs, h1, h2⟩ := resS_ok d ht hl
    refine ⟨vs, ?_, h2⟩
    rw [results_eq, Array.mapM_eq_mapM_toList]
    simp only [Sem.run_bind, Sem.run_map, h1, Result.andThen_ok, Sem.run_pure]
  unfold resultS at h
  split at h
  · rename_i x hx
    injection h with h; subst h
    obtain ⟨vs, h1, h2⟩ := key _ hx
    obtain ⟨v, vs', rfl, h3, h4⟩ := denL_cons.1 h2
    rw [denL_nil] at h4; subst h4
    exact ⟨v, by simpa using h1, h3⟩
  · rename_i l hne hl
    injection h with h; subst h
    obtain ⟨vs, h1, h2⟩ := key _ hl
    have hlen := denL_length h2
    have : vs.toArray.size ≠ 1 := by
      simp only [List.size_toArray, hlen]
      intro e
      match l, e with
      | [x], _ => exact hne x rfl
    rw [dif_neg this] at h1
    exact ⟨_, h1, by simp only [SV.Den]; exact ⟨vs, h2, rfl⟩⟩
  · cases h
end Go.Sx
/- Two ways that meet: values joined by a test.  -/
namespace Go.Sx
set_option linter.unusedSimpArgs false
set_option linter.unusedVariables false
open Go Go.RowKit Go.Cd Go.Proofs.YtnoiijjkjcklpaaGreat Go.MapKept
def SI.ite (t : Bm) (a b : SI) : SI :=
  SI.ofTm (mkIte t a.tm b.tm)
theorem SI.ite_v [Val] (t : Bm) (a b : SI) : (SI.ite t a b).v = if t.v then a.v else b.v := by
  rw [SI.ite, SI.ofTm_v, mkIte_v, SI.tm_v, SI.tm_v]
def SN.same : SN → SN → Bool
  | .lit a, .lit b => Nat.beq a b
  | .env a, .env b => Nat.beq a b
  | .sym a, .sym b => Tm.same a b
  | _, _ => false
theorem SN.same_eq : ∀ {a b : SN}, SN.same a b = true → a = b
  | .lit a, b, h => by
    cases b <;> simp only [SN.same, Bool.false_eq_true] at h
    rw [Nat.eq_of_beq_eq_true h]
  | .env a, b, h => by
    cases b <;> simp only [SN.same, Bool.false_eq_true] at h
    rw [Nat.eq_of_beq_eq_true h]
  | .sym a, b, h => by
    cases b <;> simp only [SN.same, Bool.false_eq_true] at h
    rw [Tm.same_eq h]
  | .sub i k, b, h => by cases b <;> simp only [SN.same, Bool.false_eq_true] at h
def SOff.same : SOff → SOff → Bool
  | .lit a, .lit b => Nat.beq a b
  | _, _ => false
theorem SOff.same_eq : ∀ {a b : SOff}, SOff.same a b = true → a = b
  | .lit a, b, h => by
    cases b <;> simp only [SOff.same, Bool.false_eq_true] at h
    rw [Nat.eq_of_beq_eq_true h]
  | .idx _ _ _ _, b, h => by cases b <;> simp only [SOff.same, Bool.false_eq_true] at h
  | .raw _ _ _ _ _, b, h => by cases b <;> simp only [SOff.same, Bool.false_eq_true] at h
  | .any, b, h => by cases b <;> simp only [SOff.same, Bool.false_eq_true] at h
mutual
def mergeV (t : Bm) : Nat → SV → SV → SV
  | _, .int k a, .int k' b => match decide (k = k') with
    | true => .int k (SI.ite t a b)
    | false => .any
  | _, .bool a, .bool b => .bool (SB.ite t a b)
  | _, .nilp, .nilp => .nilp
  | _, .nils, .nils => .nils
  | _, .nilm, .nilm => .nilm
  | _, .nilf, .nilf => .nilf
  | _, .nili, .nili => .nili
  | _, .ptr h o, .ptr h' o' => match Nat.beq h h', SOff.same o o' with
    | true, true => .ptr h o
    | _, _ => .any
  | _, .map h, .map h' => match Nat.beq h h' with
    | true => .map h
    | false => .any
  | _, .sl h o l c, .sl h' o' l' c' => match Nat.beq h h', SOff.same o o', SN.same l l', SN.same c c' with
    | true, true, true, true => .sl h o l c
    | _, _, _, _ => .any
  | n + 1, .agg l, .agg m => match mergeL t n l m with
    | some r => .agg r
    | none => .any
  | n + 1, .tup l, .tup m => match mergeL t n l m with
    | some r => .tup r
    | none => .any
  | _, _, _ => .any
def mergeL (t : Bm) : Nat → List SV → List SV → Option (List SV)
  | 0, _, _ => none
  | _ + 1, [], [] => some []
  | n + 1, x :: l, y :: m => match mergeL t n l m with
    | some r => some (mergeV t n x y :: r)
    | none => none
  | _ + 1, _, _ => none
end
theorem merge_den [Val] {ρ : Env} {t : Bm} : ∀ n : Nat, (∀ (x y : SV) (v : Value), (t.v = true → x.Den ρ v) → (t.v = false → y.Den ρ v) → (mergeV t n x y).Den ρ v) ∧
    (∀ (l m r : List SV) (vs : List Value), mergeL t n l m = some r → (t.v = true → SV.DenL ρ l vs) → (t.v = false → SV.DenL ρ m vs) → SV.DenL ρ r vs) := by
  have same : ∀ {x : SV} {v : Value}, (t.v = true → x.Den ρ v) → (t.v = false → x.Den ρ v) → x.Den ρ v := fun h h' => by
    cases ht : t.v with
    | true => exact h ht
    | false => exact h' ht
  have hany : ∀ v : Value, SV.any.Den ρ v := fun v => by simp [SV.Den]
  intro n
  induction n using Nat.strongRecOn with
  | _ n ih =>
    refine ⟨fun x y v hx hy => ?_, ?_⟩
    rotate_left
    · intro l m r vs h hx hy
      cases n with
      | zero => simp [mergeL] at h
      | succ n =>
        obtain ⟨ih1, ih2⟩ := ih n (by omega)
        match l, m, h with
        | [], [], h =>
          simp only [mergeL, Option.some.injEq] at h; subst h
          cases ht : t.v with
          | true => exact hx ht
          | false => exact hy ht
        | [], _ :: _, h => simp [mergeL] at h
        | _ :: _, [], h => simp [mergeL] at h
        | x :: l', y :: m', h =>
          simp only [mergeL] at h
          split at h <;> cases h
          rename_i r' hr
          have hlen : ∃ v vs', vs = v :: vs' := by
            cases ht : t.v with
            | true => obtain ⟨v, vs', e, _⟩ := denL_cons.1 (hx ht); exact ⟨v, vs', e⟩
            | false => obtain ⟨v, vs', e, _⟩ := denL_cons.1 (hy ht); exact ⟨v, vs', e⟩
          obtain ⟨v, vs', rfl⟩ := hlen
          exact denL_cons'.2 ⟨ih1 x y v (fun ht => (denL_cons'.1 (hx ht)).1) (fun ht => (denL_cons'.1 (hy ht)).1), ih2 l' m' r' vs' hr (fun ht => (denL_cons'.1 (hx ht)).2) (fun ht => (denL_cons'.1 (hy ht)).2)⟩
    unfold mergeV
    split
    · split
      · rename_i hk
        have hk := of_decide_eq_true hk; subst hk
        cases ht : t.v with
        | true => have := hx ht; simp only [SV.Den] at this ⊢; rw [this, SI.ite_v, ht]; rfl
        | false => have := hy ht; simp only [SV.Den] at this ⊢; rw [this, SI.ite_v, ht]; rfl
      · exact hany _
    · cases ht : t.v with
      | true => have := hx ht; simp only [SV.Den] at this ⊢; rw [this, SB.ite_v, ht]; rfl
      | false => have := hy ht; simp only [SV.Den] at this ⊢; rw [this, SB.ite_v, ht]; rfl
    all_goals first
      | exact same hx hy
      | exact hany _
      | skip
    · split
      · rename_i h1 h2
        have h1 := Nat.eq_of_beq_eq_true h1
        have h2 := SOff.same_eq h2
        subst h1 h2
        exact same hx hy
      · exact hany _
    · split
      · rename_i h1
        have h1 := Nat.eq_of_beq_eq_true h1
        subst h1
        exact same hx hy
      · exact hany _
    · split
      · rename_i h1 h2 h3 h4
        have h1 := Nat.eq_of_beq_eq_true h1
        have h2 := SOff.same_eq h2
        have h3 := SN.same_eq h3
        have h4 := SN.same_eq h4
        subst h1 h2 h3 h4
        exact same hx hy
      · exact hany _
    · rename_i n' l m
      obtain ⟨_, ih2⟩ := ih n' (by omega)
      split
      · rename_i r hr
        have hv : ∃ vs : List Value, v = .agg vs.toArray := by
          cases ht : t.v with
          | true => have := hx ht; simp only [SV.Den] at this; obtain ⟨vs, _, e⟩ := this; exact ⟨vs, e⟩
          | false => have := hy ht; simp only [SV.Den] at this; obtain ⟨vs, _, e⟩ := this; exact ⟨vs, e⟩
        obtain ⟨vs, rfl⟩ := hv
        simp only [SV.Den]
        refine ⟨vs, ih2 l m r vs hr (fun ht => ?_) (fun ht => ?_), rfl⟩
        · have := hx ht; simp only [SV.Den] at this; obtain ⟨vs', h1, e⟩ := this
          have e : vs = vs' := by simpa using e
          rw [e]; exact h1
        · have := hy ht; simp only [SV.Den] at this; obtain ⟨vs', h1, e⟩ := this
          have e : vs = vs' := by simpa using e
          rw [e]; exact h1
      · exact hany _
    · rename_i n' l m
      obtain ⟨_, ih2⟩ := ih n' (by omega)
      split
      · rename_i r hr
        have hv : ∃ vs : List Value, v = .tuple vs.toArray := by
          cases ht : t.v with
          | true => have := hx ht; simp only [SV.Den] at this; obtain ⟨vs, _, e⟩ := this; exact ⟨vs, e⟩
          | false => have := hy ht; simp only [SV.Den] at this; obtain ⟨vs, _, e⟩ := this; exact ⟨vs, e⟩
        obtain ⟨vs, rfl⟩ := hv
        simp only [SV.Den]
        refine ⟨vs, ih2 l m r vs hr (fun ht => ?_) (fun ht => ?_), rfl⟩
        · have := hx ht; simp only [SV.Den] at this; obtain ⟨vs', h1, e⟩ := this
          have e : vs = vs' := by simpa using e
          rw [e]; exact h1
        · have := hy ht; simp only [SV.Den] at this; obtain ⟨vs', h1, e⟩ := this
          have e : vs = vs' := by simpa using e
          rw [e]; exact h1
      · exact hany _
end Go.Sx
