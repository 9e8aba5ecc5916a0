/- The symbolic machine: frames, and what they stand for; single steps of the machine. -/
import Derived.Test.YtpooghnemlnopaaSx11
import Derived.Defers
import Derived.Recover
namespace Go.Sx
set_option linter.unusedSimpArgs false
set_option linter.unusedVariables false
open Go Go.RowKit Go.Cd Go.Proofs.Ytpooghnemlnopaa Go.MapKept

inductive SItem where
  | code (c : Code)
  | inBlock (id : Nat)
  | inLoop (c : Code)
  | inScope (c : Code)
  | inRegion (ops : Array Oper) (idx : List Nat)
  | inRangeFunc (h : Nat)
  | endRangeFunc (h : Nat)
  | beginRound
structure SPan where
  v : SV
  recovered : Bool
inductive SMode where
  | run
  | returning
  | panicking (l : List SPan)
structure SFrame where
  fn : FuncId
  tmps : List SV
  todo : List SItem
  defers : List SDef
  mode : SMode
  kind : CallKind
  round : Option Nat
structure SState where
  top : SFrame
  stk : List SFrame
  ents : Ents
  next : Nat
  hi : Nat
  log : List Nat

def SItem.Den [Val] (ρ : Env) : SItem → Item → Prop
  | .code c, i => i = .code c
  | .inBlock n, i => i = .inBlock n
  | .inLoop c, i => i = .inLoop c
  | .inScope c, i => i = .inScope c
  | .inRegion ops l, i => i = .inRegion ops l
  | .inRangeFunc h, i => ∃ l, ρ h = some l ∧ i = .inRangeFunc l
  | .endRangeFunc h, i => ∃ l, ρ h = some l ∧ i = .endRangeFunc l
  | .beginRound, i => i = .beginRound
def DenIs [Val] (ρ : Env) : List SItem → List Item → Prop
  | [], l => l = []
  | s :: r, l => ∃ i l', l = i :: l' ∧ s.Den ρ i ∧ DenIs ρ r l'
def DenPans [Val] (ρ : Env) : List SPan → List PanicEntry → Prop
  | [], l => l = []
  | s :: r, l => ∃ x l', l = { v := x, recovered := s.recovered, goexit := false } :: l' ∧ s.v.Den ρ x ∧ DenPans ρ r l'
def SMode.Den [Val] (ρ : Env) : SMode → FrameMode → Prop
  | .run, m => m = .run
  | .returning, m => m = .returning
  | .panicking l, m => ∃ c, DenPans ρ l c ∧ m = .panicking c
def DenOh [Val] (ρ : Env) : Option Nat → Option Nat → Prop
  | none, o => o = none
  | some h, o => ∃ l, ρ h = some l ∧ o = some l
theorem SItem.Den.mono [Val] {ρ ρ' : Env} (h : ρ.le ρ') : ∀ {s : SItem} {i : Item}, s.Den ρ i → s.Den ρ' i
  | .code _, _, e => e
  | .inBlock _, _, e => e
  | .inLoop _, _, e => e
  | .inScope _, _, e => e
  | .inRegion _ _, _, e => e
  | .inRangeFunc _, _, ⟨l, e, e'⟩ => ⟨l, h _ _ e, e'⟩
  | .endRangeFunc _, _, ⟨l, e, e'⟩ => ⟨l, h _ _ e, e'⟩
  | .beginRound, _, e => e
theorem DenIs.mono [Val] {ρ ρ' : Env} (h : ρ.le ρ') : ∀ {s : List SItem} {i : List Item}, DenIs ρ s i → DenIs ρ' s i
  | [], _, e => e
  | _ :: _, _, ⟨i, l', e1, e2, e3⟩ => ⟨i, l', e1, e2.mono h, DenIs.mono h e3⟩
theorem DenPans.mono [Val] {ρ ρ' : Env} (h : ρ.le ρ') : ∀ {s : List SPan} {i : List PanicEntry}, DenPans ρ s i → DenPans ρ' s i
  | [], _, e => e
  | _ :: _, _, ⟨i, l', e1, e2, e3⟩ => ⟨i, l', e1, e2.mono h, DenPans.mono h e3⟩
theorem SMode.Den.mono [Val] {ρ ρ' : Env} (h : ρ.le ρ') : ∀ {s : SMode} {m : FrameMode}, s.Den ρ m → s.Den ρ' m
  | .run, _, e => e
  | .returning, _, e => e
  | .panicking _, _, ⟨c, e1, e2⟩ => ⟨c, e1.mono h, e2⟩
theorem DenOh.mono [Val] {ρ ρ' : Env} (h : ρ.le ρ') : ∀ {s o : Option Nat}, DenOh ρ s o → DenOh ρ' s o
  | none, _, e => e
  | some _, _, ⟨l, e1, e2⟩ => ⟨l, h _ _ e1, e2⟩
structure SFrame.Den [Val] (ρ : Env) (s : SFrame) (f : Frame) : Prop where
  fn : f.fn = s.fn
  tmps : SV.DenL ρ s.tmps f.tmps.toList
  todo : DenIs ρ s.todo f.todo
  defers : DenDs ρ s.defers f.defers
  mode : s.mode.Den ρ f.mode
  kind : f.kind = s.kind
  round : DenOh ρ s.round f.roundOf
theorem SFrame.Den.mono [Val] {ρ ρ' : Env} (h : ρ.le ρ') {s : SFrame} {f : Frame} (d : s.Den ρ f) : s.Den ρ' f :=
  ⟨d.fn, d.tmps.mono h, d.todo.mono h, d.defers.mono h, d.mode.mono h, d.kind, d.round.mono h⟩
def DenFs [Val] (ρ : Env) : List SFrame → List Frame → Prop
  | [], l => l = []
  | s :: r, l => ∃ f l', l = f :: l' ∧ s.Den ρ f ∧ DenFs ρ r l'
theorem DenFs.mono [Val] {ρ ρ' : Env} (h : ρ.le ρ') : ∀ {s : List SFrame} {l : List Frame}, DenFs ρ s l → DenFs ρ' s l
  | [], _, e => e
  | _ :: _, _, ⟨f, l', e1, e2, e3⟩ => ⟨f, l', e1, e2.mono h, DenFs.mono h e3⟩
/-- The names that are free: those of F that were not given out from lo on. -/
def Fr (F : Nat → Prop) (lo next : Nat) : Nat → Prop := fun j => F j ∧ (j < lo ∨ next ≤ j)
/-- There are free names from lo up to hi. -/
def FrOk (F : Nat → Prop) (lo next hi : Nat) : Prop := lo ≤ next ∧ ∀ j, lo ≤ j → j < hi → F j
theorem FrOk.self [Val] {F : Nat → Prop} {lo next hi : Nat} (h : FrOk F lo next hi) (n : Nat) (hn : next + n < hi) : Fr F lo next (next + n) := ⟨h.2 _ (Nat.le_trans h.1 (by omega)) hn, .inr (by omega)⟩
theorem FrOk.more [Val] {F : Nat → Prop} {lo next hi : Nat} (h : FrOk F lo next hi) {next' : Nat} (hn : next ≤ next') : FrOk F lo next' hi := ⟨Nat.le_trans h.1 hn, h.2⟩
theorem FrOk.ne [Val] {F : Nat → Prop} {lo next hi : Nat} (h : FrOk F lo next hi) {j n : Nat} (hj : Fr F lo (next + n) j) : Fr F lo next j ∧ ∀ m, m < n → j ≠ next + m := by
  obtain ⟨h1, h2⟩ := hj
  have := h.1
  exact ⟨⟨h1, by omega⟩, fun m hm => by omega⟩
def DenS [Val] (ρ : Env) (X : Nat → Prop) (w0 : World) (F : Nat → Prop) (lo : Nat) (cs : List Frame) (S : SState) (m : Machine) : Prop :=
  ∃ fr frs w, m = lone fr (frs ++ cs) w ∧ S.top.Den ρ fr ∧ DenFs ρ S.stk frs ∧ DenH ρ X w0 (find S.ents) (Fr F lo S.next) w ∧ FrOk F lo S.next S.hi

inductive Tree (α : Type) where
  | leaf (a : α)
  | split (b : Bm) (x y : Tree α)
  | need (p : Bm) (x : Tree α)
  | stuck (why : Nat)
def Tree.sat [Val] {α : Type} (Q : α → Prop) : Tree α → Prop
  | .leaf a => Q a
  | .split b x y => (b.v = true → x.sat Q) ∧ (b.v = false → y.sat Q)
  | .need p x => p.v = true ∧ x.sat Q
  | .stuck _ => False
theorem Tree.sat_mono [Val] {α : Type} {Q Q' : α → Prop} (h : ∀ a, Q a → Q' a) : ∀ {t : Tree α}, t.sat Q → t.sat Q'
  | .leaf _, e => h _ e
  | .split _ _ _, e => ⟨fun q => Tree.sat_mono h (e.1 q), fun q => Tree.sat_mono h (e.2 q)⟩
  | .need _ _, e => ⟨e.1, Tree.sat_mono h e.2⟩
  | .stuck _, e => e
def Tree.bind {α β : Type} (t : Tree α) (f : α → Tree β) : Tree β :=
  match t with
  | .leaf a => f a
  | .split b x y => .split b (x.bind f) (y.bind f)
  | .need p x => .need p (x.bind f)
  | .stuck n => .stuck n
theorem Tree.sat_bind [Val] {α β : Type} {Q : β → Prop} {f : α → Tree β} : ∀ {t : Tree α}, (t.bind f).sat Q → t.sat fun a => (f a).sat Q
  | .leaf _, e => e
  | .split _ _ _, e => ⟨fun q => Tree.sat_bind (e.1 q), fun q => Tree.sat_bind (e.2 q)⟩
  | .need _ _, e => ⟨e.1, Tree.sat_bind e.2⟩
  | .stuck _, e => e

/-! Updates of the heap's list. -/
def appUs : List Upd → Ents → Ents
  | [], e => e
  | .ins h o :: us, e => appUs us ((h, o) :: e)
  | .set h o :: us, e => appUs us (upd e h o)
  | .del h :: us, e => appUs us (del e h)
theorem find_appUs [Val] : ∀ (us : List Upd) (e : Ents), find (appUs us e) = looks us (find e)
  | [], _ => rfl
  | .ins h o :: us, e => by
    simp only [appUs, looks, find_appUs us]
    congr 1
    funext j
    rw [find_cons]; rfl
  | .set h o :: us, e => by
    simp only [appUs, looks, find_appUs us]
    congr 1
    funext j
    rw [find_upd]; rfl
  | .del h :: us, e => by
    simp only [appUs, looks, find_appUs us]
    congr 1
    funext j
    rw [find_del]; rfl
def updH : Upd → Nat
  | .ins h _ => h
  | .set h _ => h
  | .del h => h
def logUs : List Upd → List Nat → List Nat
  | [], l => l
  | u :: us, l => updH u :: logUs us l

/-! Single steps. -/
section steps
variable {P : Program} {fn : FuncId} {tmps : Array Value} {k : List Item} {ds : List Deferred} {kd : CallKind} {ro : Option Nat} {cs : List Frame} {w : World}

theorem st_skip [Val] : step P (lone ⟨fn, tmps, .code .skip :: k, ds, .run, kd, ro⟩ cs w) = .next (lone ⟨fn, tmps, k, ds, .run, kd, ro⟩ cs w) := step_lone_go (by simp [stepG, stepG.exec])
theorem st_label [Val] {l : Nat} : step P (lone ⟨fn, tmps, .code (.label l) :: k, ds, .run, kd, ro⟩ cs w) = .next (lone ⟨fn, tmps, k, ds, .run, kd, ro⟩ cs w) := step_lone_go (by simp [stepG, stepG.exec])
theorem st_inBlock [Val] {n : Nat} : step P (lone ⟨fn, tmps, .inBlock n :: k, ds, .run, kd, ro⟩ cs w) = .next (lone ⟨fn, tmps, k, ds, .run, kd, ro⟩ cs w) := step_lone_go (by simp [stepG, stepG.exec])
theorem st_inScope [Val] {c : Code} : step P (lone ⟨fn, tmps, .inScope c :: k, ds, .run, kd, ro⟩ cs w) = .next (lone ⟨fn, tmps, k, ds, .run, kd, ro⟩ cs w) := step_lone_go (by simp [stepG, stepG.exec])
theorem st_seq [Val] {a b : Code} : step P (lone ⟨fn, tmps, .code (.seq a b) :: k, ds, .run, kd, ro⟩ cs w) = .next (lone ⟨fn, tmps, .code a :: .code b :: k, ds, .run, kd, ro⟩ cs w) := step_lone_go (by simp [stepG, stepG.exec])
theorem st_block [Val] {n : Nat} {c : Code} : step P (lone ⟨fn, tmps, .code (.block n c) :: k, ds, .run, kd, ro⟩ cs w) = .next (lone ⟨fn, tmps, .code c :: .inBlock n :: k, ds, .run, kd, ro⟩ cs w) := step_lone_go (by simp [stepG, stepG.exec])
theorem st_loop [Val] {c : Code} : step P (lone ⟨fn, tmps, .code (.loop c) :: k, ds, .run, kd, ro⟩ cs w) = .next (lone ⟨fn, tmps, .code c :: .inLoop c :: k, ds, .run, kd, ro⟩ cs w) := step_lone_go (by simp [stepG, stepG.exec])
theorem st_inLoop [Val] {c : Code} : step P (lone ⟨fn, tmps, .inLoop c :: k, ds, .run, kd, ro⟩ cs w) = .next (lone ⟨fn, tmps, .code c :: .inLoop c :: k, ds, .run, kd, ro⟩ cs w) := step_lone_go (by simp [stepG, stepG.exec])
theorem st_scope [Val] {c : Code} : step P (lone ⟨fn, tmps, .code (.scope c) :: k, ds, .run, kd, ro⟩ cs w) = .next (lone ⟨fn, tmps, .code c :: .inScope c :: k, ds, .run, kd, ro⟩ cs w) := step_lone_go (by simp [stepG, stepG.exec])
def evalF (tmps : Array Value) : Operand → Value
  | .tmp t => tmps.getD t undef
  | .const v => v
  | .global g => .pointer (some ⟨g, 0, none⟩)
  | .func f => .func (.func f) #[] #[]
theorem eval_eq [Val] (fr : Frame) : fr.eval = evalF fr.tmps := by funext x; cases x <;> rfl
theorem st_cond [Val] {c : Operand} {a b : Code} {t : Bool} (h : evalF tmps c = .bool t) : step P (lone ⟨fn, tmps, .code (.cond c a b) :: k, ds, .run, kd, ro⟩ cs w) = .next (lone ⟨fn, tmps, .code (if t then a else b) :: k, ds, .run, kd, ro⟩ cs w) :=
  step_lone_go (by simp [stepG, stepG.exec, eval_eq, h])
theorem st_exit [Val] {n : Nat} {k' : List Item} (h : exitTo n k = some k') : step P (lone ⟨fn, tmps, .code (.exit n) :: k, ds, .run, kd, ro⟩ cs w) = .next (lone ⟨fn, tmps, k', ds, .run, kd, ro⟩ cs w) := step_lone_go (by simp [stepG, stepG.exec, h])
theorem st_goto [Val] {n : Nat} {k' : List Item} (h : gotoIn n k = some k') : step P (lone ⟨fn, tmps, .code (.goto n) :: k, ds, .run, kd, ro⟩ cs w) = .next (lone ⟨fn, tmps, k', ds, .run, kd, ro⟩ cs w) := step_lone_go (by simp [stepG, stepG.exec, h])
theorem st_ret0 [Val] : step P (lone ⟨fn, tmps, .code .ret :: k, ds, .run, kd, none⟩ cs w) = .next (lone ⟨fn, tmps, .code .ret :: k, ds, .returning, kd, none⟩ cs w) := step_lone_go (by simp [stepG, stepG.exec])
theorem st_end0 [Val] : step P (lone ⟨fn, tmps, [], ds, .run, kd, none⟩ cs w) = .next (lone ⟨fn, tmps, [], ds, .returning, kd, none⟩ cs w) := step_lone_go (by simp [stepG, stepG.exec])
theorem st_region [Val] {n : Nat} {ops : Array Oper} : step P (lone ⟨fn, tmps, .code (.region n ops false) :: k, ds, .run, kd, ro⟩ cs w) = .next (lone ⟨fn, tmps, .inRegion ops (List.range ops.size) :: k, ds, .run, kd, ro⟩ cs w) := step_lone_go (by simp [stepG, stepG.exec])
theorem st_region_draw [Val] {n : Nat} {ops : Array Oper} : step P (lone ⟨fn, tmps, .code (.region n ops true) :: k, ds, .run, kd, ro⟩ cs w) =
    .next (lone ⟨fn, tmps, .inRegion ops (Region.schedule (P.follows .mixedOrders) ops (w.tape w.drawn (.order fn n))) :: k, ds, .run, kd, ro⟩ cs { w with drawn := w.drawn + 1 }) :=
  step_lone_go (by simp [stepG, stepG.exec, choose, Sem.run, Question.forced, Question.cut])
theorem st_region_end [Val] {ops : Array Oper} : step P (lone ⟨fn, tmps, .inRegion ops [] :: k, ds, .run, kd, ro⟩ cs w) = .next (lone ⟨fn, tmps, k, ds, .run, kd, ro⟩ cs w) := step_lone_go (by simp [stepG, stepG.exec])
/-- The slots with a value in the place of an operation's result. -/
def putD (tmps : Array Value) (d : Option Tmp) (v : Value) : Array Value :=
  match d with
  | some t => tmps.setIfInBounds t v
  | none => tmps
theorem finish_region [Val] {fn : FuncId} {tmps : Array Value} {ops : Array Oper} {i : Nat} {rest : List Nat} {k : List Item} {ds : List Deferred} {m : FrameMode} {kd : CallKind} {ro : Option Nat} (v : Value) :
    (Frame.finish ⟨fn, tmps, .inRegion ops (i :: rest) :: k, ds, m, kd, ro⟩ v) = ⟨fn, putD tmps ((ops[i]?).bind (·.dst)) v, .inRegion ops rest :: k, ds, m, kd, ro⟩ := by
  cases h : (ops[i]?).bind (·.dst) <;> simp [Frame.finish, putD, h]
theorem st_op_skip [Val] {ops : Array Oper} {i : Nat} {rest : List Nat} (h : ((ops[i]?).map (Region.wanted · (yielded ops tmps))).getD false = false) :
    step P (lone ⟨fn, tmps, .inRegion ops (i :: rest) :: k, ds, .run, kd, ro⟩ cs w) = .next (lone ⟨fn, putD tmps ((ops[i]?).bind (·.dst)) undef, .inRegion ops rest :: k, ds, .run, kd, ro⟩ cs w) := by
  rw [← finish_region]
  exact step_lone_go (by simp [stepG, stepG.exec, h])
def isDefer : Op → Bool
  | .defer _ => true
  | _ => false
theorem st_apply [Val] {ops : Array Oper} {i : Nat} {rest : List Nat} {o : Oper} (ho : ops[i]? = some o) (hw : Region.wanted o (yielded ops tmps) = true) (hd : ro = none ∨ isDefer o.op = false) :
    stepG P true { frame := ⟨fn, tmps, .inRegion ops (i :: rest) :: k, ds, .run, kd, ro⟩, callers := cs, status := .running, dying := none } w =
      stepG.apply P true ⟨fn, tmps, .inRegion ops (i :: rest) :: k, ds, .run, kd, ro⟩ cs none (execOp (evalF tmps) o) w := by
  have e : stepG.oper P true ⟨fn, tmps, .inRegion ops (i :: rest) :: k, ds, .run, kd, ro⟩ cs none w = stepG.apply P true ⟨fn, tmps, .inRegion ops (i :: rest) :: k, ds, .run, kd, ro⟩ cs none (execOp (evalF tmps) o) w := by
    simp only [stepG.oper, Frame.oper?, ho, eval_eq]
    rcases hd with rfl | hd
    · rfl
    · obtain ⟨dst, op, ty, pos, after, guard⟩ := o
      cases ro <;> cases op <;> first | rfl | cases hd
  simp [stepG, stepG.exec, ho, hw, e]
section op
variable {ops : Array Oper} {i : Nat} {rest : List Nat} {o : Oper} {w' : World}
theorem st_op_val [Val] {nx : Next} {v : Value} (ho : ops[i]? = some o) (hw : Region.wanted o (yielded ops tmps) = true) (hd : ro = none ∨ isDefer o.op = false) (hr : (execOp (evalF tmps) o).run P w = .ok nx w') (hn : nx = .value v ∨ nx = .skip ∧ v = undef) :
    step P (lone ⟨fn, tmps, .inRegion ops (i :: rest) :: k, ds, .run, kd, ro⟩ cs w) = .next (lone ⟨fn, putD tmps o.dst v, .inRegion ops rest :: k, ds, .run, kd, ro⟩ cs w') := by
  have e : (ops[i]?).bind (·.dst) = o.dst := by rw [ho]; rfl
  rw [← e, ← finish_region]
  rcases hn with rfl | ⟨rfl, rfl⟩ <;> exact step_lone_go (by rw [st_apply ho hw hd]; simp [stepG.apply, hr])
theorem st_op_enter [Val] {f : FuncId} {args : Array Value} (ho : ops[i]? = some o) (hw : Region.wanted o (yielded ops tmps) = true) (hd : ro = none ∨ isDefer o.op = false) (hr : (execOp (evalF tmps) o).run P w = .ok (.enter f args) w') :
    step P (lone ⟨fn, tmps, .inRegion ops (i :: rest) :: k, ds, .run, kd, ro⟩ cs w) = .next (lone (Frame.enter P f args .normal) (⟨fn, tmps, .inRegion ops (i :: rest) :: k, ds, .run, kd, ro⟩ :: cs) w') :=
  step_lone_go (by rw [st_apply ho hw hd]; simp [stepG.apply, hr])
theorem st_op_round [Val] {l : Nat} {f : FuncId} {ts : Array Value} {a b : Code} (ho : ops[i]? = some o) (hw : Region.wanted o (yielded ops tmps) = true) (hd : ro = none ∨ isDefer o.op = false) (hr : (execOp (evalF tmps) o).run P w = .ok (.round l f ts a b) w') :
    step P (lone ⟨fn, tmps, .inRegion ops (i :: rest) :: k, ds, .run, kd, ro⟩ cs w) = .next (lone (Frame.round l f ts a b .normal) (⟨fn, tmps, .inRegion ops (i :: rest) :: k, ds, .run, kd, ro⟩ :: cs) w') :=
  step_lone_go (by rw [st_apply ho hw hd]; simp [stepG.apply, hr])
theorem st_op_defer [Val] {d : Deferred} (ho : ops[i]? = some o) (hw : Region.wanted o (yielded ops tmps) = true) (hd : ro = none ∨ isDefer o.op = false) (hr : (execOp (evalF tmps) o).run P w = .ok (.defer d) w') :
    step P (lone ⟨fn, tmps, .inRegion ops (i :: rest) :: k, ds, .run, kd, ro⟩ cs w) = .next (lone ⟨fn, putD tmps o.dst undef, .inRegion ops rest :: k, d :: ds, .run, kd, ro⟩ cs w') := by
  have e : (ops[i]?).bind (·.dst) = o.dst := by rw [ho]; rfl
  rw [← e, ← finish_region]
  exact step_lone_go (by rw [st_apply ho hw hd]; simp [stepG.apply, hr])
theorem st_op_panic [Val] {v : Value} (ho : ops[i]? = some o) (hw : Region.wanted o (yielded ops tmps) = true) (hd : ro = none ∨ isDefer o.op = false) (hr : (execOp (evalF tmps) o).run P w = .halt (.panic v) w') :
    step P (lone ⟨fn, tmps, .inRegion ops (i :: rest) :: k, ds, .run, kd, ro⟩ cs w) = .next (lone ⟨fn, tmps, .inRegion ops (i :: rest) :: k, ds, .panicking [{ v, recovered := false }], kd, ro⟩ cs w') :=
  step_lone_go (by rw [st_apply ho hw hd]; simp [stepG.apply, hr, Frame.raise])
theorem st_op_recover_no [Val] {c : Frame} (ho : ops[i]? = some o) (hw : Region.wanted o (yielded ops tmps) = true) (hr : (execOp (evalF tmps) o).run P w = .ok .recover w') (hc : recoverD (c :: cs) = none) :
    step P (lone ⟨fn, tmps, .inRegion ops (i :: rest) :: k, ds, .run, .deferred, none⟩ (c :: cs) w) = .next (lone ⟨fn, putD tmps o.dst .nilIface, .inRegion ops rest :: k, ds, .run, .deferred, none⟩ (c :: cs) w') := by
  have e : (ops[i]?).bind (·.dst) = o.dst := by rw [ho]; rfl
  rw [← e, ← finish_region]
  refine step_lone_go ?_
  rw [st_apply ho hw (.inl rfl)]
  have ht : tryRecover ⟨fn, tmps, .inRegion ops (i :: rest) :: k, ds, .run, .deferred, none⟩ (c :: cs) = none := by rw [tryRecover_deferred rfl, hc]
  simp [stepG.apply, hr, ht]
theorem st_op_recover_yes [Val] {c c' : Frame} {v : Value} (ho : ops[i]? = some o) (hw : Region.wanted o (yielded ops tmps) = true) (hr : (execOp (evalF tmps) o).run P w = .ok .recover w') (hc : recoverD (c :: cs) = some (v, c' :: cs)) :
    step P (lone ⟨fn, tmps, .inRegion ops (i :: rest) :: k, ds, .run, .deferred, none⟩ (c :: cs) w) = .next (lone ⟨fn, putD tmps o.dst v, .inRegion ops rest :: k, ds, .run, .deferred, none⟩ (c' :: cs) w') := by
  have e : (ops[i]?).bind (·.dst) = o.dst := by rw [ho]; rfl
  rw [← e, ← finish_region]
  refine step_lone_go ?_
  rw [st_apply ho hw (.inl rfl)]
  have ht : tryRecover ⟨fn, tmps, .inRegion ops (i :: rest) :: k, ds, .run, .deferred, none⟩ (c :: cs) = some (v, c' :: cs) := by rw [tryRecover_deferred rfl, hc]
  simp [stepG.apply, hr, ht]
end op

/-! Ways out of a frame. -/
theorem st_return [Val] {v : Value} {F : Func} {c : Frame} {td : List Item} (hF : P.funcs[fn]? = some F) (hr : (results F tmps).run P w = .ok v w) (hk : kd = .normal) :
    step P (lone ⟨fn, tmps, td, [], .returning, kd, ro⟩ (c :: cs) w) = .next (lone (c.finish v) cs w) := by
  subst hk
  exact step_lone_go (by simp [stepG, unwind, doReturn, hF, hr])
theorem st_return_deferred [Val] {v : Value} {F : Func} {c : Frame} {td : List Item} (hF : P.funcs[fn]? = some F) (hr : (results F tmps).run P w = .ok v w) :
    step P (lone ⟨fn, tmps, td, [], .returning, .deferred, ro⟩ (c :: cs) w) = .next (lone { c with mode := settle c.mode } cs w) := by
  refine step_lone_go ?_
  simp only [stepG, unwind, doReturn, hF, Sem.runT_eq, hr, GStep.bare_after, GStep.bare_go]
  unfold settle
  split <;> (try split) <;> simp_all
theorem st_raise [Val] {chain : List PanicEntry} {F : Func} {c : Frame} {td : List Item} (hF : P.funcs[fn]? = some F) :
    step P (lone ⟨fn, tmps, td, [], .panicking chain, kd, ro⟩ (c :: cs) w) = .next (lone (c.raise chain) cs w) :=
  step_lone_go (by simp [stepG, unwind, Frame.catches, hF])
theorem st_defer [Val] {m : FrameMode} {td : List Item} {fv : Fn} {cap dargs : Array Value} {ds : List Deferred} {f : FuncId} {args : Array Value} (hm : m ≠ .run) (hi : (invoke (.fn fv cap) dargs).run P w = .ok (.enter f args) w) :
    step P (lone ⟨fn, tmps, td, { target := .fn fv cap, args := dargs } :: ds, m, kd, ro⟩ cs w) = .next (lone (Frame.enter P f args .deferred) (⟨fn, tmps, td, ds, m, kd, ro⟩ :: cs) w) :=
  step_defer (fr := ⟨fn, tmps, td, { target := .fn fv cap, args := dargs } :: ds, m, kd, ro⟩) hm rfl rfl hi
theorem st_collected [Val] {m : FrameMode} {td : List Item} {b : Nat} {ds calls : List Deferred} {w' : World} (hm : m ≠ .run) (hr : (Instr.takeDeferred b).run P w = .ok calls w') :
    step P (lone ⟨fn, tmps, td, { target := .collected b, args := #[] } :: ds, m, kd, ro⟩ cs w) = .next (lone ⟨fn, tmps, td, calls ++ ds, m, kd, ro⟩ cs w') := by
  refine step_lone_go ?_
  cases m with
  | run => exact absurd rfl hm
  | returning => simp [stepG, unwind, hr]
  | panicking c => simp [stepG, unwind, hr]

/-! Ranges over functions. -/
theorem st_rangeFunc [Val] {f : Operand} {params : Array Tmp} {assign body : Code} {l g : Nat} {mark : List Deferred} {w1 : World} {first cap : Array Value} (hr : (Instr.enterLoop fn tmps params assign body ro).run P w = .ok (l, mark) w1)
    (hf : evalF tmps f = .func (.func g) first cap) (hg : ∀ args, (callFunc g args).run P w1 = .ok (.enter g args) w1) :
    step P (lone ⟨fn, tmps, .code (.rangeFunc f params assign body) :: k, ds, .run, kd, ro⟩ cs w) = .next (lone (Frame.enter P g (first ++ #[.func (.yield l) #[] #[]] ++ cap) .normal) (⟨fn, tmps, .inRangeFunc l :: k, mark ++ ds, .run, kd, ro⟩ :: cs) w1) := by
  refine step_lone_go ?_
  have e1 : (Frame.eval ⟨fn, tmps, .inRangeFunc l :: k, mark ++ ds, .run, kd, ro⟩) = evalF tmps := eval_eq _
  simp only [stepG, stepG.exec, Sem.runT_eq, hr, GStep.bare_after, stepG.apply, e1]
  have e2 : (do let d ← resolve (evalF tmps) { callee := .value f, args := #[.const (.func (.yield l) #[] #[])], argTypes := #[] } 0; invoke d.target d.args : Sem Next).run P w1 = .ok (.enter g (first ++ #[.func (.yield l) #[] #[]] ++ cap)) w1 := by
    have hc : evalF tmps (.const (.func (.yield l) #[] #[])) = .func (.yield l) #[] #[] := rfl
    simp [resolve, hf, hc, Deferred.ofValue, invoke, hg]
  simp only [if_true, Sem.runT_eq, e2]
  simp
theorem finish_rangeFunc [Val] {l : Nat} (v : Value) {m : FrameMode} : (Frame.finish ⟨fn, tmps, .inRangeFunc l :: k, ds, m, kd, ro⟩ v) = ⟨fn, tmps, .endRangeFunc l :: k, ds, m, kd, ro⟩ := by simp [Frame.finish]
theorem st_endRangeFunc [Val] {l : Nat} {jump : Option Code} {w' : World} (hr : (Instr.endLoop l).run P w = .ok jump w') :
    step P (lone ⟨fn, tmps, .endRangeFunc l :: k, ds, .run, kd, ro⟩ cs w) = .next (lone ⟨fn, tmps, (jump.map Item.code).toList ++ k, ds, .run, kd, ro⟩ cs w') :=
  step_lone_go (by simp [stepG, stepG.exec, hr])
theorem st_beginRound [Val] {l : Nat} {w' : World} (hr : (Instr.beginRound l).run P w = .ok () w') :
    step P (lone ⟨fn, tmps, .beginRound :: k, ds, .run, kd, some l⟩ cs w) = .next (lone ⟨fn, tmps, k, ds, .run, kd, some l⟩ cs w') := by
  refine step_lone_go ?_
  simp [stepG, stepG.exec, stepG.apply, hr, Frame.finish]
/-- The jumps that end a round. -/
theorem st_endRound [Val] {l : Nat} {v : Value} {w' : World} {c : Frame} {jump : Option Code} {td : List Item} (hr : (Instr.endRound l jump).run P w = .ok v w')
    (hj : td = [] ∧ jump = none ∨ (∃ k, td = .code .ret :: k) ∧ jump = some .ret ∨ (∃ n k, td = .code (.exit n) :: k ∧ exitTo n k = none ∧ jump = some (.exit n)) ∨ (∃ n k, td = .code (.goto n) :: k ∧ gotoIn n k = none ∧ jump = some (.goto n))) :
    step P (lone ⟨fn, tmps, td, ds, .run, .normal, some l⟩ (c :: cs) w) = .next (lone (c.finish v) cs w') := by
  refine step_lone_go ?_
  rcases hj with ⟨rfl, rfl⟩ | ⟨⟨k, rfl⟩, rfl⟩ | ⟨n, k, rfl, he, rfl⟩ | ⟨n, k, rfl, he, rfl⟩
  · simp [stepG, stepG.exec, hr, doReturn]
  · simp [stepG, stepG.exec, hr, doReturn]
  · simp [stepG, stepG.exec, he, hr, doReturn]
  · simp [stepG, stepG.exec, he, hr, doReturn]
end steps
end Go.Sx
