/- The operations on symbolic values: all of them, by their kinds. -/
import Derived.Test.YtpooghnemlnopaaSx10
namespace Go.Sx
set_option linter.unusedSimpArgs false
set_option linter.unusedVariables false
open Go Go.RowKit Go.Cd Go.Proofs.Ytpooghnemlnopaa Go.MapKept

inductive OOut where
  | val (v : SV) (us : List Upd) (ts : List Nat)
  | enter (f : FuncId) (args : List SV)
  | yield (h : Nat) (args : List SV)
  | dfr (f : FuncId) (captured args : List SV)
  | pan (v : SV)
  | rcv
  | split (b : Bm) (x y : OOut)
  | need (p : Bm) (x : OOut)
  | stuck (why : Nat)
def ofR (r : R) (why : Nat) : OOut :=
  match r with
  | some (v, us, ts) => .val v us ts
  | none => .stuck why
structure FnI where
  ntmps : Nat
  results : List ResultVar
  body : Code
def fnOf (P : Program) (f : FuncId) : Option FnI :=
  match P.funcs[f]? with
  | none => none
  | some F => match F.body with
    | none => none
    | some c => some ⟨F.ntmps, F.results.toList, c⟩
/-- No function with a body is the one that the model takes for another. -/
def FnOk (P : Program) : Prop := ∀ (f : FuncId) (F : Func), P.funcs[f]? = some F → F.body.isSome = true → (F.name == "runtime.NumGoroutine") = false
theorem fnOf_spec [Val] {P : Program} {f : FuncId} {i : FnI} (h : fnOf P f = some i) : ∃ F, P.funcs[f]? = some F ∧ F.body = some i.body ∧ F.ntmps = i.ntmps ∧ F.results.toList = i.results := by
  unfold fnOf at h
  split at h <;> try cases h
  rename_i F hF
  split at h <;> cases h
  rename_i c hc
  exact ⟨F, hF, hc, rfl, rfl⟩
theorem run_callFunc [Val] {P : Program} (hok : FnOk P) {f : FuncId} {i : FnI} (h : fnOf P f = some i) (args : Array Value) (w : World) : (callFunc f args).run P w = .ok (.enter f args) w := by
  obtain ⟨F, hF, hb, _, _⟩ := fnOf_spec h
  have := hok f F hF (by rw [hb]; rfl)
  have h' : ¬ F.name = "runtime.NumGoroutine" := by simpa using this
  simp [callFunc, hF, hb, h']
section
variable {P : Program} {ρ : Env} {X : Nat → Prop} {w0 w : World} {look : Look} {fresh : Nat → Prop} {id : Nat}

def OGood [Val] (P : Program) (ρ : Env) (X : Nat → Prop) (w0 : World) (look : Look) (fresh : Nat → Prop) (id : Nat) : OOut → Sem Next → World → Prop
  | .val v us ts, sem, w => Good P ρ X w0 look fresh id (v, us, ts) sem w
  | .enter f args, sem, w => ∃ vs, SV.DenL ρ args vs ∧ sem.run P w = (callFunc f vs.toArray).run P w
  | .yield h args, sem, w => ∃ vs l, SV.DenL ρ args vs ∧ ρ h = some l ∧ sem.run P w = (Instr.yield l vs.toArray).run P w
  | .dfr f c a, sem, w => (∃ i, fnOf P f = some i) ∧ ∃ d, (SDef.call f c a).Den ρ d ∧ sem.run P w = .ok (.defer d) w
  | .pan v, sem, w => ∃ x, v.Den ρ x ∧ sem.run P w = .halt (.panic x) w
  | .rcv, sem, w => sem.run P w = .ok .recover w
  | .split b x y, sem, w => (b.v = true → OGood P ρ X w0 look fresh id x sem w) ∧ (b.v = false → OGood P ρ X w0 look fresh id y sem w)
  | .need p x, sem, w => p.v = true → OGood P ρ X w0 look fresh id x sem w
  | .stuck _, _, _ => True
theorem ofR_ok [Val] {r : R} {n : Nat} {sem : Sem Next} (h : ∀ x, r = some x → Good P ρ X w0 look fresh id x sem w) : OGood P ρ X w0 look fresh id (ofR r n) sem w := by
  unfold ofR
  split
  · rename_i v us ts
    exact h _ rfl
  · trivial

abbrev Ev := Operand → Option SV
def evs (ev : Ev) : List Operand → Option (List SV)
  | [] => some []
  | x :: l => match ev x with
    | none => none
    | some s => match evs ev l with
      | none => none
      | some r => some (s :: r)
def evps (ev : Ev) : List (Nat × Operand) → Option (List (Nat × SV))
  | [] => some []
  | (i, x) :: l => match ev x with
    | none => none
    | some s => match evps ev l with
      | none => none
      | some r => some ((i, s) :: r)
def evo (ev : Ev) : Option Operand → Option (Option SV)
  | none => some none
  | some x => match ev x with
    | some s => some (some s)
    | none => none
def EvOk [Val] (ρ : Env) (ev : Ev) (e : Operand → Value) : Prop := ∀ x s, ev x = some s → s.Den ρ (e x)
theorem evs_ok [Val] {ev : Ev} {e : Operand → Value} (hev : EvOk ρ ev e) : ∀ {l : List Operand} {r : List SV}, evs ev l = some r → SV.DenL ρ r (l.map e)
  | [], _, h => by simp only [evs, Option.some.injEq] at h; subst h; simp
  | x :: l, _, h => by
    unfold evs at h
    split at h <;> try cases h
    rename_i s hs
    split at h <;> cases h
    rename_i r hr
    exact denL_cons'.2 ⟨hev _ _ hs, evs_ok hev hr⟩
theorem evps_ok [Val] {ev : Ev} {e : Operand → Value} (hev : EvOk ρ ev e) : ∀ {l : List (Nat × Operand)} {r : List (Nat × SV)}, evps ev l = some r → DenPs ρ r (l.map fun p => (p.1, e p.2))
  | [], _, h => by simp only [evps, Option.some.injEq] at h; subst h; rfl
  | (i, x) :: l, _, h => by
    unfold evps at h
    split at h <;> try cases h
    rename_i s hs
    split at h <;> cases h
    rename_i r hr
    exact ⟨_, _, rfl, hev _ _ hs, evps_ok hev hr⟩
theorem evo_ok [Val] {ev : Ev} {e : Operand → Value} (hev : EvOk ρ ev e) {o : Option Operand} {r : Option SV} (h : evo ev o = some r) : DenO ρ r (o.map e) := by
  unfold evo at h
  split at h
  · cases h; rfl
  · split at h <;> cases h
    rename_i s hs
    exact ⟨_, rfl, hev _ _ hs⟩

def sPick (c a b : SV) : OOut :=
  match c with
  | .bool (.lit true) => .val a [] []
  | .bool (.lit false) => .val b [] []
  | .bool (.sym t) => match a, b with
    | .bool x, .bool y => .val (.bool (SB.ite t x y)) [] []
    | .int k x, .int k' y => match decide (k = k') with
      | true => .val (.int k (.sym (.ite t x.tm y.tm))) [] []
      | false => .split t (.val a [] []) (.val b [] [])
    | _, _ => .split t (.val a [] []) (.val b [] [])
  | _ => .stuck 1
theorem sPick_ok [Val] {c a b : SV} {cv av bv : Value} (d : DenH ρ X w0 look fresh w) (hc : c.Den ρ cv) (ha : a.Den ρ av) (hb : b.Den ρ bv) : OGood P ρ X w0 look fresh id (sPick c a b) (do pure (.value (if ← asBool cv then av else bv))) w := by
  have hrun : ∀ t : Bool, cv = .bool t → (do pure (.value (if ← asBool cv then av else bv)) : Sem Next).run P w = .ok (.value (if t then av else bv)) w := fun t e => by
    subst e; cases t <;> simp [asBool]
  unfold sPick
  split
  · simp only [SV.Den] at hc
    exact Good.same d (hrun _ hc) ha
  · simp only [SV.Den] at hc
    exact Good.same d (hrun _ hc) hb
  · rename_i t
    simp only [SV.Den] at hc
    have hr := hrun t.v hc
    have hsp : OGood P ρ X w0 look fresh id (.split t (.val a [] []) (.val b [] [])) (do pure (.value (if ← asBool cv then av else bv))) w :=
      ⟨fun e => by rw [e] at hr; exact Good.same d hr ha, fun e => by rw [e] at hr; exact Good.same d hr hb⟩
    split
    · simp only [SV.Den] at ha hb; subst ha hb
      exact Good.same d hr (by cases hb : t.v <;> simp [SV.Den, SB.ite_v, SI.v, Tm.v, hb])
    · split
      · rename_i hk
        have hk := of_decide_eq_true hk; subst hk
        simp only [SV.Den] at ha hb; subst ha hb
        exact Good.same d hr (by cases hb : t.v <;> simp [SV.Den, SB.ite_v, SI.v, Tm.v, hb])
      · exact hsp
    · exact hsp
  · trivial
def sCall (P : Program) (f : SV) (args : List SV) : OOut :=
  match f with
  | .fn (.func g) first cap => .enter g (first ++ args ++ cap)
  | .fn (.yield h) first _ => .yield h (first ++ args)
  | _ => .stuck 3
theorem sCall_ok [Val] (hok : FnOk P) {f : SV} {fv : Value} {args : List SV} {vs : Array Value} (hf : f.Den ρ fv) (ha : SV.DenL ρ args vs.toList) : OGood P ρ X w0 look fresh id (sCall P f args) (do let d ← Deferred.ofValue fv vs; invoke d.target d.args) w := by
  unfold sCall
  split
  · rename_i g first cap
    simp only [SV.Den, SFn.Den] at hf
    obtain ⟨gf, a, b, rfl, ha1, hb1, rfl⟩ := hf
    refine ⟨a ++ vs.toList ++ b, denL_append (denL_append ha1 ha) hb1, ?_⟩
    have e : (a ++ vs.toList ++ b).toArray = a.toArray ++ vs ++ b.toArray := by apply Array.ext'; simp
    rw [e]
    simp [Deferred.ofValue, invoke]
  · rename_i h first cap
    simp only [SV.Den, SFn.Den] at hf
    obtain ⟨gf, a, b, ⟨l, hl, rfl⟩, ha1, hb1, rfl⟩ := hf
    refine ⟨a ++ vs.toList, l, denL_append ha1 ha, hl, ?_⟩
    have e : (a ++ vs.toList).toArray = a.toArray ++ vs := by apply Array.ext'; simp
    rw [e]
    simp [Deferred.ofValue, invoke]
  · trivial
def sDefer (P : Program) (f : SV) (args : List SV) : OOut :=
  match f with
  | .fn (.func g) first cap => match fnOf P g with
    | some _ => .dfr g cap (first ++ args)
    | none => .stuck 4
  | _ => .stuck 5
theorem sDefer_ok [Val] {f : SV} {fv : Value} {args : List SV} {vs : Array Value} (hf : f.Den ρ fv) (ha : SV.DenL ρ args vs.toList) : OGood P ρ X w0 look fresh id (sDefer P f args) (do pure (.defer (← Deferred.ofValue fv vs))) w := by
  unfold sDefer
  split
  · rename_i g first cap
    split
    · rename_i i hi
      simp only [SV.Den, SFn.Den] at hf
      obtain ⟨gf, a, b, rfl, ha1, hb1, rfl⟩ := hf
      refine ⟨⟨i, hi⟩, _, ⟨b, a ++ vs.toList, hb1, denL_append ha1 ha, rfl⟩, ?_⟩
      simp [Deferred.ofValue]
    · trivial
  · trivial
def sBuiltin (P : Program) (look : Look) (id : Nat) (b : Builtin) (ts : List TypeId) (args : List SV) : OOut :=
  match b with
  | .len => match ts, args with
    | [t], [x] => ofR (sLen P look t x) 10
    | _, _ => .stuck 11
  | .append => match ts, args with
    | [t, u], [x, y] => ofR (sAppend P look id t u x y) 12
    | _, _ => .stuck 13
  | .copy => match ts, args with
    | [t, _], [x, y] => ofR (sCopy P look t x y) 14
    | _, _ => .stuck 15
  | .min => ofR (sMM false args) 16
  | .max => ofR (sMM true args) 17
  | .recover => .rcv
  | _ => .stuck 18
theorem sBuiltin_ok [Val] {b : Builtin} {ts : Array TypeId} {ty : TypeId} {cs : Array Bool} {args : List SV} {vs : Array Value} (d : DenH ρ X w0 look fresh w) (hid : fresh id) (hid1 : fresh (id + 1)) (ha : SV.DenL ρ args vs.toList) :
    OGood P ρ X w0 look fresh id (sBuiltin P look id b ts.toList args) (builtin b ts ty cs vs) w := by
  have e1 : ∀ {x : SV}, args = [x] → ∃ v, vs = #[v] ∧ x.Den ρ v := fun h => by
    subst h
    obtain ⟨v, vs', e, h1, h2⟩ := denL_cons.1 ha
    rw [denL_nil] at h2; subst h2
    exact ⟨v, by rw [← Array.toArray_toList (xs := vs), e], h1⟩
  have e2 : ∀ {x y : SV}, args = [x, y] → ∃ u v, vs = #[u, v] ∧ x.Den ρ u ∧ y.Den ρ v := fun h => by
    subst h
    obtain ⟨v, vs', e, h1, h2⟩ := denL_cons.1 ha
    obtain ⟨v2, vs2, rfl, h3, h4⟩ := denL_cons.1 h2
    rw [denL_nil] at h4; subst h4
    exact ⟨v, v2, by rw [← Array.toArray_toList (xs := vs), e], h1, h3⟩
  have t1 : ∀ {t : TypeId}, ts.toList = [t] → ts = #[t] := fun h => by rw [← Array.toArray_toList (xs := ts), h]
  have t2 : ∀ {t u : TypeId}, ts.toList = [t, u] → ts = #[t, u] := fun h => by rw [← Array.toArray_toList (xs := ts), h]
  cases b <;> simp only [sBuiltin] <;> try trivial
  case append =>
    split
    · rename_i t u x y ht
      obtain ⟨xv, yv, rfl, hx, hy⟩ := e2 rfl
      rw [t2 ht]
      exact ofR_ok fun r hr => sAppend_ok d hid hid1 hx hy hr
    · trivial
  case copy =>
    split
    · rename_i t u x y ht
      obtain ⟨xv, yv, rfl, hx, hy⟩ := e2 rfl
      rw [t2 ht]
      exact ofR_ok fun r hr => sCopy_ok d hx hy hr
    · trivial
  case len =>
    split
    · rename_i t x ht
      obtain ⟨xv, rfl, hx⟩ := e1 rfl
      rw [t1 ht]
      exact ofR_ok fun r hr => sLen_ok d hx hr
    · trivial
  case max => exact ofR_ok fun r hr => sMM_ok (mx := true) (ts := ts) (ty := ty) d ha hr
  case min => exact ofR_ok fun r hr => sMM_ok (mx := false) (ts := ts) (ty := ty) d ha hr

/-- Two values, and what is made of them. -/
def with1 (ev : Ev) (x : Operand) (k : SV → OOut) : OOut :=
  match ev x with
  | some s => k s
  | none => .stuck 20
def with2 (ev : Ev) (x y : Operand) (k : SV → SV → OOut) : OOut :=
  match ev x with
  | some s => match ev y with
    | some t => k s t
    | none => .stuck 21
  | none => .stuck 22
theorem with1_ok [Val] {ev : Ev} {e : Operand → Value} (hev : EvOk ρ ev e) {x : Operand} {k : SV → OOut} {sem : Sem Next} (h : ∀ s, s.Den ρ (e x) → OGood P ρ X w0 look fresh id (k s) sem w) : OGood P ρ X w0 look fresh id (with1 ev x k) sem w := by
  unfold with1
  split
  · exact h _ (hev _ _ (by assumption))
  · trivial
theorem with2_ok [Val] {ev : Ev} {e : Operand → Value} (hev : EvOk ρ ev e) {x y : Operand} {k : SV → SV → OOut} {sem : Sem Next} (h : ∀ s t, s.Den ρ (e x) → t.Den ρ (e y) → OGood P ρ X w0 look fresh id (k s t) sem w) : OGood P ρ X w0 look fresh id (with2 ev x y k) sem w := by
  unfold with2
  split
  · split
    · exact h _ _ (hev _ _ (by assumption)) (hev _ _ (by assumption))
    · trivial
  · trivial
def sop (P : Program) (look : Look) (id : Nat) (ev : Ev) (o : Op) : OOut :=
  match o with
  | .move x => with1 ev x fun s => .val s [] []
  | .assign x => with1 ev x fun s => .val s [] []
  | .pick c a b => with1 ev c fun sc => with2 ev a b fun sa sb => sPick sc sa sb
  | .alloc t => ofR (sAlloc P id t) 30
  | .box t x => with1 ev x fun s => ofR (sBox id t s) 31
  | .build t ps => match evps ev ps.toList with
    | some l => ofR (sBuild P t l) 32
    | none => .stuck 33
  | .buildSlice t n ps => match evps ev ps.toList with
    | some l => ofR (sBuildSlice P id t n l) 34
    | none => .stuck 35
  | .insert t m k x => with1 ev m fun sm => with2 ev k x fun sk sx => ofR (sMapUpdate P look t sm sk sx) 36
  | .mapUpdate t m k x => with1 ev m fun sm => with2 ev k x fun sk sx => ofR (sMapUpdate P look t sm sk sx) 36
  | .load t a => with1 ev a fun s => ofR (sLoad P look t s) 37
  | .store t a x => with2 ev a x fun s v => ofR (sStore P look t s v) 38
  | .nilCheck x => with1 ev x fun s => ofR (sNilCheck s) 39
  | .binOp op t x y _ => with2 ev x y fun s v => ofR (sBin P op t s v) 40
  | .unOp op _ x => with1 ev x fun s => ofR (sUn op s) 41
  | .convert s t x => with1 ev x fun v => ofR (sConv P s t v) 42
  | .makeInterface t x => with1 ev x fun v => ofR (sIface P t v) 43
  | .makeFunc f first cap => match f with
    | .func g => match evs ev first.toList, evs ev cap.toList with
      | some a, some b => .val (.fn (.func g) a b) [] []
      | _, _ => .stuck 44
    | _ => .stuck 45
  | .makeMap t h => match evo ev h with
    | some s => ofR (sMakeMap P id t s) 46
    | none => .stuck 47
  | .makeSlice t l c => with2 ev l c fun s v => ofR (sMakeSlice P id t s v) 48
  | .slice t x lo hi mx => with1 ev x fun s => match evo ev lo, evo ev hi, evo ev mx with
    | some a, some b, some c => ofR (sSlice P t s a b c) 49
    | _, _, _ => .stuck 50
  | .fieldAddr t x f => with1 ev x fun s => ofR (sFieldAddr P t s f) 51
  | .field t x f => with1 ev x fun s => ofR (sField P t s f) 52
  | .indexAddr t x i => with2 ev x i fun s v => ofR (sIndexAddr P t s v) 53
  | .index t x i => with2 ev x i fun s v => ofR (sIndex P t s v) 54
  | .lookup t m k ok => with2 ev m k fun s v => ofR (sLookup P look t s v ok) 55
  | .mapEntry t m k => with2 ev m k fun s v => ofR (sMapEntry P look t s v) 56
  | .entryStore t m s x => with1 ev m fun sm => with2 ev s x fun ss sx => ofR (sEntryStore look sm ss sx) 57
  | .range t x => with1 ev x fun s => ofR (sRange P id t s) 58
  | .next x str => with1 ev x fun s => ofR (sNext look s str) 59
  | .typeAssert x _ t ok => with1 ev x fun s => ofR (sAssert P s t ok) 60
  | .extract x i => with1 ev x fun s => ofR (sExtract s i) 61
  | .call c => match evs ev c.args.toList with
    | none => .stuck 62
    | some xs => match c.callee with
      | .value f => with1 ev f fun s => sCall P s xs
      | .builtin b => sBuiltin P look id b c.argTypes.toList xs
      | .invoke _ _ => .stuck 63
  | .defer c => match evs ev c.args.toList with
    | none => .stuck 64
    | some xs => match c.callee with
      | .value f => with1 ev f fun s => sDefer P s xs
      | _ => .stuck 65
  | .panic x => with1 ev x fun s => match s with
    | .iface t v => .pan (.iface t v)
    | _ => .stuck 66
  | _ => .stuck 67
theorem sop_ok [Val] (hok : FnOk P) {ev : Ev} {e : Operand → Value} (hev : EvOk ρ ev e) (d : DenH ρ X w0 look fresh w) (hid : fresh id) (hid1 : fresh (id + 1)) (o : Oper) : OGood P ρ X w0 look fresh id (sop P look id ev o.op) (execOp e o) w := by
  obtain ⟨dst, op, ty, pos, after, guard⟩ := o
  have hargs : ∀ (c : Call) (xs : List SV), evs ev c.args.toList = some xs → SV.DenL ρ xs (c.args.map e).toList := fun c xs h => by
    have := evs_ok hev h
    simpa using this
  cases op <;> simp only [sop, execOp] <;> try trivial
  case move x => exact with1_ok hev fun s hs => Good.same d rfl hs
  case assign x => exact with1_ok hev fun s hs => Good.same d rfl hs
  case pick c a b => exact with1_ok hev fun sc hc => with2_ok hev fun sa sb ha hb => sPick_ok d hc ha hb
  case alloc t => exact ofR_ok fun r hr => sAlloc_ok d hid hr
  case box t x => exact with1_ok hev fun s hs => ofR_ok fun r hr => sBox_ok d hid hs hr
  case build t ps =>
    split
    · rename_i l hl
      exact ofR_ok fun r hr => sBuild_ok d (by have := evps_ok hev hl; simpa using this) hr
    · trivial
  case buildSlice t n ps =>
    split
    · rename_i l hl
      exact ofR_ok fun r hr => sBuildSlice_ok d hid (by have := evps_ok hev hl; simpa using this) hr
    · trivial
  case insert t m k x => exact with1_ok hev fun sm hm => with2_ok hev fun sk sx hk hx => ofR_ok fun r hr => sMapUpdate_ok d hm hk hx hr
  case mapUpdate t m k x => exact with1_ok hev fun sm hm => with2_ok hev fun sk sx hk hx => ofR_ok fun r hr => sMapUpdate_ok d hm hk hx hr
  case load t a => exact with1_ok hev fun s hs => ofR_ok fun r hr => sLoad_ok d hs hr
  case store t a x => exact with2_ok hev fun s v hs hv => ofR_ok fun r hr => sStore_ok d hs hv hr
  case nilCheck x =>
    refine with1_ok hev fun s hs => ofR_ok fun r hr => ?_
    unfold sNilCheck at hr
    split at hr <;> cases hr
    · rename_i h o
      have hs0 := hs
      simp only [SV.Den] at hs
      obtain ⟨b, m, hb, hm, hv⟩ := hs
      rw [hv] at hs0 ⊢
      exact Good.same d (by simp) hs0
    · rename_i f xs ys
      have hs0 := hs
      simp only [SV.Den, SFn.Den] at hs
      obtain ⟨g, a, b, rfl, ha, hb, hv⟩ := hs
      rw [hv] at hs0 ⊢
      exact Good.same d (by simp) hs0
  case binOp op t x y yt => exact with2_ok hev fun s v hs hv => ofR_ok fun r hr => sBin_ok x y d hs hv hr
  case unOp op t x => exact with1_ok hev fun s hs => ofR_ok fun r hr => sUn_ok d hs hr
  case convert s t x => exact with1_ok hev fun v hv => ofR_ok fun r hr => sConv_ok d hv hr
  case makeInterface t x => exact with1_ok hev fun v hv => ofR_ok fun r hr => sIface_ok d hv hr
  case makeFunc f first cap =>
    split
    · rename_i g
      split
      · rename_i a b ha hb
        have h1 := evs_ok hev ha
        have h2 := evs_ok hev hb
        refine Good.value d (val := .func (.func g) (first.map e) (cap.map e)) (by simp [Instr.makeFunc]) ?_
        simp only [SV.Den, SFn.Den]
        exact ⟨_, _, _, rfl, h1, h2, by congr 1 <;> (apply Array.ext'; simp)⟩
      · trivial
    · trivial
  case makeMap t h =>
    split
    · rename_i s hs
      exact ofR_ok fun r hr => sMakeMap_ok d hid (evo_ok hev hs) hr
    · trivial
  case makeSlice t l c => exact with2_ok hev fun s v hs hv => ofR_ok fun r hr => sMakeSlice_ok d hid hs hv hr
  case slice t x lo hi mx =>
    refine with1_ok hev fun s hs => ?_
    split
    · rename_i a b c ha hb hc
      exact ofR_ok fun r hr => sSlice_ok d hs (evo_ok hev ha) (evo_ok hev hb) (evo_ok hev hc) hr
    · trivial
  case fieldAddr t x f => exact with1_ok hev fun s hs => ofR_ok fun r hr => sFieldAddr_ok d hs hr
  case field t x f => exact with1_ok hev fun s hs => ofR_ok fun r hr => sField_ok d hs hr
  case indexAddr t x i => exact with2_ok hev fun s v hs hv => ofR_ok fun r hr => sIndexAddr_ok d hs hv hr
  case index t x i => exact with2_ok hev fun s v hs hv => ofR_ok fun r hr => sIndex_ok d hs hv hr
  case lookup t m k ok => exact with2_ok hev fun s v hs hv => ofR_ok fun r hr => sLookup_ok d hs hv hr
  case mapEntry t m k => exact with2_ok hev fun s v hs hv => ofR_ok fun r hr => sMapEntry_ok d hs hv hr
  case entryStore t m s x => exact with1_ok hev fun sm hm => with2_ok hev fun ss sx hs hx => ofR_ok fun r hr => sEntryStore_ok d hm hs hx hr
  case range t x => exact with1_ok hev fun s hs => ofR_ok fun r hr => sRange_ok d hid hs hr
  case next x str => exact with1_ok hev fun s hs => ofR_ok fun r hr => sNext_ok d hs hr
  case typeAssert x xt t ok => exact with1_ok hev fun s hs => ofR_ok fun r hr => sAssert_ok d hs hr
  case extract x i => exact with1_ok hev fun s hs => ofR_ok fun r hr => sExtract_ok d hs hr
  case call c =>
    split
    · trivial
    · rename_i xs has
      have ha := hargs c xs has
      cases hc : c.callee with
      | value f =>
        refine with1_ok hev fun s hs => ?_
        have := sCall_ok (id := id) (w := w) (X := X) (w0 := w0) (look := look) (fresh := fresh) hok hs ha
        simpa [resolve, hc] using this
      | builtin b =>
        simp only [resolve, hc, pure_bind, invoke]
        exact sBuiltin_ok d hid hid1 ha
      | invoke _ _ => trivial
  case defer c =>
    split
    · trivial
    · rename_i xs has
      have ha := hargs c xs has
      cases hc : c.callee with
      | value f =>
        refine with1_ok hev fun s hs => ?_
        have := sDefer_ok (P := P) (id := id) (w := w) (X := X) (w0 := w0) (look := look) (fresh := fresh) hs ha
        simpa [resolve, hc] using this
      | builtin b => trivial
      | invoke _ _ => trivial
  case panic x =>
    refine with1_ok hev fun s hs => ?_
    split
    · rename_i t v
      have hs0 := hs
      simp only [SV.Den] at hs
      obtain ⟨y, hy, hv⟩ := hs
      rw [hv] at hs0 ⊢
      exact ⟨_, hs0, by simp [Instr.panic, goPanic]⟩
    · trivial
end
end Go.Sx
