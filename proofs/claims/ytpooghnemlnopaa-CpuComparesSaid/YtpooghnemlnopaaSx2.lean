/- The symbolic heap, and what it stands for. -/
import Derived.Test.YtpooghnemlnopaaSx1
import Derived.Test.YtpooghnemlnopaaKitRow2
namespace Go.Sx
set_option linter.unusedSimpArgs false
set_option linter.unusedVariables false
open Go Go.RowKit

inductive SDef where
  | call (f : FuncId) (captured args : List SV)
  | collected (h : Nat)
structure SLoop where
  state : LoopState
  pending : Option Code
  fn : FuncId
  tmps : List SV
  params : List Tmp
  assign : Code
  body : Code
  defers : Nat
/-- A part of memory of which is known what it stands for. -/
structure Abs where
  P : Nat → (Nat → Prop) → World → Prop
  stable : ∀ b F w w', (∀ x, F x → w'.heap[x]? = w.heap[x]?) → P b F w → P b F w'
  lt : ∀ b F w, P b F w → ∀ x, F x → x < w.heap.size
inductive SObj where
  | cells (l : List SV) (T : TypeId)
  | row (l : List SV) (cap esz : Nat) (T : TypeId)
  | smap (es : List (SV × SV × Nat)) (clock : Nat)
  | siter (s : ByteArray) (pos : Nat)
  | loop (l : SLoop)
  | defs (ds : Option (List SDef))
  | abs (A : Abs)

def SDef.Den [Val] (ρ : Env) : SDef → Deferred → Prop
  | .call f xs ys, d => ∃ c a, SV.DenL ρ xs c ∧ SV.DenL ρ ys a ∧ d = { target := .fn (.func f) c.toArray, args := a.toArray }
  | .collected h, d => ∃ b, ρ h = some b ∧ d = { target := .collected b, args := #[] }
def DenDs [Val] (ρ : Env) : List SDef → List Deferred → Prop
  | [], ds => ds = []
  | s :: l, ds => ∃ d ds', ds = d :: ds' ∧ s.Den ρ d ∧ DenDs ρ l ds'
def DenEs [Val] (ρ : Env) : List (SV × SV × Nat) → List MapEntry → Prop
  | [], es => es = []
  | (k, v, n) :: l, es => ∃ x y es', es = { key := x, val := y, born := n } :: es' ∧ k.Den ρ x ∧ v.Den ρ y ∧ DenEs ρ l es'
theorem SDef.Den.mono [Val] {ρ ρ' : Env} (h : ρ.le ρ') : ∀ {s : SDef} {d : Deferred}, s.Den ρ d → s.Den ρ' d
  | .call _ _ _, _, ⟨c, a, e1, e2, e3⟩ => ⟨c, a, e1.mono h, e2.mono h, e3⟩
  | .collected _, _, ⟨b, e1, e2⟩ => ⟨b, h _ _ e1, e2⟩
theorem DenDs.mono [Val] {ρ ρ' : Env} (h : ρ.le ρ') : ∀ {l : List SDef} {ds : List Deferred}, DenDs ρ l ds → DenDs ρ' l ds
  | [], _, e => e
  | _ :: _, _, ⟨d, ds', e1, e2, e3⟩ => ⟨d, ds', e1, e2.mono h, DenDs.mono h e3⟩
theorem DenEs.mono [Val] {ρ ρ' : Env} (h : ρ.le ρ') : ∀ {l : List (SV × SV × Nat)} {es : List MapEntry}, DenEs ρ l es → DenEs ρ' l es
  | [], _, e => e
  | (_, _, _) :: _, _, ⟨x, y, es', e1, e2, e3, e4⟩ => ⟨x, y, es', e1, e2.mono h, e3.mono h, DenEs.mono h e4⟩
structure SLoop.Den [Val] (ρ : Env) (l : SLoop) (L : Loop) : Prop where
  state : L.state = l.state
  pending : L.pending = l.pending
  fn : L.fn = l.fn
  tmps : SV.DenL ρ l.tmps L.tmps.toList
  params : L.params.toList = l.params
  assign : L.assign = l.assign
  body : L.body = l.body
  defers : ρ l.defers = some L.defers
theorem SLoop.Den.mono [Val] {ρ ρ' : Env} (h : ρ.le ρ') {l : SLoop} {L : Loop} (d : l.Den ρ L) : l.Den ρ' L :=
  ⟨d.state, d.pending, d.fn, d.tmps.mono h, d.params, d.assign, d.body, h _ _ d.defers⟩
def ObjDen [Val] (ρ : Env) : SObj → Obj → Prop
  | .cells l T, o => ∃ vs, SV.DenL ρ l vs ∧ o = .cells vs.toArray T
  | .row l cap esz T, o => ∃ vs ex κ, SV.DenL ρ l vs ∧ ρ cap = some κ ∧ vs.length + ex.length = κ * esz ∧ o = .cells (vs ++ ex).toArray T
  | .smap es clock, o => ∃ xs, DenEs ρ es xs ∧ o = .map xs.toArray clock
  | .siter s pos, o => o = .stringIter s pos
  | .loop l, o => ∃ L, l.Den ρ L ∧ o = .loop L
  | .defs none, o => o = .deferred none
  | .defs (some ds), o => ∃ xs, DenDs ρ ds xs ∧ o = .deferred (some xs)
  | .abs _, _ => False
theorem ObjDen.mono [Val] {ρ ρ' : Env} (h : ρ.le ρ') : ∀ {s : SObj} {o : Obj}, ObjDen ρ s o → ObjDen ρ' s o
  | .cells _ _, _, ⟨vs, e1, e2⟩ => ⟨vs, e1.mono h, e2⟩
  | .row _ _ _ _, _, ⟨vs, ex, κ, e1, e2, e3, e4⟩ => ⟨vs, ex, κ, e1.mono h, h _ _ e2, e3, e4⟩
  | .smap _ _, _, ⟨xs, e1, e2⟩ => ⟨xs, e1.mono h, e2⟩
  | .siter _ _, _, e => e
  | .loop _, _, ⟨L, e1, e2⟩ => ⟨L, e1.mono h, e2⟩
  | .defs none, _, e => e
  | .defs (some _), _, ⟨xs, e1, e2⟩ => ⟨xs, e1.mono h, e2⟩
  | .abs _, _, e => e
/-- What an object, its block at b and its footprint at F, says of a world. -/
def OD [Val] (ρ : Env) (o : SObj) (b : Nat) (F : Nat → Prop) (w : World) : Prop :=
  match o with
  | .abs A => A.P b F w
  | o => (∀ x, F x ↔ x = b) ∧ ∃ obj, w.heap[b]? = some obj ∧ ObjDen ρ o obj
def SObj.isAbs : SObj → Bool
  | .abs _ => true
  | _ => false
theorem OD.block [Val] {ρ : Env} {o : SObj} {b : Nat} {F : Nat → Prop} {w : World} (ho : o.isAbs = false) (h : OD ρ o b F w) : (∀ x, F x ↔ x = b) ∧ ∃ obj, w.heap[b]? = some obj ∧ ObjDen ρ o obj := by
  cases o <;> first
    | exact h
    | cases ho
theorem OD.mk [Val] {ρ : Env} {o : SObj} {b : Nat} {F : Nat → Prop} {w : World} (ho : o.isAbs = false) (h : (∀ x, F x ↔ x = b) ∧ ∃ obj, w.heap[b]? = some obj ∧ ObjDen ρ o obj) : OD ρ o b F w := by
  cases o <;> first
    | exact h
    | cases ho
theorem OD.keep [Val] {ρ ρ' : Env} (hρ : ρ.le ρ') {o : SObj} {b : Nat} {F : Nat → Prop} {w w' : World} (hw : ∀ x, F x → w'.heap[x]? = w.heap[x]?) (h : OD ρ o b F w) : OD ρ' o b F w' := by
  cases ho : o.isAbs with
  | true =>
    cases o <;> first
      | exact Abs.stable _ _ _ _ _ hw h
      | cases ho
  | false =>
    obtain ⟨h1, obj, h2, h3⟩ := h.block ho
    exact OD.mk ho ⟨h1, obj, (hw b ((h1 b).2 rfl)).trans h2, h3.mono hρ⟩
theorem OD.lt [Val] {ρ : Env} {o : SObj} {b : Nat} {F : Nat → Prop} {w : World} (h : OD ρ o b F w) {x : Nat} (hx : F x) : x < w.heap.size := by
  cases ho : o.isAbs with
  | true =>
    cases o <;> first
      | exact Abs.lt _ _ _ _ h x hx
      | cases ho
  | false =>
    obtain ⟨h1, obj, h2, h3⟩ := h.block ho
    rw [(h1 x).1 hx]
    exact Go.Proofs.Ytpooghnemlnopaa.lt_of_heap h2

abbrev Look := Nat → Option SObj
/-- What a symbolic heap says of a world; X: blocks of the caller's that may be written; w0: the world when the run began. -/
structure DenHφ [Val] (φ : Nat → Nat → Prop) (ρ : Env) (X : Nat → Prop) (w0 : World) (look : Look) (fresh : Nat → Prop) (w : World) : Prop where
  obj : ∀ h o, look h = some o → ∃ b, ρ h = some b ∧ OD ρ o b (φ h) w
  apart : ∀ h h' o o' x, look h = some o → look h' = some o' → φ h x → φ h' x → h = h'
  own : ∀ h o x, look h = some o → φ h x → w0.heap.size ≤ x ∨ X x
  new : ∀ h, fresh h → ρ h = none
  frame : ∀ x, x < w0.heap.size → ¬ X x → w.heap[x]? = w0.heap[x]?
  size : w0.heap.size ≤ w.heap.size
  os : w.os = w0.os
  tape : w.tape = w0.tape
  output : w.output = w0.output
def DenH [Val] (ρ : Env) (X : Nat → Prop) (w0 : World) (look : Look) (fresh : Nat → Prop) (w : World) : Prop := ∃ φ, DenHφ φ ρ X w0 look fresh w

section
variable {φ : Nat → Nat → Prop} {ρ : Env} {X : Nat → Prop} {w0 w : World} {look : Look} {fresh : Nat → Prop}
theorem DenHφ.at [Val] (d : DenHφ φ ρ X w0 look fresh w) {h : Nat} {o : SObj} (hl : look h = some o) (ho : o.isAbs = false) : ∃ b obj, ρ h = some b ∧ w.heap[b]? = some obj ∧ ObjDen ρ o obj ∧ (∀ x, φ h x ↔ x = b) := by
  obtain ⟨b, h1, h2⟩ := d.obj h o hl
  obtain ⟨h3, obj, h4, h5⟩ := h2.block ho
  exact ⟨b, obj, h1, h4, h5, h3⟩
theorem DenH.at [Val] (d : DenH ρ X w0 look fresh w) {h : Nat} {o : SObj} (hl : look h = some o) (ho : o.isAbs = false) : ∃ b obj, ρ h = some b ∧ w.heap[b]? = some obj ∧ ObjDen ρ o obj := by
  obtain ⟨φ, d⟩ := d
  obtain ⟨b, obj, h1, h2, h3, _⟩ := d.at hl ho
  exact ⟨b, obj, h1, h2, h3⟩
theorem DenH.newName [Val] (d : DenH ρ X w0 look fresh w) {h : Nat} (hf : fresh h) : ρ h = none := by
  obtain ⟨φ, d⟩ := d
  exact d.new h hf
theorem DenH.fresh_look [Val] (d : DenH ρ X w0 look fresh w) {h : Nat} (hf : fresh h) : look h = none := by
  cases hl : look h with
  | none => rfl
  | some o =>
    obtain ⟨φ, d⟩ := d
    obtain ⟨b, h1, _⟩ := d.obj h o hl
    rw [d.new h hf] at h1; cases h1
/-- Less is known. -/
theorem DenH.drop [Val] (d : DenH ρ X w0 look fresh w) {look' : Look} (h : ∀ j o, look' j = some o → look j = some o) : DenH ρ X w0 look' fresh w := by
  obtain ⟨φ, d⟩ := d
  exact ⟨φ, fun j o e => d.obj j o (h j o e), fun j j' o o' x e e' => d.apart j j' o o' x (h j o e) (h j' o' e'), fun j o x e => d.own j o x (h j o e), d.new, d.frame, d.size, d.os, d.tape, d.output⟩
theorem DenH.fresh_mono [Val] (d : DenH ρ X w0 look fresh w) {fresh' : Nat → Prop} (h : ∀ j, fresh' j → fresh j) : DenH ρ X w0 look fresh' w := by
  obtain ⟨φ, d⟩ := d
  exact ⟨φ, d.obj, d.apart, d.own, fun j hj => d.new j (h j hj), d.frame, d.size, d.os, d.tape, d.output⟩
theorem DenH.congr [Val] (d : DenH ρ X w0 look fresh w) {look' : Look} (h : ∀ j, look' j = look j) : DenH ρ X w0 look' fresh w := d.drop fun j o e => by rw [← h j]; exact e
/-- More names are known. -/
theorem DenH.env [Val] (d : DenH ρ X w0 look fresh w) {ρ' : Env} (hle : ρ.le ρ') {fresh' : Nat → Prop} (hf : ∀ j, fresh' j → ρ' j = none) : DenH ρ' X w0 look fresh' w := by
  obtain ⟨φ, d⟩ := d
  refine ⟨φ, fun j o e => ?_, d.apart, d.own, hf, d.frame, d.size, d.os, d.tape, d.output⟩
  obtain ⟨b, h1, h2⟩ := d.obj j o e
  exact ⟨b, hle _ _ h1, h2.keep hle fun _ _ => rfl⟩
/-- A draw. -/
theorem DenH.drawn [Val] (d : DenH ρ X w0 look fresh w) (n : Nat) : DenH ρ X w0 look fresh { w with drawn := n } := by
  obtain ⟨φ, d⟩ := d
  refine ⟨φ, fun j o e => ?_, d.apart, d.own, d.new, d.frame, d.size, d.os, d.tape, d.output⟩
  obtain ⟨b, h1, h2⟩ := d.obj j o e
  exact ⟨b, h1, OD.keep (w := w) (Env.le_refl _) (fun _ _ => rfl) h2⟩
/-- One object turns into another one, perhaps under another name (in the same block). -/
theorem DenH.turn [Val] (d : DenH ρ X w0 look fresh w) {h : Nat} {o : SObj} (hl : look h = some o) (ho : o.isAbs = false) {b : Nat} (hb : ρ h = some b)
    {h2 : Nat} {o' : SObj} (ho' : o'.isAbs = false) {ρ' : Env} (hle : ρ.le ρ') (hb2 : ρ' h2 = some b) (hh2 : h2 = h ∨ look h2 = none) {w' : World} {obj' : Obj} (hw : w'.heap[b]? = some obj') (hwo : ∀ x, x ≠ b → w'.heap[x]? = w.heap[x]?)
    (hs : w'.heap.size = w.heap.size) (hos : w'.os = w.os) (ht : w'.tape = w.tape) (hout : w'.output = w.output) (hden : ObjDen ρ' o' obj')
    {look' : Look} (hlook : ∀ j, look' j = if j = h2 then some o' else if j = h then none else look j) {fresh' : Nat → Prop} (hf : ∀ j, fresh' j → ρ' j = none) : DenH ρ' X w0 look' fresh' w' := by
  obtain ⟨φ, d⟩ := d
  obtain ⟨b', obj, e1, e2, e3, e4⟩ := d.at hl ho
  obtain rfl : b' = b := by rw [hb] at e1; injection e1 with e1; exact e1.symm
  have hφ : ∀ j x, (if j = h2 then φ h x else φ j x) → ∀ o, look' j = some o → ∃ j' o', (look j' = some o') ∧ φ j' x ∧ (j = h2 ∧ j' = h ∨ j ≠ h2 ∧ j' = j ∧ j ≠ h ∧ o' = o) := by
    intro j x hx o hj
    rw [hlook] at hj
    by_cases hj2 : j = h2
    · rw [if_pos hj2] at hx
      exact ⟨h, _, hl, hx, .inl ⟨hj2, rfl⟩⟩
    · rw [if_neg hj2] at hx hj
      by_cases hjh : j = h
      · rw [if_pos hjh] at hj; cases hj
      · rw [if_neg hjh] at hj
        exact ⟨j, o, hj, hx, .inr ⟨hj2, rfl, hjh, rfl⟩⟩
  refine ⟨fun j x => if j = h2 then φ h x else φ j x, ?_, ?_, ?_, hf, ?_, by rw [hs]; exact d.size, by rw [hos]; exact d.os, by rw [ht]; exact d.tape, by rw [hout]; exact d.output⟩
  · intro j o1 hj
    rw [hlook] at hj
    by_cases hj2 : j = h2
    · rw [if_pos hj2] at hj
      injection hj with hj; subst hj
      subst hj2
      refine ⟨b', hb2, OD.mk ho' ⟨fun x => ?_, obj', hw, hden⟩⟩
      simpa using e4 x
    · rw [if_neg hj2] at hj
      by_cases hjh : j = h
      · rw [if_pos hjh] at hj; cases hj
      · rw [if_neg hjh] at hj
        obtain ⟨c, f1, f2⟩ := d.obj j o1 hj
        refine ⟨c, hle _ _ f1, OD.keep hle (w := w) ?_ (by simpa [hj2] using f2)⟩
        intro x hx
        simp only [hj2, if_false] at hx
        refine hwo x fun e => ?_
        exact hjh (d.apart j h o1 o x hj hl hx ((e4 x).2 e))
  · intro j j' o1 o2 x hj hj' hx hx'
    obtain ⟨k, p, k1, k2, k3⟩ := hφ j x hx o1 hj
    obtain ⟨k', p', k1', k2', k3'⟩ := hφ j' x hx' o2 hj'
    have := d.apart k k' p p' x k1 k1' k2 k2'
    rcases k3 with ⟨a1, a2⟩ | ⟨a1, a2, a3, a4⟩ <;> rcases k3' with ⟨c1, c2⟩ | ⟨c1, c2, c3, c4⟩
    · rw [a1, c1]
    · exact absurd (this.symm.trans a2) (by rw [c2]; exact c3)
    · exact absurd (this.trans c2) (by rw [a2]; exact a3)
    · rw [← a2, ← c2]; exact this
  · intro j o1 x hj hx
    obtain ⟨k, p, k1, k2, _⟩ := hφ j x hx o1 hj
    exact d.own k p x k1 k2
  · intro x hx hX
    by_cases hxb : x = b'
    · subst hxb
      rcases d.own h o x hl ((e4 x).2 rfl) with h1 | h1
      · omega
      · exact absurd h1 hX
    · rw [hwo x hxb]; exact d.frame x hx hX
/-- One object changes. -/
theorem DenH.put [Val] (d : DenH ρ X w0 look fresh w) {h : Nat} {o : SObj} (hl : look h = some o) (ho : o.isAbs = false) {b : Nat} (hb : ρ h = some b)
    {o' : SObj} (ho' : o'.isAbs = false) {w' : World} {obj' : Obj} (hw : w'.heap[b]? = some obj') (hwo : Go.Proofs.Ytpooghnemlnopaa.Only b w w') (hden : ObjDen ρ o' obj')
    {look' : Look} (hlook : ∀ j, look' j = if j = h then some o' else look j) : DenH ρ X w0 look' fresh w' := by
  refine d.turn hl ho hb ho' (Env.le_refl _) hb (.inl rfl) hw hwo.block hwo.size hwo.os hwo.tape hwo.output hden (fun j => ?_) (fun j hj => d.newName hj)
  rw [hlook]
  by_cases e : j = h <;> simp [e]
/-- A new object. -/
theorem DenH.alloc [Val] (d : DenH ρ X w0 look fresh w) {h : Nat} {o : SObj} (ho : o.isAbs = false) {obj : Obj} {ρ' : Env} (hle : ρ.le ρ') (hh : fresh h) (hb : ρ' h = some w.heap.size) (hden : ObjDen ρ' o obj)
    {look' : Look} (hlook : ∀ j, look' j = if j = h then some o else look j) {fresh' : Nat → Prop} (hf : ∀ j, fresh' j → ρ' j = none) : DenH ρ' X w0 look' fresh' (w.alloc obj) := by
  have hl := d.fresh_look hh
  obtain ⟨φ, d⟩ := d
  have hold : ∀ x, x < w.heap.size → (w.alloc obj).heap[x]? = w.heap[x]? := fun x hx => Below.heap_alloc w obj x hx
  refine ⟨fun j x => if j = h then x = w.heap.size else φ j x, ?_, ?_, ?_, hf, ?_, by have := d.size; simp; omega, d.os, d.tape, d.output⟩
  · intro j o1 hj
    rw [hlook] at hj
    by_cases e : j = h
    · rw [if_pos e] at hj
      injection hj with hj; subst hj; subst e
      exact ⟨_, hb, OD.mk ho ⟨fun x => by simp, obj, World.alloc_heap_new w obj, hden⟩⟩
    · rw [if_neg e] at hj
      obtain ⟨c, f1, f2⟩ := d.obj j o1 hj
      refine ⟨c, hle _ _ f1, OD.keep hle (w := w) ?_ (by simpa [e] using f2)⟩
      intro x hx
      simp only [e, if_false] at hx
      exact hold x (f2.lt hx)
  · intro j j' o1 o2 x hj hj' hx hx'
    rw [hlook] at hj hj'
    by_cases e : j = h <;> by_cases e' : j' = h
    · rw [e, e']
    · rw [if_pos e] at hx; rw [if_neg e'] at hx' hj'
      obtain ⟨c, f1, f2⟩ := d.obj j' o2 hj'
      have := f2.lt hx'; omega
    · rw [if_neg e] at hx hj; rw [if_pos e'] at hx'
      obtain ⟨c, f1, f2⟩ := d.obj j o1 hj
      have := f2.lt hx; omega
    · rw [if_neg e] at hx hj; rw [if_neg e'] at hx' hj'
      exact d.apart j j' o1 o2 x hj hj' hx hx'
  · intro j o1 x hj hx
    rw [hlook] at hj
    by_cases e : j = h
    · rw [if_pos e] at hx; subst hx; exact .inl d.size
    · rw [if_neg e] at hx hj; exact d.own j o1 x hj hx
  · intro x hx hX
    rw [hold x (by have := d.size; omega)]; exact d.frame x hx hX
/-- A new block of which nothing is known. -/
theorem DenH.junk [Val] (d : DenH ρ X w0 look fresh w) {w' : World} (hn : Go.Cd.New w w') : DenH ρ X w0 look fresh w' := by
  obtain ⟨φ, d⟩ := d
  refine ⟨φ, fun j o e => ?_, d.apart, d.own, d.new, fun x hx hX => (hn.block x (by have := d.size; omega)).trans (d.frame x hx hX), Nat.le_trans d.size hn.size, hn.os.trans d.os, hn.tape.trans d.tape, hn.output.trans d.output⟩
  obtain ⟨b, h1, h2⟩ := d.obj j o e
  exact ⟨b, h1, h2.keep (Env.le_refl _) fun x hx => hn.block x (h2.lt hx)⟩
/-- The beginning of a run. -/
theorem DenH.start [Val] (w : World) (X : Nat → Prop) : DenH (fun _ => none) X w (fun _ => none) (fun _ => True) w :=
  ⟨fun _ _ => False, ⟨fun _ _ e => (by cases e), fun _ _ _ _ _ e => (by cases e), fun _ _ _ e => (by cases e), fun _ _ => rfl, fun _ _ _ => rfl, Nat.le_refl _, rfl, rfl, rfl⟩⟩
end

/-! The heap as a list. -/
abbrev Ents := List (Nat × SObj)
def find : Ents → Nat → Option SObj
  | [], _ => none
  | (k, o) :: r, h => match Nat.beq k h with
    | true => some o
    | false => find r h
def upd : Ents → Nat → SObj → Ents
  | [], h, o => [(h, o)]
  | (k, x) :: r, h, o => match Nat.beq k h with
    | true => (k, o) :: r
    | false => (k, x) :: upd r h o
def del : Ents → Nat → Ents
  | [], _ => []
  | (k, x) :: r, h => match Nat.beq k h with
    | true => del r h
    | false => (k, x) :: del r h
theorem beq_iff [Val] {a b : Nat} : Nat.beq a b = true ↔ a = b := ⟨Nat.eq_of_beq_eq_true, fun h => by subst h; exact Nat.beq_refl a⟩
theorem beq_false [Val] {a b : Nat} (h : Nat.beq a b = false) : a ≠ b := Nat.ne_of_beq_eq_false h
theorem find_cons [Val] (k : Nat) (o : SObj) (r : Ents) (h : Nat) : find ((k, o) :: r) h = if h = k then some o else find r h := by
  show (match Nat.beq k h with | true => some o | false => find r h) = _
  split
  · rename_i e; rw [beq_iff] at e; rw [if_pos e.symm]
  · rename_i e; rw [if_neg (Ne.symm (beq_false e))]
theorem find_upd [Val] : ∀ (r : Ents) (h : Nat) (o : SObj) (j : Nat), find (upd r h o) j = if j = h then some o else find r j
  | [], h, o, j => by rw [upd, find_cons]
  | (k, x) :: r, h, o, j => by
    unfold upd
    split
    · rename_i e; rw [beq_iff] at e; subst e
      rw [find_cons, find_cons]
      split <;> rfl
    · rename_i e
      have e' := beq_false e
      rw [find_cons, find_cons, find_upd r h o j]
      by_cases a : j = k
      · subst a; simp [e']
      · simp [a]
theorem find_del [Val] : ∀ (r : Ents) (h j : Nat), find (del r h) j = if j = h then none else find r j
  | [], h, j => by simp [del, find]
  | (k, x) :: r, h, j => by
    unfold del
    split
    · rename_i e; rw [beq_iff] at e; subst e
      rw [find_cons, find_del r k j]
      split <;> rfl
    · rename_i e
      have e' := beq_false e
      rw [find_cons, find_cons, find_del r h j]
      by_cases a : j = k
      · subst a; simp [e']
      · simp [a]
end Go.Sx
