/- Parts of the proof: Sx2, Sx3, Sx4. -/
import Derived.Test.YtnoiijjkjcklpaaGreatZ1
import Derived.Deep.MidRow
/- The symbolic heap, and what it stands for. -/
namespace Go.Sx
set_option linter.unusedSimpArgs false
set_option linter.unusedVariables false
open Go Go.RowKit

inductive SDef where
  | call (f : FuncId) (captured args : List SV)
  | collected (h : Nat)
structure SLoop where
  state : LoopState
  pending : Option Code
  fn : FuncId
  tmps : List SV
  params : List Tmp
  assign : Code
  body : Code
  defers : Nat
inductive SObj where
  | cells (l : List SV) (T : TypeId)
  | row (l : List SV) (cap esz : Nat) (T : TypeId)
  | smap (es : List (SV × SV × Nat)) (clock : Nat)
  | siter (s : ByteArray) (pos : Nat)
  | loop (l : SLoop)
  | defs (ds : Option (List SDef))
  | abs (t : Nat) (args : Tms) (refs : List Nat)

def SDef.Den [Val] (ρ : Env) : SDef → Deferred → Prop
  | .call f xs ys, d => ∃ c a, SV.DenL ρ xs c ∧ SV.DenL ρ ys a ∧ d = { target := .fn (.func f) c.toArray, args := a.toArray }
  | .collected h, d => ∃ b, ρ h = some b ∧ d = { target := .collected b, args := #[] }
def DenDs [Val] (ρ : Env) : List SDef → List Deferred → Prop
  | [], ds => ds = []
  | s :: l, ds => ∃ d ds', ds = d :: ds' ∧ s.Den ρ d ∧ DenDs ρ l ds'
def DenEs [Val] (ρ : Env) : List (SV × SV × Nat) → List MapEntry → Prop
  | [], es => es = []
  | (k, v, n) :: l, es => ∃ x y es', es = { key := x, val := y, born := n } :: es' ∧ k.Den ρ x ∧ v.Den ρ y ∧ DenEs ρ l es'
theorem SDef.Den.mono [Val] {ρ ρ' : Env} (h : ρ.le ρ') : ∀ {s : SDef} {d : Deferred}, s.Den ρ d → s.Den ρ' d
  | .call _ _ _, _, ⟨c, a, e1, e2, e3⟩ => ⟨c, a, e1.mono h, e2.mono h, e3⟩
  | .collected _, _, ⟨b, e1, e2⟩ => ⟨b, h _ _ e1, e2⟩
theorem DenDs.mono [Val] {ρ ρ' : Env} (h : ρ.le ρ') : ∀ {l : List SDef} {ds : List Deferred}, DenDs ρ l ds → DenDs ρ' l ds
  | [], _, e => e
  | _ :: _, _, ⟨d, ds', e1, e2, e3⟩ => ⟨d, ds', e1, e2.mono h, DenDs.mono h e3⟩
theorem DenEs.mono [Val] {ρ ρ' : Env} (h : ρ.le ρ') : ∀ {l : List (SV × SV × Nat)} {es : List MapEntry}, DenEs ρ l es → DenEs ρ' l es
  | [], _, e => e
  | (_, _, _) :: _, _, ⟨x, y, es', e1, e2, e3, e4⟩ => ⟨x, y, es', e1, e2.mono h, e3.mono h, DenEs.mono h e4⟩
structure SLoop.Den [Val] (ρ : Env) (l : SLoop) (L : Loop) : Prop where
  state : L.state = l.state
  pending : L.pending = l.pending
  fn : L.fn = l.fn
  tmps : SV.DenL ρ l.tmps L.tmps.toList
  params : L.params.toList = l.params
  assign : L.assign = l.assign
  body : L.body = l.body
  defers : ρ l.defers = some L.defers
theorem SLoop.Den.mono [Val] {ρ ρ' : Env} (h : ρ.le ρ') {l : SLoop} {L : Loop} (d : l.Den ρ L) : l.Den ρ' L :=
  ⟨d.state, d.pending, d.fn, d.tmps.mono h, d.params, d.assign, d.body, h _ _ d.defers⟩
def ObjDen [Val] (ρ : Env) : SObj → Obj → Prop
  | .cells l T, o => ∃ vs, SV.DenL ρ l vs ∧ o = .cells vs.toArray T
  | .row l cap esz T, o => ∃ vs ex κ, SV.DenL ρ l vs ∧ ρ cap = some κ ∧ vs.length + ex.length = κ * esz ∧ o = .cells (vs ++ ex).toArray T
  | .smap es clock, o => ∃ xs, DenEs ρ es xs ∧ o = .map xs.toArray clock
  | .siter s pos, o => o = .stringIter s pos
  | .loop l, o => ∃ L, l.Den ρ L ∧ o = .loop L
  | .defs none, o => o = .deferred none
  | .defs (some ds), o => ∃ xs, DenDs ρ ds xs ∧ o = .deferred (some xs)
  | .abs _ _ _, _ => False
def DenRs (ρ : Env) : List Nat → List Nat → Prop
  | [], rs => rs = []
  | h :: l, rs => ∃ b rs', rs = b :: rs' ∧ ρ h = some b ∧ DenRs ρ l rs'
theorem DenRs.mono {ρ ρ' : Env} (h : ρ.le ρ') : ∀ {l rs : List Nat}, DenRs ρ l rs → DenRs ρ' l rs
  | [], _, e => e
  | _ :: _, _, ⟨b, rs', e1, e2, e3⟩ => ⟨b, rs', e1, h _ _ e2, DenRs.mono h e3⟩
theorem ObjDen.mono [Val] {ρ ρ' : Env} (h : ρ.le ρ') : ∀ {s : SObj} {o : Obj}, ObjDen ρ s o → ObjDen ρ' s o
  | .cells _ _, _, ⟨vs, e1, e2⟩ => ⟨vs, e1.mono h, e2⟩
  | .row _ _ _ _, _, ⟨vs, ex, κ, e1, e2, e3, e4⟩ => ⟨vs, ex, κ, e1.mono h, h _ _ e2, e3, e4⟩
  | .smap _ _, _, ⟨xs, e1, e2⟩ => ⟨xs, e1.mono h, e2⟩
  | .siter _ _, _, e => e
  | .loop _, _, ⟨L, e1, e2⟩ => ⟨L, e1.mono h, e2⟩
  | .defs none, _, e => e
  | .defs (some _), _, ⟨xs, e1, e2⟩ => ⟨xs, e1.mono h, e2⟩
  | .abs _ _ _, _, e => e
def OD [Val] (ρ : Env) (o : SObj) (b : Nat) (F : Nat → Prop) (w : World) : Prop :=
  match o with
  | .abs t args refs => ∃ rs, DenRs ρ refs rs ∧ (Val.abs t args.v rs).P b F w
  | o => (∀ x, F x ↔ x = b) ∧ ∃ obj, w.heap[b]? = some obj ∧ ObjDen ρ o obj
def SObj.isAbs : SObj → Bool
  | .abs _ _ _ => true
  | _ => false
def SObj.frz : SObj → Bool
  | .abs t _ _ => Nat.ble 1000 t
  | _ => false
theorem SObj.frz_of {o : SObj} (h : o.isAbs = false) : o.frz = false := by
  cases o <;> first
    | rfl
    | cases h
theorem OD.block [Val] {ρ : Env} {o : SObj} {b : Nat} {F : Nat → Prop} {w : World} (ho : o.isAbs = false) (h : OD ρ o b F w) : (∀ x, F x ↔ x = b) ∧ ∃ obj, w.heap[b]? = some obj ∧ ObjDen ρ o obj := by
  cases o <;> first
    | exact h
    | cases ho
theorem OD.mk [Val] {ρ : Env} {o : SObj} {b : Nat} {F : Nat → Prop} {w : World} (ho : o.isAbs = false) (h : (∀ x, F x ↔ x = b) ∧ ∃ obj, w.heap[b]? = some obj ∧ ObjDen ρ o obj) : OD ρ o b F w := by
  cases o <;> first
    | exact h
    | cases ho
theorem OD.keep [Val] {ρ ρ' : Env} (hρ : ρ.le ρ') {o : SObj} {b : Nat} {F : Nat → Prop} {w w' : World} (hw : ∀ x, F x → w'.heap[x]? = w.heap[x]?) (h : OD ρ o b F w) : OD ρ' o b F w' := by
  cases ho : o.isAbs with
  | true =>
    cases o <;> first
      | (obtain ⟨rs, h1, h2⟩ := h; exact ⟨rs, h1.mono hρ, Abs.stable _ _ _ _ _ hw h2⟩)
      | cases ho
  | false =>
    obtain ⟨h1, obj, h2, h3⟩ := h.block ho
    exact OD.mk ho ⟨h1, obj, (hw b ((h1 b).2 rfl)).trans h2, h3.mono hρ⟩
theorem OD.lt [Val] {ρ : Env} {o : SObj} {b : Nat} {F : Nat → Prop} {w : World} (h : OD ρ o b F w) {x : Nat} (hx : F x) : x < w.heap.size := by
  cases ho : o.isAbs with
  | true =>
    cases o <;> first
      | (obtain ⟨rs, h1, h2⟩ := h; exact Abs.lt _ _ _ _ h2 x hx)
      | cases ho
  | false =>
    obtain ⟨h1, obj, h2, h3⟩ := h.block ho
    rw [(h1 x).1 hx]
    exact Go.Proofs.YtnoiijjkjcklpaaGreat.lt_of_heap h2

abbrev Look := Nat → Option SObj
structure DenHφ [Val] (φ : Nat → Nat → Prop) (ρ : Env) (X : Nat → Prop) (w0 : World) (look : Look) (fresh : Nat → Prop) (w : World) : Prop where
  obj : ∀ h o, look h = some o → ∃ b, ρ h = some b ∧ OD ρ o b (φ h) w
  apart : ∀ h h' o o' x, look h = some o → look h' = some o' → o.frz = false → φ h x → φ h' x → h = h'
  own : ∀ h o x, look h = some o → o.frz = false → φ h x → w0.heap.size ≤ x ∨ X x
  new : ∀ h, fresh h → ρ h = none
  frame : ∀ x, x < w0.heap.size → ¬ X x → w.heap[x]? = w0.heap[x]?
  size : w0.heap.size ≤ w.heap.size
  os : w.os = w0.os
  tape : w.tape = w0.tape
  output : w.output = w0.output
def DenH [Val] (ρ : Env) (X : Nat → Prop) (w0 : World) (look : Look) (fresh : Nat → Prop) (w : World) : Prop := ∃ φ, DenHφ φ ρ X w0 look fresh w

section
variable {φ : Nat → Nat → Prop} {ρ : Env} {X : Nat → Prop} {w0 w : World} {look : Look} {fresh : Nat → Prop}
theorem DenHφ.at [Val] (d : DenHφ φ ρ X w0 look fresh w) {h : Nat} {o : SObj} (hl : look h = some o) (ho : o.isAbs = false) : ∃ b obj, ρ h = some b ∧ w.heap[b]? = some obj ∧ ObjDen ρ o obj ∧ (∀ x, φ h x ↔ x = b) := by
  obtain ⟨b, h1, h2⟩ := d.obj h o hl
  obtain ⟨h3, obj, h4, h5⟩ := h2.block ho
  exact ⟨b, obj, h1, h4, h5, h3⟩
theorem DenH.at [Val] (d : DenH ρ X w0 look fresh w) {h : Nat} {o : SObj} (hl : look h = some o) (ho : o.isAbs = false) : ∃ b obj, ρ h = some b ∧ w.heap[b]? = some obj ∧ ObjDen ρ o obj := by
  obtain ⟨φ, d⟩ := d
  obtain ⟨b, obj, h1, h2, h3, _⟩ := d.at hl ho
  exact ⟨b, obj, h1, h2, h3⟩
theorem DenH.newName [Val] (d : DenH ρ X w0 look fresh w) {h : Nat} (hf : fresh h) : ρ h = none := by
  obtain ⟨φ, d⟩ := d
  exact d.new h hf
theorem DenH.fresh_look [Val] (d : DenH ρ X w0 look fresh w) {h : Nat} (hf : fresh h) : look h = none := by
  cases hl : look h with
  | none => rfl
  | some o =>
    obtain ⟨φ, d⟩ := d
    obtain ⟨b, h1, _⟩ := d.obj h o hl
    rw [d.new h hf] at h1; cases h1
theorem DenH.drop [Val] (d : DenH ρ X w0 look fresh w) {look' : Look} (h : ∀ j o, look' j = some o → look j = some o) : DenH ρ X w0 look' fresh w := by
  obtain ⟨φ, d⟩ := d
  exact ⟨φ, fun j o e => d.obj j o (h j o e), fun j j' o o' x e e' => d.apart j j' o o' x (h j o e) (h j' o' e'), fun j o x e => d.own j o x (h j o e), d.new, d.frame, d.size, d.os, d.tape, d.output⟩
theorem DenH.fresh_mono [Val] (d : DenH ρ X w0 look fresh w) {fresh' : Nat → Prop} (h : ∀ j, fresh' j → fresh j) : DenH ρ X w0 look fresh' w := by
  obtain ⟨φ, d⟩ := d
  exact ⟨φ, d.obj, d.apart, d.own, fun j hj => d.new j (h j hj), d.frame, d.size, d.os, d.tape, d.output⟩
theorem DenH.congr [Val] (d : DenH ρ X w0 look fresh w) {look' : Look} (h : ∀ j, look' j = look j) : DenH ρ X w0 look' fresh w := d.drop fun j o e => by rw [← h j]; exact e
theorem DenH.env [Val] (d : DenH ρ X w0 look fresh w) {ρ' : Env} (hle : ρ.le ρ') {fresh' : Nat → Prop} (hf : ∀ j, fresh' j → ρ' j = none) : DenH ρ' X w0 look fresh' w := by
  obtain ⟨φ, d⟩ := d
  refine ⟨φ, fun j o e => ?_, d.apart, d.own, hf, d.frame, d.size, d.os, d.tape, d.output⟩
  obtain ⟨b, h1, h2⟩ := d.obj j o e
  exact ⟨b, hle _ _ h1, h2.keep hle fun _ _ => rfl⟩
theorem DenH.drawn [Val] (d : DenH ρ X w0 look fresh w) (n : Nat) : DenH ρ X w0 look fresh { w with drawn := n } := by
  obtain ⟨φ, d⟩ := d
  refine ⟨φ, fun j o e => ?_, d.apart, d.own, d.new, d.frame, d.size, d.os, d.tape, d.output⟩
  obtain ⟨b, h1, h2⟩ := d.obj j o e
  exact ⟨b, h1, OD.keep (w := w) (Env.le_refl _) (fun _ _ => rfl) h2⟩
theorem DenH.turn [Val] (d : DenH ρ X w0 look fresh w) {h : Nat} {o : SObj} (hl : look h = some o) (ho : o.isAbs = false) {b : Nat} (hb : ρ h = some b)
    {h2 : Nat} {o' : SObj} (ho' : o'.isAbs = false) {ρ' : Env} (hle : ρ.le ρ') (hb2 : ρ' h2 = some b) (hh2 : h2 = h ∨ look h2 = none) {w' : World} {obj' : Obj} (hw : w'.heap[b]? = some obj') (hwo : ∀ x, x ≠ b → w'.heap[x]? = w.heap[x]?)
    (hs : w'.heap.size = w.heap.size) (hos : w'.os = w.os) (ht : w'.tape = w.tape) (hout : w'.output = w.output) (hden : ObjDen ρ' o' obj')
    {look' : Look} (hlook : ∀ j, look' j = if j = h2 then some o' else if j = h then none else look j) {fresh' : Nat → Prop} (hf : ∀ j, fresh' j → ρ' j = none) : DenH ρ' X w0 look' fresh' w' := by
  obtain ⟨φ, d⟩ := d
  obtain ⟨b', obj, e1, e2, e3, e4⟩ := d.at hl ho
  obtain rfl : b' = b := by rw [hb] at e1; injection e1 with e1; exact e1.symm
  have hφ : ∀ j x, (if j = h2 then φ h x else φ j x) → ∀ o, look' j = some o → ∃ j' o', (look j' = some o') ∧ φ j' x ∧ (j = h2 ∧ j' = h ∨ j ≠ h2 ∧ j' = j ∧ j ≠ h ∧ o' = o) := by
    intro j x hx o hj
    rw [hlook] at hj
    by_cases hj2 : j = h2
    · rw [if_pos hj2] at hx
      exact ⟨h, _, hl, hx, .inl ⟨hj2, rfl⟩⟩
    · rw [if_neg hj2] at hx hj
      by_cases hjh : j = h
      · rw [if_pos hjh] at hj; cases hj
      · rw [if_neg hjh] at hj
        exact ⟨j, o, hj, hx, .inr ⟨hj2, rfl, hjh, rfl⟩⟩
  refine ⟨fun j x => if j = h2 then φ h x else φ j x, ?_, ?_, ?_, hf, ?_, by rw [hs]; exact d.size, by rw [hos]; exact d.os, by rw [ht]; exact d.tape, by rw [hout]; exact d.output⟩
  · intro j o1 hj
    rw [hlook] at hj
    by_cases hj2 : j = h2
    · rw [if_pos hj2] at hj
      injection hj with hj; subst hj
      subst hj2
      refine ⟨b', hb2, OD.mk ho' ⟨fun x => ?_, obj', hw, hden⟩⟩
      simpa using e4 x
    · rw [if_neg hj2] at hj
      by_cases hjh : j = h
      · rw [if_pos hjh] at hj; cases hj
      · rw [if_neg hjh] at hj
        obtain ⟨c, f1, f2⟩ := d.obj j o1 hj
        refine ⟨c, hle _ _ f1, OD.keep hle (w := w) ?_ (by simpa [hj2] using f2)⟩
        intro x hx
        simp only [hj2, if_false] at hx
        refine hwo x fun e => ?_
        exact hjh (d.apart h j o o1 x hl hj (SObj.frz_of ho) ((e4 x).2 e) hx).symm
  · intro j j' o1 o2 x hj hj' hz hx hx'
    obtain ⟨k, p, k1, k2, k3⟩ := hφ j x hx o1 hj
    obtain ⟨k', p', k1', k2', k3'⟩ := hφ j' x hx' o2 hj'
    have hpz : p.frz = false := by
      rcases k3 with ⟨a1, a2⟩ | ⟨a1, a2, a3, a4⟩
      · rw [a2, hl] at k1; cases k1; exact SObj.frz_of ho
      · rw [a4]; exact hz
    have := d.apart k k' p p' x k1 k1' hpz k2 k2'
    rcases k3 with ⟨a1, a2⟩ | ⟨a1, a2, a3, a4⟩ <;> rcases k3' with ⟨c1, c2⟩ | ⟨c1, c2, c3, c4⟩
    · rw [a1, c1]
    · exact absurd (this.symm.trans a2) (by rw [c2]; exact c3)
    · exact absurd (this.trans c2) (by rw [a2]; exact a3)
    · rw [← a2, ← c2]; exact this
  · intro j o1 x hj hz hx
    obtain ⟨k, p, k1, k2, k3⟩ := hφ j x hx o1 hj
    have hpz : p.frz = false := by
      rcases k3 with ⟨a1, a2⟩ | ⟨a1, a2, a3, a4⟩
      · rw [a2, hl] at k1; cases k1; exact SObj.frz_of ho
      · rw [a4]; exact hz
    exact d.own k p x k1 hpz k2
  · intro x hx hX
    by_cases hxb : x = b'
    · subst hxb
      rcases d.own h o x hl (SObj.frz_of ho) ((e4 x).2 rfl) with h1 | h1
      · omega
      · exact absurd h1 hX
    · rw [hwo x hxb]; exact d.frame x hx hX
theorem DenH.put [Val] (d : DenH ρ X w0 look fresh w) {h : Nat} {o : SObj} (hl : look h = some o) (ho : o.isAbs = false) {b : Nat} (hb : ρ h = some b)
    {o' : SObj} (ho' : o'.isAbs = false) {w' : World} {obj' : Obj} (hw : w'.heap[b]? = some obj') (hwo : Go.Proofs.YtnoiijjkjcklpaaGreat.Only b w w') (hden : ObjDen ρ o' obj')
    {look' : Look} (hlook : ∀ j, look' j = if j = h then some o' else look j) : DenH ρ X w0 look' fresh w' := by
  refine d.turn hl ho hb ho' (Env.le_refl _) hb (.inl rfl) hw hwo.block hwo.size hwo.os hwo.tape hwo.output hden (fun j => ?_) (fun j hj => d.newName hj)
  rw [hlook]
  by_cases e : j = h <;> simp [e]
theorem DenH.alloc [Val] (d : DenH ρ X w0 look fresh w) {h : Nat} {o : SObj} (ho : o.isAbs = false) {obj : Obj} {ρ' : Env} (hle : ρ.le ρ') (hh : fresh h) (hb : ρ' h = some w.heap.size) (hden : ObjDen ρ' o obj)
    {look' : Look} (hlook : ∀ j, look' j = if j = h then some o else look j) {fresh' : Nat → Prop} (hf : ∀ j, fresh' j → ρ' j = none) : DenH ρ' X w0 look' fresh' (w.alloc obj) := by
  have hl := d.fresh_look hh
  obtain ⟨φ, d⟩ := d
  have hold : ∀ x, x < w.heap.size → (w.alloc obj).heap[x]? = w.heap[x]? := fun x hx => Below.heap_alloc w obj x hx
  refine ⟨fun j x => if j = h then x = w.heap.size else φ j x, ?_, ?_, ?_, hf, ?_, by have := d.size; simp; omega, d.os, d.tape, d.output⟩
  · intro j o1 hj
    rw [hlook] at hj
    by_cases e : j = h
    · rw [if_pos e] at hj
      injection hj with hj; subst hj; subst e
      exact ⟨_, hb, OD.mk ho ⟨fun x => by simp, obj, World.alloc_heap_new w obj, hden⟩⟩
    · rw [if_neg e] at hj
      obtain ⟨c, f1, f2⟩ := d.obj j o1 hj
      refine ⟨c, hle _ _ f1, OD.keep hle (w := w) ?_ (by simpa [e] using f2)⟩
      intro x hx
      simp only [e, if_false] at hx
      exact hold x (f2.lt hx)
  · intro j j' o1 o2 x hj hj' hz hx hx'
    rw [hlook] at hj hj'
    by_cases e : j = h <;> by_cases e' : j' = h
    · rw [e, e']
    · rw [if_pos e] at hx; rw [if_neg e'] at hx' hj'
      obtain ⟨c, f1, f2⟩ := d.obj j' o2 hj'
      have := f2.lt hx'; omega
    · rw [if_neg e] at hx hj; rw [if_pos e'] at hx'
      obtain ⟨c, f1, f2⟩ := d.obj j o1 hj
      have := f2.lt hx; omega
    · rw [if_neg e] at hx hj; rw [if_neg e'] at hx' hj'
      exact d.apart j j' o1 o2 x hj hj' hz hx hx'
  · intro j o1 x hj hz hx
    rw [hlook] at hj
    by_cases e : j = h
    · rw [if_pos e] at hx; subst hx; exact .inl d.size
    · rw [if_neg e] at hx hj; exact d.own j o1 x hj hz hx
  · intro x hx hX
    rw [hold x (by have := d.size; omega)]; exact d.frame x hx hX
theorem DenH.junk [Val] (d : DenH ρ X w0 look fresh w) {w' : World} (hn : Go.Cd.New w w') : DenH ρ X w0 look fresh w' := by
  obtain ⟨φ, d⟩ := d
  refine ⟨φ, fun j o e => ?_, d.apart, d.own, d.new, fun x hx hX => (hn.block x (by have := d.size; omega)).trans (d.frame x hx hX), Nat.le_trans d.size hn.size, hn.os.trans d.os, hn.tape.trans d.tape, hn.output.trans d.output⟩
  obtain ⟨b, h1, h2⟩ := d.obj j o e
  exact ⟨b, h1, h2.keep (Env.le_refl _) fun x hx => hn.block x (h2.lt hx)⟩
theorem DenH.start [Val] (w : World) (X : Nat → Prop) : DenH (fun _ => none) X w (fun _ => none) (fun _ => True) w :=
  ⟨fun _ _ => False, ⟨fun _ _ e => (by cases e), fun _ _ _ _ _ e => (by cases e), fun _ _ _ e => (by cases e), fun _ _ => rfl, fun _ _ _ => rfl, Nat.le_refl _, rfl, rfl, rfl⟩⟩
end

abbrev Ents := List (Nat × SObj)
def find : Ents → Nat → Option SObj
  | [], _ => none
  | (k, o) :: r, h => match Nat.beq k h with
    | true => some o
    | false => find r h
def upd : Ents → Nat → SObj → Ents
  | [], h, o => [(h, o)]
  | (k, x) :: r, h, o => match Nat.beq k h with
    | true => (k, o) :: r
    | false => (k, x) :: upd r h o
def del : Ents → Nat → Ents
  | [], _ => []
  | (k, x) :: r, h => match Nat.beq k h with
    | true => del r h
    | false => (k, x) :: del r h
theorem beq_iff [Val] {a b : Nat} : Nat.beq a b = true ↔ a = b := ⟨Nat.eq_of_beq_eq_true, fun h => by subst h; exact Nat.beq_refl a⟩
theorem beq_false [Val] {a b : Nat} (h : Nat.beq a b = false) : a ≠ b := Nat.ne_of_beq_eq_false h
theorem find_cons [Val] (k : Nat) (o : SObj) (r : Ents) (h : Nat) : find ((k, o) :: r) h = if h = k then some o else find r h := by
  show (match Nat.beq k h with | true => some o | false => find r h) = _
  split
  · rename_i e; rw [beq_iff] at e; rw [if_pos e.symm]
  · rename_i e; rw [if_neg (Ne.symm (beq_false e))]
theorem find_upd [Val] : ∀ (r : Ents) (h : Nat) (o : SObj) (j : Nat), find (upd r h o) j = if j = h then some o else find r j
  | [], h, o, j => by rw [upd, find_cons]
  | (k, x) :: r, h, o, j => by
    unfold upd
    split
    · rename_i e; rw [beq_iff] at e; subst e
      rw [find_cons, find_cons]
      split <;> rfl
    · rename_i e
      have e' := beq_false e
      rw [find_cons, find_cons, find_upd r h o j]
      by_cases a : j = k
      · subst a; simp [e']
      · simp [a]
theorem find_del [Val] : ∀ (r : Ents) (h j : Nat), find (del r h) j = if j = h then none else find r j
  | [], h, j => by simp [del, find]
  | (k, x) :: r, h, j => by
    unfold del
    split
    · rename_i e; rw [beq_iff] at e; subst e
      rw [find_cons, find_del r k j]
      split <;> rfl
    · rename_i e
      have e' := beq_false e
      rw [find_cons, find_cons, find_del r h j]
      by_cases a : j = k
      · subst a; simp [e']
      · simp [a]
end Go.Sx
/- The operations on symbolic values: memory, structs, arrays. -/
namespace Go.Sx
set_option linter.unusedSimpArgs false
set_option linter.unusedVariables false
open Go Go.RowKit Go.Cd Go.Proofs.YtnoiijjkjcklpaaGreat

structure TyI where
  desc : TypeDesc
  size : Nat
  bytes : Nat
  zero : Option SV
def tyOf (P : Program) (t : TypeId) : Option TyI :=
  match P.info? t with
  | none => none
  | some i => match P.underlying t with
    | none => none
    | some d => some ⟨d, i.size, i.bytes, match i.zero with | some z => ofVal z | none => none⟩
theorem tyOf_spec [Val] {P : Program} {t : TypeId} {ti : TyI} (h : tyOf P t = some ti) : ∃ i, P.info? t = some i ∧ P.underlying t = some ti.desc ∧ i.size = ti.size ∧ i.bytes = ti.bytes ∧ ∀ s, ti.zero = some s → ∃ z, i.zero = some z ∧ ofVal z = some s := by
  unfold tyOf at h
  split at h
  · cases h
  · rename_i i hi
    split at h
    · cases h
    · rename_i d hd
      injection h with h; subst h
      refine ⟨i, hi, hd, rfl, rfl, fun s hs => ?_⟩
      dsimp only at hs
      split at hs
      · rename_i z hz; exact ⟨z, hz, hs⟩
      · cases hs

inductive Upd where
  | ins (h : Nat) (o : SObj)
  | set (h : Nat) (o : SObj)
  | del (h : Nat)
def Upd.look : Upd → Look → Look
  | .ins h o, l => fun j => if j = h then some o else l j
  | .set h o, l => fun j => if j = h then some o else l j
  | .del h, l => fun j => if j = h then none else l j
def looks : List Upd → Look → Look
  | [], l => l
  | u :: us, l => looks us (u.look l)
abbrev R := Option (SV × List Upd × List Nat)

def Good [Val] (P : Program) (ρ : Env) (X : Nat → Prop) (w0 : World) (look : Look) (fresh : Nat → Prop) (id : Nat) (r : SV × List Upd × List Nat) (sem : Sem Next) (w : World) : Prop :=
  ∃ nx val ρ' w', sem.run P w = .ok nx w' ∧ (nx = .value val ∨ nx = .skip ∧ val = undef) ∧ ρ.le ρ' ∧ r.1.Den ρ' val ∧ DenH ρ' X w0 (looks r.2.1 look) (fun j => fresh j ∧ j ≠ id ∧ j ≠ id + 1) w'
section
variable {P : Program} {ρ : Env} {X : Nat → Prop} {w0 w : World} {look : Look} {fresh : Nat → Prop} {id : Nat}
theorem Good.same [Val] {s : SV} {us : List Nat} {sem : Sem Next} {val : Value} (d : DenH ρ X w0 look fresh w) (hr : sem.run P w = .ok (.value val) w) (hv : s.Den ρ val) : Good P ρ X w0 look fresh id (s, [], us) sem w :=
  ⟨_, val, ρ, w, hr, .inl rfl, Env.le_refl _, hv, d.fresh_mono fun _ h => h.1⟩
theorem Good.value [Val] {s : SV} {us : List Nat} {sem : Sem Value} {val : Value} (d : DenH ρ X w0 look fresh w) (hr : sem.run P w = .ok val w) (hv : s.Den ρ val) : Good P ρ X w0 look fresh id (s, [], us) (do pure (.value (← sem))) w :=
  Good.same d (by simp only [Sem.run_bind, hr, Result.andThen_ok, Sem.run_pure]) hv
theorem Good.new [Val] {o : SObj} {obj : Obj} {s : SV} {us : List Nat} {sem : Sem Value} {val : Value} (d : DenH ρ X w0 look fresh w) (hid : fresh id) (ho : o.isAbs = false) (hr : sem.run P w = .ok val (w.alloc obj)) (hden : ObjDen ρ o obj)
    (hv : s.Den (ρ.put id w.heap.size) val) : Good P ρ X w0 look fresh id (s, [.ins id o], us) (do pure (.value (← sem))) w := by
  have hle : ρ.le (ρ.put id w.heap.size) := Env.le_put _ (d.newName hid)
  refine ⟨_, val, ρ.put id w.heap.size, w.alloc obj, by simp only [Sem.run_bind, hr, Result.andThen_ok, Sem.run_pure], .inl rfl, hle, hv, ?_⟩
  refine d.alloc ho hle hid (Env.put_same _ _ _) (hden.mono hle) (fun j => rfl) fun j hj => ?_
  rw [Env.put_other _ _ hj.2.1]; exact d.newName hj.1
theorem Good.put [Val] {h : Nat} {o o' : SObj} {us : List Nat} {sem : Sem Unit} {b : Nat} {obj' : Obj} {w' : World} (d : DenH ρ X w0 look fresh w) (hl : look h = some o) (ho : o.isAbs = false) (hb : ρ h = some b) (ho' : o'.isAbs = false)
    (hr : sem.run P w = .ok () w') (hw : w'.heap[b]? = some obj') (hwo : Only b w w') (hden : ObjDen ρ o' obj') : Good P ρ X w0 look fresh id (.tup [], [.set h o'], us) (do sem; pure .skip) w := by
  refine ⟨_, undef, ρ, w', by simp only [Sem.run_bind, hr, Result.andThen_ok, Sem.run_pure], .inr ⟨rfl, rfl⟩, Env.le_refl _, ?_, ?_⟩
  · simp only [SV.Den]; exact ⟨[], by simp, rfl⟩
  · exact (d.put hl ho hb ho' hw hwo hden (fun j => rfl)).fresh_mono fun _ h => h.1
end

def nth : List SV → Nat → Option SV
  | [], _ => none
  | x :: _, 0 => some x
  | _ :: l, n + 1 => nth l n
theorem nth_eq [Val] : ∀ (l : List SV) (i : Nat), nth l i = l[i]?
  | [], _ => by simp [nth]
  | _ :: _, 0 => by simp [nth]
  | _ :: l, i + 1 => by simp [nth, nth_eq l i]
def setN : List SV → Nat → SV → List SV
  | [], _, _ => []
  | _ :: l, 0, v => v :: l
  | x :: l, n + 1, v => x :: setN l n v
theorem setN_eq [Val] : ∀ (l : List SV) (i : Nat) (v : SV), setN l i v = l.set i v
  | [], _, _ => by simp [setN]
  | _ :: _, 0, _ => by simp [setN]
  | _ :: l, i + 1, v => by simp [setN, setN_eq l i v]
def dropN : Nat → List SV → List SV
  | 0, l => l
  | _ + 1, [] => []
  | n + 1, _ :: l => dropN n l
theorem dropN_eq [Val] : ∀ (n : Nat) (l : List SV), dropN n l = l.drop n
  | 0, _ => by simp [dropN]
  | _ + 1, [] => by simp [dropN]
  | n + 1, _ :: l => by simp [dropN, dropN_eq n l]
def takeN : Nat → List SV → Option (List SV)
  | 0, _ => some []
  | _ + 1, [] => none
  | n + 1, x :: l => match takeN n l with
    | some r => some (x :: r)
    | none => none
theorem takeN_eq [Val] : ∀ {n : Nat} {l r : List SV}, takeN n l = some r → r = l.take n ∧ n ≤ l.length
  | 0, _, _, h => by simp [takeN] at h; subst h; simp
  | _ + 1, [], _, h => by simp [takeN] at h
  | n + 1, x :: l, r, h => by
    unfold takeN at h
    split at h
    · rename_i r' hr
      injection h with h; subst h
      obtain ⟨e1, e2⟩ := takeN_eq hr
      subst e1
      exact ⟨by simp, by simpa using e2⟩
    · cases h
def over : List SV → Nat → List SV → List SV
  | [], _, _ => []
  | l, _, [] => l
  | _ :: l, 0, v :: vs => v :: over l 0 vs
  | x :: l, n + 1, vs => x :: over l n vs
theorem over_get [Val] : ∀ (l : List SV) (o : Nat) (vs : List SV) (i : Nat), o + vs.length ≤ l.length → (over l o vs)[i]? = if o ≤ i ∧ i < o + vs.length then vs[i - o]? else l[i]?
  | [], o, vs, i, h => by
    have : vs = [] := by cases vs with
      | nil => rfl
      | cons _ _ => simp at h
    subst this
    simp [over]
  | x :: l, o, [], i, h => by
    have e : over (x :: l) o [] = x :: l := by cases o <;> rfl
    rw [e, if_neg (by simp)]
  | x :: l, 0, v :: vs, i, h => by
    have e : over (x :: l) 0 (v :: vs) = v :: over l 0 vs := rfl
    rw [e]
    cases i with
    | zero => simp
    | succ i =>
      rw [List.getElem?_cons_succ, over_get l 0 vs i (by simp at h ⊢; omega)]
      by_cases hc : i < vs.length
      · rw [if_pos (by omega), if_pos (by simp; omega)]; simp
      · rw [if_neg (by omega), if_neg (by simp; omega)]; simp
  | x :: l, n + 1, v :: vs, i, h => by
    have e : over (x :: l) (n + 1) (v :: vs) = x :: over l n (v :: vs) := rfl
    rw [e]
    cases i with
    | zero => simp
    | succ i =>
      rw [List.getElem?_cons_succ, over_get l n (v :: vs) i (by simp at h ⊢; omega)]
      by_cases hc : n ≤ i ∧ i < n + (v :: vs).length
      · rw [if_pos hc, if_pos (by omega)]; congr 1; omega
      · rw [if_neg hc, if_neg (by omega)]; simp
theorem over_length [Val] : ∀ (l : List SV) (o : Nat) (vs : List SV), (over l o vs).length = l.length
  | [], _, _ => by simp [over]
  | _ :: _, o, [] => by cases o <;> simp [over]
  | _ :: l, 0, _ :: vs => by simp [over, over_length l 0 vs]
  | _ :: l, n + 1, v :: vs => by simp [over, over_length l n (v :: vs)]
theorem denL_over [Val] {ρ : Env} {l vs : List SV} {xs ys : List Value} (h : SV.DenL ρ l xs) (h' : SV.DenL ρ vs ys) {o : Nat} (hl : o + vs.length ≤ l.length) : SV.DenL ρ (over l o vs) (spl xs.toArray o ys).toList := by
  have e1 := denL_length h
  have e2 := denL_length h'
  refine denL_of_get (by simp [spl_size, over_length, e1]) fun i s e => ?_
  rw [over_get l o vs i hl] at e
  have hs := spl_get ys xs.toArray o i (by simp; omega)
  rw [← Array.getElem?_toList] at hs
  rw [hs, e2]
  by_cases hc : o ≤ i ∧ i < o + vs.length
  · rw [if_pos hc] at e ⊢
    exact denL_get h' e
  · rw [if_neg hc] at e ⊢
    simpa using denL_get h e
def allScalar : List SV → Bool
  | [] => true
  | x :: l => match x.scalar with
    | true => allScalar l
    | false => false
theorem allScalar_iff [Val] : ∀ {l : List SV}, allScalar l = true → ∀ x ∈ l, x.scalar = true
  | [], _, x, hx => by simp at hx
  | y :: l, h, x, hx => by
    unfold allScalar at h
    split at h
    · rename_i e
      rcases List.mem_cons.1 hx with rfl | hx
      · exact e
      · exact allScalar_iff h x hx
    · cases h
theorem allScalar_den [Val] {ρ : Env} : ∀ {l : List SV} {vs : List Value}, allScalar l = true → SV.DenL ρ l vs → ∀ v ∈ vs, v.oneCell' = true
  | [], _, _, h, v, hv => by rw [denL_nil] at h; subst h; simp at hv
  | x :: l, _, ha, h, v, hv => by
    obtain ⟨y, ys, rfl, h1, h2⟩ := denL_cons.1 h
    unfold allScalar at ha
    split at ha
    · rename_i e
      rcases List.mem_cons.1 hv with rfl | hv
      · exact (scalar_oneCell e h1).1
      · exact allScalar_den ha h2 v hv
    · cases ha
def cellsOf : SV → Option (List SV)
  | .agg l => match allScalar l with
    | true => some l
    | false => none
  | .any => none
  | .tup _ => none
  | v => some [v]
theorem cellsOf_den [Val] {ρ : Env} {s : SV} {v : Value} {l : List SV} (h : cellsOf s = some l) (hv : s.Den ρ v) : ∃ vs, SV.DenL ρ l vs ∧ v.cells = vs.toArray ∧ ∀ x ∈ vs, x.oneCell' = true := by
  have key : s.scalar = true → l = [s] → ∃ vs, SV.DenL ρ l vs ∧ v.cells = vs.toArray ∧ ∀ x ∈ vs, x.oneCell' = true := fun hs e => by
    subst e
    obtain ⟨e1, e2⟩ := scalar_oneCell hs hv
    exact ⟨[v], denL_cons'.2 ⟨hv, by simp⟩, by rw [e2], fun x hx => by simp at hx; subst hx; exact e1⟩
  cases s with
  | agg m =>
    simp only [cellsOf] at h
    split at h
    · rename_i e
      injection h with h; subst h
      simp only [SV.Den] at hv
      obtain ⟨vs, h1, rfl⟩ := hv
      exact ⟨vs, h1, rfl, allScalar_den e h1⟩
    · cases h
  | any => simp [cellsOf] at h
  | tup _ => simp [cellsOf] at h
  | _ => exact key rfl (by simpa [cellsOf] using h.symm)
def objCells : SObj → Option (List SV)
  | .cells l _ => some l
  | .row l _ _ _ => some l
  | _ => none
theorem objCells_den [Val] {ρ : Env} {o : SObj} {obj : Obj} {l : List SV} (h : objCells o = some l) (hd : ObjDen ρ o obj) : o.isAbs = false ∧ ∃ vs ex T, SV.DenL ρ l vs ∧ obj = .cells (vs ++ ex).toArray T := by
  cases o with
  | cells m T =>
    simp only [objCells, Option.some.injEq] at h; subst h
    obtain ⟨vs, h1, rfl⟩ := hd
    exact ⟨rfl, vs, [], T, h1, by simp⟩
  | row m c e T =>
    simp only [objCells, Option.some.injEq] at h; subst h
    obtain ⟨vs, ex, κ, h1, _, _, rfl⟩ := hd
    exact ⟨rfl, vs, ex, T, h1, rfl⟩
  | _ => cases h
theorem objCells_abs [Val] {o : SObj} {l : List SV} (h : objCells o = some l) : o.isAbs = false := by
  cases o <;> first | rfl | cases h
def objOver : SObj → Nat → List SV → Option SObj
  | .cells l T, o, vs => match Nat.ble (o + vs.length) l.length with
    | true => some (.cells (over l o vs) T)
    | false => none
  | .row l c e T, o, vs => match Nat.ble (o + vs.length) l.length with
    | true => some (.row (over l o vs) c e T)
    | false => none
  | _, _, _ => none
theorem spl_append [Val] (xs ex ys : List Value) (o : Nat) (h : o + ys.length ≤ xs.length) : spl (xs ++ ex).toArray o ys = ((spl xs.toArray o ys).toList ++ ex).toArray := by
  apply Array.ext_getElem?
  intro i
  rw [spl_get _ _ _ _ (by simp; omega)]
  have hs := spl_get ys xs.toArray o i (by simpa using h)
  rw [← Array.getElem?_toList] at hs
  have hz : (spl xs.toArray o ys).toList.length = xs.length := by simp [spl_size]
  rw [List.getElem?_toArray, List.getElem?_toArray, List.getElem?_append, List.getElem?_append, hz]
  rw [List.getElem?_toArray] at hs
  by_cases hc : o ≤ i ∧ i < o + ys.length
  · rw [if_pos hc, if_pos (by omega), hs, if_pos hc]
  · rw [if_neg hc]
    by_cases hi : i < xs.length
    · rw [if_pos hi, if_pos hi, hs, if_neg hc]
    · rw [if_neg hi, if_neg hi]
theorem objOver_den [Val] {ρ : Env} {o o' : SObj} {obj : Obj} {i : Nat} {l : List SV} {ys : List Value} (h : objOver o i l = some o') (hd : ObjDen ρ o obj) (hl : SV.DenL ρ l ys) :
    o.isAbs = false ∧ o'.isAbs = false ∧ ∃ c T, obj = .cells c T ∧ i + ys.length ≤ c.size ∧ ObjDen ρ o' (.cells (spl c i ys) T) := by
  have e2 := denL_length hl
  cases o with
  | cells m T =>
    simp only [objOver] at h
    split at h
    · rename_i hb
      injection h with h; subst h
      have hb := Nat.le_of_ble_eq_true hb
      obtain ⟨vs, h1, rfl⟩ := hd
      have e1 := denL_length h1
      exact ⟨rfl, rfl, vs.toArray, T, rfl, by simp; omega, (spl vs.toArray i ys).toList, denL_over h1 hl hb, by simp⟩
    · cases h
  | row m c e T =>
    simp only [objOver] at h
    split at h
    · rename_i hb
      injection h with h; subst h
      have hb := Nat.le_of_ble_eq_true hb
      obtain ⟨vs, ex, κ, h1, h2, h3, rfl⟩ := hd
      have e1 := denL_length h1
      refine ⟨rfl, rfl, (vs ++ ex).toArray, T, rfl, by simp; omega, (spl vs.toArray i ys).toList, ex, κ, denL_over h1 hl hb, h2, by simpa [spl_size] using h3, ?_⟩
      rw [spl_append _ _ _ _ (by omega)]
    · cases h
  | _ => cases h
theorem rangeAt_of_cells [Val] {w : World} {b o : Nat} {c : Array Value} {T : TypeId} {cs : List Value} (hw : w.heap[b]? = some (.cells c T)) (h : ∀ j v, cs[j]? = some v → c[o + j]? = some v) : w.rangeAt b o cs := fun j v e => cell_of_heap hw (h j v e)

def gather (k : IntKind) (l : List SV) (o s : Nat) : Nat → Option Tms
  | 0 => some .nil
  | n + 1 => match nth l o with
    | some (.int k' x) => match decide (k' = k) with
      | true => match gather k l (o + s) s n with
        | some r => some (.cons x.tm r)
        | none => none
      | false => none
    | _ => none
theorem gather_spec [Val] {k : IntKind} {l : List SV} : ∀ {n o s : Nat} {r : Tms}, gather k l o s n = some r → r.v.length = n ∧ ∀ j, j < n → ∃ x : SI, l[o + s * j]? = some (.int k x) ∧ r.v[j]? = some x.v
  | 0, _, _, _, h => by simp [gather] at h; subst h; simp [Tms.v]
  | n + 1, o, s, r, h => by
    unfold gather at h
    split at h
    · rename_i k' x hx
      split at h
      · rename_i hk
        have hk := of_decide_eq_true hk; subst hk
        split at h
        · rename_i r' hr
          injection h with h; subst h
          obtain ⟨h1, h2⟩ := gather_spec hr
          refine ⟨by simp [Tms.v, h1], fun j hj => ?_⟩
          cases j with
          | zero => exact ⟨x, by rw [nth_eq] at hx; simpa using hx, by simp [Tms.v]⟩
          | succ j =>
            obtain ⟨y, e1, e2⟩ := h2 j (by omega)
            exact ⟨y, by rw [← e1]; congr 1; rw [Nat.mul_succ]; omega, by simpa [Tms.v] using e2⟩
        · cases h
      · cases h
    · cases h
def sLoad (P : Program) (look : Look) (t : TypeId) (p : SV) : R :=
  match p with
  | .ptr h off => match tyOf P t with
    | none => none
    | some ti => match look h with
      | none => none
      | some o => match objCells o with
        | none => none
        | some l => match off with
          | .lit m => match ti.desc.isRow with
            | true => match takeN ti.size (dropN m l) with
              | some xs => some (.agg xs, [], [h])
              | none => none
            | false => match nth l m with
              | some x => some (x, [], [h])
              | none => none
          | .idx b s n i => match ti.desc.isRow with
            | true => none
            | false => match nth l b with
              | some (.int k _) => match gather k l b s n with
                | some r => some (.int k (.sym (.sel r i)), [], [h])
                | none => none
              | _ => none
          | .any => none
          | .raw _ _ _ _ _ => none
  | _ => none
section
variable {P : Program} {ρ : Env} {X : Nat → Prop} {w0 w : World} {look : Look} {fresh : Nat → Prop} {id : Nat} {r : SV × List Upd × List Nat}
theorem run_loadAt_cell [Val] {t : TypeId} {ti : TypeDesc} {b m : Nat} {v : Value} (hu : P.underlying t = some ti) (hd : ti.isRow = false) (hc : w.cell? ⟨b, m, none⟩ = some v) : (Instr.loadAt t (.pointer (some ⟨b, m, none⟩))).run P w = .ok v w := by
  have hagg : (isAgg t).run P w = .ok false w := by
    unfold isAgg
    rw [Sem.run_bind, run_underlying hu w]
    cases ti <;> simp_all [TypeDesc.isRow]
  simp [Instr.loadAt, Instr.sureAddr, loadVar, hagg, run_load, hc]
theorem sLoad_den [Val] {t : TypeId} {p : SV} {pv : Value} {s : SV} {us : List Upd} {ts : List Nat} (d : DenH ρ X w0 look fresh w) (hp : p.Den ρ pv) (h : sLoad P look t p = some (s, us, ts)) : ∃ v, (Instr.loadAt t pv).run P w = .ok v w ∧ s.Den ρ v ∧ us = [] := by
  unfold sLoad at h
  split at h <;> try cases h
  rename_i hh off
  split at h <;> try cases h
  rename_i ti hti
  obtain ⟨i, hi, hu, hsz, _, _⟩ := tyOf_spec hti
  split at h <;> try cases h
  rename_i o ho
  split at h <;> try cases h
  rename_i l hl
  simp only [SV.Den] at hp
  obtain ⟨b, m, hb, hm, rfl⟩ := hp
  obtain ⟨b', obj, hb', hobj, hden⟩ := d.at ho (objCells_abs hl)
  obtain rfl : b' = b := by rw [hb] at hb'; injection hb' with e; exact e.symm
  obtain ⟨_, vs, ex, T, hvs, rfl⟩ := objCells_den hl hden
  split at h
  · rename_i m'
    simp only [SOff.Den] at hm; subst hm
    split at h
    · rename_i hrow
      split at h <;> try (cases h; done)
      rename_i xs hxs
      obtain ⟨e1, e2⟩ := takeN_eq hxs
      rw [dropN_eq] at e1 e2
      have hlen := denL_length hvs
      have hys := denL_take ti.size (denL_drop m hvs)
      rw [← e1] at hys
      cases h
      refine ⟨.agg ((vs.drop m).take ti.size).toArray, run_loadAt_mid w b' m t _ ti.desc (rangeAt_of_cells hobj fun j v hj => ?_) hu hrow ?_, ?_, rfl⟩
      · rw [List.getElem?_take] at hj
        split at hj
        · rw [List.getElem?_drop] at hj
          simp only [List.getElem?_toArray, List.getElem?_append]
          have := (List.getElem?_eq_some_iff.1 hj).1
          rw [if_pos this]; exact hj
        · cases hj
      · rw [hi]
        simp at e2
        simp [hsz]; omega
      · simp only [SV.Den]; exact ⟨_, hys, rfl⟩
    · rename_i hrow
      split at h <;> try (cases h; done)
      rename_i x hx
      rw [nth_eq] at hx
      obtain ⟨v, hv, hxv⟩ := denL_get hvs hx
      cases h
      refine ⟨v, run_loadAt_cell hu hrow (cell_of_heap hobj (v := v) ?_), hxv, rfl⟩
      have := (List.getElem?_eq_some_iff.1 hv).1
      simp only [List.getElem?_toArray, List.getElem?_append, if_pos this]; exact hv
  · rename_i bb s n ii
    obtain ⟨rfl, h0i, hlt⟩ := hm
    split at h <;> try cases h
    rename_i hrow
    split at h <;> try cases h
    rename_i k x0 hx0
    split at h <;> try (cases h; done)
    rename_i g hg
    obtain ⟨h1, h2⟩ := gather_spec hg
    obtain ⟨y, e1, e2⟩ := h2 ii.v.toNat hlt
    obtain ⟨v, hv, hyv⟩ := denL_get hvs e1
    simp only [SV.Den] at hyv; subst hyv
    cases h
    refine ⟨.int k y.v, run_loadAt_cell hu hrow (cell_of_heap hobj (v := .int k y.v) ?_), ?_, rfl⟩
    · have := (List.getElem?_eq_some_iff.1 hv).1
      simp only [List.getElem?_toArray, List.getElem?_append, if_pos this]; exact hv
    · simp only [SV.Den, SI.v, Tm.v]
      rw [List.getD_eq_getElem?_getD, e2]; rfl
  · cases h
  · cases h
theorem sLoad_ok [Val] {t : TypeId} {p : SV} {pv : Value} (d : DenH ρ X w0 look fresh w) (hp : p.Den ρ pv) (h : sLoad P look t p = some r) : Good P ρ X w0 look fresh id r (do pure (.value (← Instr.loadAt t pv))) w := by
  obtain ⟨s, us, ts⟩ := r
  obtain ⟨v, h1, h2, rfl⟩ := sLoad_den d hp h
  exact Good.value d h1 h2
end
end Go.Sx
/- The operations on symbolic values: stores, new variables, structs and arrays by value, places. -/
namespace Go.Sx
set_option linter.unusedSimpArgs false
set_option linter.unusedVariables false
open Go Go.RowKit Go.Cd Go.Proofs.YtnoiijjkjcklpaaGreat
section
variable {P : Program} {ρ : Env} {X : Nat → Prop} {w0 w : World} {look : Look} {fresh : Nat → Prop} {id : Nat} {r : SV × List Upd × List Nat}

def scatter (k : IntKind) (x : SI) (i : Tm) (s : Nat) : Nat → Nat → Nat → List SV → Option (List SV)
  | 0, _, _, l => some l
  | n + 1, o, j, l => match nth l o with
    | some (.int k' y) => match decide (k' = k) with
      | true => scatter k x i s n (o + s) (j + 1) (setN l o (.int k (SI.ofTm (mkIte (.cmp .eq i (.lit j)) x.tm y.tm))))
      | false => none
    | _ => none
theorem scatter_den [Val] {k : IntKind} {x : SI} {i : Tm} {s : Nat} (h0 : 0 ≤ i.v) : ∀ {n o j : Nat} {l l' : List SV} {vs : List Value}, scatter k x i s n o j l = some l' → SV.DenL ρ l vs →
    SV.DenL ρ l' (if j ≤ i.v.toNat ∧ i.v.toNat < j + n then vs.set (o + s * (i.v.toNat - j)) (.int k x.v) else vs) ∧ (j ≤ i.v.toNat → i.v.toNat < j + n → o + s * (i.v.toNat - j) < vs.length)
  | 0, o, j, l, l', vs, h, hd => by
    simp only [scatter, Option.some.injEq] at h; subst h
    rw [if_neg (by omega)]
    exact ⟨hd, by omega⟩
  | n + 1, o, j, l, l', vs, h, hd => by
    unfold scatter at h
    split at h <;> try cases h
    rename_i k' y hy
    split at h <;> try cases h
    rename_i hk
    have hk := of_decide_eq_true hk; subst hk
    rw [nth_eq] at hy
    obtain ⟨v, hv, hyv⟩ := denL_get hd hy
    simp only [SV.Den] at hyv; subst hyv
    have ho : o < vs.length := (List.getElem?_eq_some_iff.1 hv).1
    have hd1 : SV.DenL ρ (setN l o (.int k' (SI.ofTm (mkIte (.cmp .eq i (.lit j)) x.tm y.tm)))) (vs.set o (.int k' (if i.v.toNat = j then x.v else y.v))) := by
      rw [setN_eq]; refine denL_set hd ?_ o
      simp only [SV.Den, SI.ofTm_v, mkIte_v, Tm.v, Bm.v, COp.f, SI.tm_v]
      by_cases e : i.v.toNat = j
      · have e2 : i.v = (j : Int) := by omega
        simp [e, e2]
      · have e2 : i.v ≠ (j : Int) := by omega
        simp [e, e2]
    obtain ⟨h1, h2⟩ := scatter_den h0 h hd1
    generalize i.v.toNat = q at *
    by_cases hij : q = j
    · subst hij
      rw [if_neg (by omega)] at h1
      rw [if_pos (by omega)]
      simp only [if_true] at h1
      exact ⟨by simpa using h1, fun _ _ => by simpa using ho⟩
    · have hset : vs.set o (.int k' y.v) = vs := by
        apply List.ext_getElem?
        intro m
        rw [List.getElem?_set]
        split
        · rename_i e; subst e; rw [hv]
        · rfl
      simp only [hij, if_false, hset] at h1 h2
      by_cases hc : j ≤ q ∧ q < j + (n + 1)
      · rw [if_pos (by omega)] at h1
        rw [if_pos hc]
        have e : o + s + s * (q - (j + 1)) = o + s * (q - j) := by
          have : q - j = (q - (j + 1)) + 1 := by omega
          rw [this, Nat.mul_add]; omega
        rw [e] at h1 h2
        exact ⟨h1, fun _ _ => h2 (by omega) (by omega)⟩
      · rw [if_neg (by omega)] at h1
        rw [if_neg hc]
        exact ⟨h1, fun _ _ => by omega⟩
def objScatter (o : SObj) (k : IntKind) (x : SI) (b s n : Nat) (i : Tm) : Option SObj :=
  match o with
  | .cells l T => match scatter k x i s n b 0 l with
    | some l' => some (.cells l' T)
    | none => none
  | .row l c e T => match scatter k x i s n b 0 l with
    | some l' => some (.row l' c e T)
    | none => none
  | _ => none
def sStore (P : Program) (look : Look) (t : TypeId) (p x : SV) : R :=
  match p with
  | .ptr h off => match tyOf P t with
    | none => none
    | some ti => match look h with
      | none => none
      | some o => match off with
        | .lit m => match cellsOf x with
          | none => none
          | some vs => match Nat.beq vs.length ti.size with
            | false => none
            | true => match objOver o m vs with
              | some o' => some (.tup [], [.set h o'], [h])
              | none => none
        | .idx b s n i => match x with
          | .int k v => match Nat.beq 1 ti.size with
            | false => none
            | true => match objScatter o k v b s n i with
              | some o' => some (.tup [], [.set h o'], [h])
              | none => none
          | _ => none
        | .any => none
        | .raw _ _ _ _ _ => none
  | _ => none
theorem storeVar_cells [Val] (t : TypeId) (a : Addr) (v : Value) : storeVar t a v = storeVar t a (.agg v.cells) := rfl
theorem set_spl [Val] (vs : List Value) (ex : List Value) (o : Nat) (v : Value) (h : o < vs.length) : spl (vs ++ ex).toArray o [v] = (vs.set o v ++ ex).toArray := by
  apply Array.ext_getElem?
  intro i
  rw [spl_get _ _ _ _ (by simp; omega), List.getElem?_toArray, List.getElem?_toArray, List.getElem?_append, List.getElem?_append, List.length_set, List.getElem?_set]
  by_cases hc : o ≤ i ∧ i < o + [v].length
  · have : i = o := by simp at hc; omega
    subst this
    simp [h]
  · rw [if_neg hc]
    have : o ≠ i := by simp at hc; omega
    simp [this]
theorem sStore_ok [Val] {t : TypeId} {p x : SV} {pv xv : Value} (d : DenH ρ X w0 look fresh w) (hp : p.Den ρ pv) (hx : x.Den ρ xv) (h : sStore P look t p x = some r) : Good P ρ X w0 look fresh id r (do Instr.storeAt t pv xv; pure .skip) w := by
  unfold sStore at h
  split at h <;> try cases h
  rename_i hh off
  split at h <;> try cases h
  rename_i ti hti
  obtain ⟨i, hi, hu, hsz, _, _⟩ := tyOf_spec hti
  split at h <;> try cases h
  rename_i o ho
  simp only [SV.Den] at hp
  obtain ⟨b, m, hb, hm, rfl⟩ := hp
  have run : ∀ (c : Array Value) (T : TypeId), w.heap[b]? = some (.cells c T) → m + xv.cells.size ≤ c.size → xv.cells.size = ti.size → (∀ v ∈ xv.cells.toList, v.oneCell' = true) →
      (Instr.storeAt t (.pointer (some ⟨b, m, none⟩)) xv).run P w = .ok () (w.setCells b m xv.cells.toList) := fun c T hc hle hs h1 => by
    simp only [Instr.storeAt, Instr.sureAddr, Sem.run_bind, Sem.run_pure, Result.andThen_ok]
    rw [storeVar_cells]
    exact run_storeVar_mid w b m t _ (there_at hc hle) (by rw [hi]; simp [hsz, hs]) (Array.all_eq_true_iff_forall_mem.2 fun v hv => h1 v (by simpa using hv))
  split at h
  · rename_i m'
    simp only [SOff.Den] at hm; subst hm
    split at h <;> try cases h
    rename_i vs hvs
    split at h <;> try cases h
    rename_i hbq
    have hbq := Nat.eq_of_beq_eq_true hbq
    split at h <;> try cases h
    rename_i o' ho'
    obtain ⟨ys, hys, hcs, hone⟩ := cellsOf_den hvs hx
    obtain ⟨b', obj, hb', hobj, hden⟩ := d.at ho (by cases o <;> first | rfl | cases ho')
    obtain rfl : b' = b := by rw [hb] at hb'; injection hb' with e; exact e.symm
    obtain ⟨a1, a2, c, T, rfl, hle, hnew⟩ := objOver_den ho' hden hys
    have hl := denL_length hys
    refine Good.put d ho a1 hb a2 (run c T hobj (by rw [hcs]; simpa using hle) (by rw [hcs]; simp; omega) (by rw [hcs]; simpa using hone)) (by rw [hcs]; exact setCells_at _ _ _ _ hobj) (only_setCells _ _ _ _) hnew
  · rename_i bb s n ii
    obtain ⟨rfl, h0i, hlt⟩ := hm
    split at h <;> try cases h
    rename_i k v
    simp only [SV.Den] at hx; subst hx
    split at h <;> try cases h
    rename_i hbq
    have hbq := Nat.eq_of_beq_eq_true hbq
    split at h <;> try cases h
    rename_i o' ho'
    have fin : ∀ (l l' : List SV) (vs ex : List Value) (T : TypeId), o.isAbs = false → o'.isAbs = false → ObjDen ρ o (.cells (vs ++ ex).toArray T) → w.heap[b]? = some (.cells (vs ++ ex).toArray T) → scatter k v ii s n bb 0 l = some l' → SV.DenL ρ l vs →
        (SV.DenL ρ l' (vs.set (bb + s * ii.v.toNat) (.int k v.v)) → ObjDen ρ o' (.cells (vs.set (bb + s * ii.v.toNat) (.int k v.v) ++ ex).toArray T)) →
        Good P ρ X w0 look fresh id (.tup [], [.set hh o'], [hh]) (do Instr.storeAt t (.pointer (some ⟨b, bb + s * ii.v.toNat, none⟩)) (.int k v.v); pure .skip) w := by
      intro l l' vs ex T a1 a2 hden hobj hsc hvs hfin
      obtain ⟨h1, h2⟩ := scatter_den h0i hsc hvs
      rw [if_pos (by omega)] at h1
      have h2 := h2 (by omega) (by omega)
      simp only [Nat.sub_zero] at h1 h2
      refine Good.put d ho a1 hb a2 (run _ T hobj (by simp [Value.cells]; omega) (by simp [Value.cells]; omega) (by simp [Value.cells, Value.oneCell'])) (setCells_at _ _ _ _ hobj) (only_setCells _ _ _ _) ?_
      have : (Value.int k v.v).cells.toList = [.int k v.v] := rfl
      rw [this, set_spl _ _ _ _ h2]
      exact hfin h1
    unfold objScatter at ho'
    split at ho' <;> try cases ho'
    · rename_i l T
      split at ho' <;> try cases ho'
      rename_i l' hl'
      obtain ⟨b', obj, hb', hobj, hden⟩ := d.at ho rfl
      obtain rfl : b' = b := by rw [hb] at hb'; injection hb' with e; exact e.symm
      have hden0 := hden
      obtain ⟨vs, hvs, rfl⟩ := hden
      have e : vs.toArray = (vs ++ []).toArray := by simp
      rw [e] at hobj hden0
      exact fin l l' vs [] T rfl rfl hden0 hobj hl' hvs fun hf => ⟨_, hf, by simp⟩
    · rename_i l cc ee T
      split at ho' <;> try cases ho'
      rename_i l' hl'
      obtain ⟨b', obj, hb', hobj, hden⟩ := d.at ho rfl
      obtain rfl : b' = b := by rw [hb] at hb'; injection hb' with e; exact e.symm
      have hden0 := hden
      obtain ⟨vs, ex, κ, hvs, hκ, hlen, rfl⟩ := hden
      exact fin l l' vs ex T rfl rfl hden0 hobj hl' hvs fun hf => ⟨_, ex, κ, hf, hκ, by simpa using hlen, rfl⟩
  · cases h
  · cases h

theorem cells_den [Val] {s : SV} {z : Value} (hz : ofVal z = some s) : SV.DenL ρ s.cells z.cells.toList := by
  unfold ofVal at hz
  split at hz
  · rename_i cs
    split at hz <;> try cases hz
    rename_i l hl
    exact ofScalars_den hl
  · rename_i cs
    split at hz <;> try cases hz
    rename_i l hl
    exact denL_cons'.2 ⟨(by simp only [SV.Den]; exact ⟨_, ofScalars_den hl, by simp⟩), by simp⟩
  · rename_i h1 h2
    have hd := ofScalar_den (ρ := ρ) hz
    have e1 : s.cells = [s] := by
      cases s <;> first | rfl | skip
      exfalso
      unfold ofScalar at hz
      split at hz <;> cases hz
    have e2 : z.cells = #[z] := by
      cases z <;> first | rfl | skip
      exact absurd rfl (h1 _)
    rw [e1, e2]
    exact denL_cons'.2 ⟨hd, by simp⟩
def sAlloc (P : Program) (id : Nat) (t : TypeId) : R :=
  match tyOf P t with
  | none => none
  | some ti => match ti.zero with
    | none => none
    | some z => some (.ptr id (.lit 0), [.ins id (.cells z.cells t)], [])
theorem sAlloc_ok [Val] {t : TypeId} (d : DenH ρ X w0 look fresh w) (hid : fresh id) (h : sAlloc P id t = some r) : Good P ρ X w0 look fresh id r (do pure (.value (← Instr.alloc t true (.tuple #[])))) w := by
  unfold sAlloc at h
  split at h <;> try cases h
  rename_i ti hti
  obtain ⟨i, hi, hu, hsz, _, hz⟩ := tyOf_spec hti
  split at h <;> try cases h
  rename_i s hs
  obtain ⟨z, hz1, hz2⟩ := hz s hs
  have hrun : (Instr.alloc t true (.tuple #[])).run P w = .ok (.pointer (some ⟨w.heap.size, 0, none⟩)) (w.alloc (.cells z.cells t)) := by
    simp [Instr.alloc, zeroValue, typeInfo, hi, hz1, newVar, newRow]
  refine Good.new d hid rfl hrun ⟨z.cells.toList, cells_den hz2, by simp⟩ ?_
  simp only [SV.Den]
  exact ⟨_, 0, Env.put_same _ _ _, rfl, rfl⟩
def sBox (id : Nat) (t : TypeId) (x : SV) : R :=
  match cellsOf x with
  | none => none
  | some l => some (.ptr id (.lit 0), [.ins id (.cells l t)], [])
theorem sBox_ok [Val] {t : TypeId} {x : SV} {xv : Value} (d : DenH ρ X w0 look fresh w) (hid : fresh id) (hx : x.Den ρ xv) (h : sBox id t x = some r) : Good P ρ X w0 look fresh id r (do pure (.value (← Instr.box t xv))) w := by
  unfold sBox at h
  split at h <;> try cases h
  rename_i l hl
  obtain ⟨ys, hys, hcs, hone⟩ := cellsOf_den hl hx
  have hrun : (Instr.box t xv).run P w = .ok (.pointer (some ⟨w.heap.size, 0, none⟩)) (w.alloc (.cells ys.toArray t)) := by
    simp [Instr.box, newVar, newRow, hcs]
  refine Good.new d hid rfl hrun ⟨ys, hys, rfl⟩ ?_
  simp only [SV.Den]
  exact ⟨_, 0, Env.put_same _ _ _, rfl, rfl⟩

theorem zip_fold [Val] (o : Nat) : ∀ (l : List Value) (k : Nat) (c : Array Value), (l.zipIdx k).foldl (fun cs (x : Value × Nat) => cs.setIfInBounds (o + x.2) x.1) c = spl c (o + k) l
  | [], _, _ => rfl
  | v :: r, k, c => by
    simp only [List.zipIdx_cons, List.foldl_cons, spl]
    rw [zip_fold o r (k + 1)]
    rfl
theorem zip_fold' [Val] (c vs : Array Value) (o : Nat) : vs.zipIdx.foldl (fun cs (x : Value × Nat) => cs.setIfInBounds (o + x.2) x.1) c = spl c o vs.toList := by
  rw [← Array.foldl_toList, Array.toList_zipIdx]
  exact zip_fold o vs.toList 0 c
def fillS (place : Nat → Option (Nat × Nat)) : List SV → List (Nat × SV) → Option (List SV)
  | cells, [] => some cells
  | cells, (i, v) :: rest => match place i with
    | none => none
    | some (o, n) => match cellsOf v with
      | none => none
      | some vs => match Nat.beq vs.length n with
        | false => none
        | true => match Nat.ble (o + vs.length) cells.length with
          | false => none
          | true => fillS place (over cells o vs) rest
def DenPs [Val] (ρ : Env) : List (Nat × SV) → List (Nat × Value) → Prop
  | [], ps => ps = []
  | (i, s) :: l, ps => ∃ v ps', ps = (i, v) :: ps' ∧ s.Den ρ v ∧ DenPs ρ l ps'
theorem fillS_den [Val] {place : Nat → Option (Nat × Nat)} : ∀ {ps : List (Nat × SV)} {qs : List (Nat × Value)} {cells l : List SV} {c : Array Value}, fillS place cells ps = some l → DenPs ρ ps qs → SV.DenL ρ cells c.toList →
    ∃ c', Instr.fill place c qs = some c' ∧ SV.DenL ρ l c'.toList ∧ c'.size = c.size
  | [], _, cells, l, c, h, hp, hc => by
    simp only [DenPs] at hp; subst hp
    simp only [fillS, Option.some.injEq] at h; subst h
    exact ⟨c, rfl, hc, rfl⟩
  | (i, s) :: ps, _, cells, l, c, h, hp, hc => by
    obtain ⟨v, qs', rfl, h1, h2⟩ := hp
    unfold fillS at h
    split at h <;> try cases h
    rename_i o n hpl
    split at h <;> try cases h
    rename_i vs hvs
    split at h <;> try cases h
    rename_i hbq
    have hbq := Nat.eq_of_beq_eq_true hbq
    split at h <;> try cases h
    rename_i hbl
    have hbl := Nat.le_of_ble_eq_true hbl
    obtain ⟨ys, hys, hcs, _⟩ := cellsOf_den hvs h1
    have e1 := denL_length hys
    have e2 := denL_length hc
    have hov : SV.DenL ρ (over cells o vs) (spl c o ys).toList := by
      have := denL_over hc hys hbl
      simpa using this
    obtain ⟨c', f1, f2, f3⟩ := fillS_den h h2 hov
    refine ⟨c', ?_, f2, by rw [f3, spl_size]⟩
    unfold Instr.fill
    simp only [hpl]
    have e3 : v.cells.size = ys.length := by rw [hcs]; simp
    have e4 : c.size = cells.length := by simpa using e2
    rw [zip_fold', hcs]
    simp only
    rw [if_neg]
    · exact f1
    · simp; omega
def sizesOf (P : Program) : List Field → Option (List (Nat × Nat))
  | [] => some []
  | f :: fs => match tyOf P f.type with
    | none => none
    | some ti => match sizesOf P fs with
      | none => none
      | some r => some ((f.offset, ti.size) :: r)
theorem run_sizeOf' [Val] {t : TypeId} {ti : TyI} (h : tyOf P t = some ti) (w : World) : (sizeOf t).run P w = .ok ti.size w := by
  obtain ⟨i, hi, _, hs, _, _⟩ := tyOf_spec h
  simp [sizeOf, typeInfo, hi, hs]
theorem sizesOf_run [Val] {w : World} : ∀ {fs : List Field} {l : List (Nat × Nat)}, sizesOf P fs = some l → (fs.mapM fun f => do pure (f.offset, ← sizeOf f.type) : Sem (List (Nat × Nat))).run P w = .ok l w
  | [], _, h => by simp only [sizesOf, Option.some.injEq] at h; subst h; simp
  | f :: fs, _, h => by
    unfold sizesOf at h
    split at h <;> try cases h
    rename_i ti hti
    split at h <;> try cases h
    rename_i r hr
    rw [List.mapM_cons]
    simp only [Sem.run_bind, run_sizeOf' hti, Result.andThen_ok, Sem.run_pure, sizesOf_run hr]
def nthP : List (Nat × Nat) → Nat → Option (Nat × Nat)
  | [], _ => none
  | x :: _, 0 => some x
  | _ :: l, n + 1 => nthP l n
theorem nthP_eq [Val] : ∀ (l : List (Nat × Nat)) (i : Nat), nthP l i = l[i]?
  | [], _ => by simp [nthP]
  | _ :: _, 0 => by simp [nthP]
  | _ :: l, i + 1 => by simp [nthP, nthP_eq l i]
def sBuild (P : Program) (t : TypeId) (parts : List (Nat × SV)) : R :=
  match tyOf P t with
  | none => none
  | some ti => match ti.zero with
    | none => none
    | some z => match ti.desc with
      | .struct fields => match sizesOf P fields.toList with
        | none => none
        | some pl => match fillS (nthP pl) z.cells parts with
          | some l => some (.agg l, [], [])
          | none => none
      | .array _ elem => match tyOf P elem with
        | none => none
        | some te => match fillS (fun i => some (i * te.size, te.size)) z.cells parts with
          | some l => some (.agg l, [], [])
          | none => none
      | _ => none
theorem sBuild_ok [Val] {t : TypeId} {ps : List (Nat × SV)} {qs : Array (Nat × Value)} (d : DenH ρ X w0 look fresh w) (hp : DenPs ρ ps qs.toList) (h : sBuild P t ps = some r) : Good P ρ X w0 look fresh id r (do pure (.value (← Instr.build t qs))) w := by
  unfold sBuild at h
  split at h <;> try cases h
  rename_i ti hti
  obtain ⟨i, hi, hu, hsz, _, hz⟩ := tyOf_spec hti
  split at h <;> try cases h
  rename_i s hs
  obtain ⟨z, hz1, hz2⟩ := hz s hs
  have hc : SV.DenL ρ s.cells z.cells.toList := cells_den hz2
  split at h <;> try cases h
  · rename_i fields hdesc
    split at h <;> try cases h
    rename_i pl hpl
    split at h <;> try cases h
    rename_i l hl
    obtain ⟨c', f1, f2, _⟩ := fillS_den hl hp hc
    rw [hdesc] at hu
    refine Good.value d (val := .agg c') ?_ (by simp only [SV.Den]; exact ⟨_, f2, by simp⟩)
    have hm : (fields.mapM fun f => do pure (f.offset, ← sizeOf f.type) : Sem (Array (Nat × Nat))).run P w = .ok pl.toArray w := by
      rw [Array.mapM_eq_mapM_toList]
      simp only [Sem.run_map, sizesOf_run hpl, Result.andThen_ok]
    have e : (fun i => pl.toArray[i]?) = nthP pl := by funext i; rw [nthP_eq]; simp
    simp only [Instr.build, Sem.run_bind, zeroValue, typeInfo, hi, hz1, run_program, Result.andThen_ok, Sem.run_pure, run_underlying hu, hm]
    rw [e, f1]
    simp
  · rename_i n elem hdesc
    split at h <;> try cases h
    rename_i te hte
    split at h <;> try cases h
    rename_i l hl
    obtain ⟨c', f1, f2, _⟩ := fillS_den hl hp hc
    rw [hdesc] at hu
    refine Good.value d (val := .agg c') ?_ (by simp only [SV.Den]; exact ⟨_, f2, by simp⟩)
    simp only [Instr.build, Sem.run_bind, zeroValue, typeInfo, hi, hz1, run_program, Result.andThen_ok, Sem.run_pure, run_underlying hu, run_sizeOf' hte]
    rw [f1]
    simp
end
end Go.Sx
