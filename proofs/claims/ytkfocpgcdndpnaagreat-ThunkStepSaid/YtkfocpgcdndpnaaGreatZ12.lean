/- Parts of the proof: Sx29, SxMem1, SxMem2, SxMap. -/
import Derived.Test.YtkfocpgcdndpnaaGreatZ11
import Derived.Test.YtkfocpgcdndpnaaGreatZ10
/- The state at the head of a loop, as it is in every round: made of the first two rounds (it is looked at afterwards). -/
namespace Go.Sx
set_option linter.unusedSimpArgs false
set_option linter.unusedVariables false
open Go Go.RowKit Go.Cd Go.Proofs.YtkfocpgcdndpnaaGreat Go.MapKept

/-- A run, one way, to a state. -/
def Tree.first {α β : Type} (fs : Facts) (f : Facts → α → Option β) : Tree α → Option β
  | .leaf a => f fs a
  | .split b x y => match known fs b with
    | some true => Tree.first fs f x
    | some false => Tree.first fs f y
    | none => match Tree.first (addF fs b true) f x with
      | some r => some r
      | none => Tree.first (addF fs b false) f y
  | .need p x => Tree.first (addF fs p true) f x
  | .stuck _ => none
def runHead (P : Program) (e : Ext) (fn : FuncId) (k : Nat) : Nat → Facts → SState → Option SState
  | 0, _, _ => none
  | n + 1, fs, S => match sDone S with
    | true => none
    | false => Tree.first fs (fun fs' S' => match Nat.beq S'.top.fn fn, isLoopHd S'.top.todo, Nat.beq S'.top.todo.length k with
      | true, true, true => some S'
      | _, _, _ => runHead P e fn k n fs' S') (sstep P e S)
/-- The first head of a loop of a function. -/
def runHead0 (P : Program) (e : Ext) (fn : FuncId) : Nat → Facts → SState → Option SState
  | 0, _, _ => none
  | n + 1, fs, S => match sDone S with
    | true => none
    | false => Tree.first fs (fun fs' S' => match Nat.beq S'.top.fn fn, isLoopHd S'.top.todo with
      | true, true => some S'
      | _, _ => runHead0 P e fn n fs' S') (sstep P e S)

/-! Joining two states: the next letter is counted. -/
def jnT (a b : Tm) (k : IntKind) (n : Nat) : Tm × Nat := match Tm.same a b with
  | true => (a, n)
  | false => (.var k n, n + 1)
def jnSI (a b : SI) (k : IntKind) (n : Nat) : SI × Nat := match Tm.same a.tm b.tm with
  | true => (a, n)
  | false => (.sym (.var k n), n + 1)
def jnSB (a b : SB) (n : Nat) : SB × Nat := match Bm.same a.bm b.bm with
  | true => (a, n)
  | false => (.sym (.var n), n + 1)
def jnSN (a b : SN) (n : Nat) : SN × Nat := match a, b with
  | .lit i, .lit j => match Nat.beq i j with
    | true => (a, n)
    | false => (.sym (.var .i64 n), n + 1)
  | .sym s, .sym t => match Tm.same s t with
    | true => (a, n)
    | false => (.sym (.var .i64 n), n + 1)
  | .lit _, .sym _ => (.sym (.var .i64 n), n + 1)
  | .sym _, .lit _ => (.sym (.var .i64 n), n + 1)
  | a, _ => (a, n)
def jnOff (a b : SOff) (n : Nat) : SOff × Nat := match a, b with
  | .lit i, .lit j => match Nat.beq i j with
    | true => (a, n)
    | false => (.any, n)
  | .idx b s l i, .idx c t k j => match Nat.beq b c, Nat.beq s t, Nat.beq l k, Tm.same i j with
    | true, true, true, true => (.idx b s l i, n)
    | true, true, true, false => (.any, n)
    | _, _, _, _ => (.any, n)
  | _, _ => (.any, n)
mutual
def jnV : Nat → SV → SV → Nat → SV × Nat
  | _, .bool a, .bool b, n => match jnSB a b n with
    | (c, m) => (.bool c, m)
  | _, .int k a, .int j b, n => match decide (k = j) with
    | true => match jnSI a b k n with
      | (c, m) => (.int k c, m)
    | false => (.any, n)
  | _, .str s, .str t, n => match decide (s = t) with
    | true => (.str s, n)
    | false => (.any, n)
  | _, .nilp, .nilp, n => (.nilp, n)
  | _, .ptr h o, .ptr _ p, n => match jnOff o p n with
    | (q, m) => (.ptr h q, m)
  | _, .nils, .nils, n => (.nils, n)
  | _, .sl h o l c, .sl _ p k d, n => match jnOff o p n with
    | (q, m) => match jnSN l k m with
      | (l', m1) => match jnSN c d m1 with
        | (c', m2) => (.sl h q l' c', m2)
  | _, .nilm, .nilm, n => (.nilm, n)
  | _, .map h, .map _, n => (.map h, n)
  | _, .nilf, .nilf, n => (.nilf, n)
  | _, .fn f xs ys, .fn _ _ _, n => (.fn f xs ys, n)
  | _, .nili, .nili, n => (.nili, n)
  | d + 1, .agg l, .agg k, n => match jnL d l k n with
    | some (r, m) => (.agg r, m)
    | none => (.any, n)
  | d + 1, .tup l, .tup k, n => match jnL d l k n with
    | some (r, m) => (.tup r, m)
    | none => (.any, n)
  | _, _, _, n => (.any, n)
def jnL : Nat → List SV → List SV → Nat → Option (List SV × Nat)
  | _, [], [], n => some ([], n)
  | 0, _, _, _ => none
  | d + 1, x :: l, y :: k, n => match jnV d x y n with
    | (z, m) => match jnL d l k m with
      | some (r, q) => some (z :: r, q)
      | none => none
  | _, _, _, _ => none
end
def jnTs : Tms → Tms → Nat → Tms × Nat
  | .cons a l, .cons b k, n => match jnT a b .i64 n with
    | (c, m) => match jnTs l k m with
      | (r, q) => (.cons c r, q)
  | _, _, n => (.nil, n)
def jnRs : List Nat → List Nat → List Nat
  | h :: l, _ :: k => h :: jnRs l k
  | _, _ => []
def jnO (a b : SObj) (n : Nat) : SObj × Nat := match a, b with
  | .cells l T, .cells k _ => match jnL 1000 l k n with
    | some (r, m) => (.cells r T, m)
    | none => (a, n)
  | .row l c e T, .row k _ _ _ => match jnL 1000 l k n with
    | some (r, m) => (.row r c e T, m)
    | none => (a, n)
  | .abs t x r, .abs _ y s => match jnTs x y n with
    | (z, m) => (.abs t z (jnRs r s), m)
  | a, _ => (a, n)
/-- Which names of the first state stand for which of the second one: by the values in the frames. -/
def jnEs (τ : List (Nat × Nat)) (npin : Nat) (e : Ents) : Ents → Nat → Ents × Nat
  | [], n => ([], n)
  | (h, o) :: l, n => match (match Nm.f ⟨npin, τ⟩ h with
    | some j => match find e j with
      | some o' => jnO o o' n
      | none => (o, n)
    | none => match find e h with
      | some o' => jnO o o' n
      | none => (o, n)) with
    | (o', m) => match jnEs τ npin e l m with
      | (r, q) => ((h, o') :: r, q)
def jnF (a b : SFrame) (n : Nat) : SFrame × Nat := match jnL 2000 a.tmps b.tmps n with
  | some (r, m) => ({ a with tmps := r }, m)
  | none => (a, n)
def jnFs : List SFrame → List SFrame → Nat → List SFrame × Nat
  | a :: l, b :: k, n => match jnF a b n with
    | (c, m) => match jnFs l k m with
      | (r, q) => (c :: r, q)
  | l, _, n => (l, n)
/-- The state of every round; its letters are lv, lv + 1, .. -/
def joinS (lv npin : Nat) (A B : SState) : SState := match jnF A.top B.top lv with
  | (t, n) => match jnFs A.stk B.stk n with
    | (s, m) => match jnEs (guess (2 ^ 60) npin A B).τ npin B.ents A.ents m with
      | (e, _) => { A with top := t, stk := s, ents := e, log := [] }
def badS : SState := { top := { fn := 0, tmps := [], todo := [], defers := [], mode := .run, kind := .normal, round := none }, stk := [], ents := [], next := 0, hi := 0, log := [] }
/-- The state at the first head of a loop of fn that a run comes to, as it is in every round. -/
def headInv (P : Program) (e : Ext) (fn : FuncId) (lv npin n : Nat) (fs : Facts) (S : SState) : SState := match runHead0 P e fn n fs S with
  | some A => match runHead P e fn A.top.todo.length n fs A with
    | some B => joinS lv npin A B
    | none => badS
  | none => badS
def Tree.every {α β : Type} (fs : Facts) (f : Facts → α → List β) : Tree α → List β
  | .leaf a => f fs a
  | .split b x y => match known fs b with
    | some true => Tree.every fs f x
    | some false => Tree.every fs f y
    | none => Tree.every (addF fs b true) f x ++ Tree.every (addF fs b false) f y
  | .need p x => Tree.every (addF fs p true) f x
  | .stuck _ => []
/-- All heads of a loop that are come to next. -/
def runHeads (P : Program) (e : Ext) (fn : FuncId) (k : Nat) : Nat → Facts → SState → List SState
  | 0, _, _ => []
  | n + 1, fs, S => match sDone S with
    | true => []
    | false => Tree.every fs (fun fs' S' => match Nat.beq S'.top.fn fn, isLoopHd S'.top.todo, Nat.beq S'.top.todo.length k with
      | true, true, true => [S']
      | _, _, _ => runHeads P e fn k n fs' S') (sstep P e S)
def joinAll (lv npin : Nat) : Nat → SState → List SState → SState × Nat
  | i, A, [] => (A, i)
  | i, A, B :: l => joinAll lv npin (i + 1) (joinS (lv + 100 * i) npin A B) l
def joinR (P : Program) (e : Ext) (fn : FuncId) (lv npin n : Nat) : Nat → Nat → SState → SState
  | 0, _, A => A
  | r + 1, i, A => match joinAll lv npin i A (runHeads P e fn A.top.todo.length n [] A) with
    | (B, j) => joinR P e fn lv npin n r j B
def skipHeads (P : Program) (e : Ext) (fn : FuncId) (n : Nat) : Nat → SState → Option SState
  | 0, A => some A
  | k + 1, A => match runHead P e fn A.top.todo.length n [] A with
    | some B => skipHeads P e fn n k B
    | none => none
/-- The state of every round, out of all ways of some rounds, behind some arrivals that are passed over. -/
def headInvG (P : Program) (e : Ext) (fn : FuncId) (lv npin n : Nat) (fs : Facts) (skip rounds : Nat) (S : SState) : SState := match runHead0 P e fn n fs S with
  | some A => match skipHeads P e fn n skip A with
    | some B => { joinR P e fn lv npin n rounds 0 B with log := [] }
    | none => badS
  | none => badS
/-- The state at the first arrival. -/
def headFst (P : Program) (e : Ext) (fn : FuncId) (n : Nat) (fs : Facts) (S : SState) : SState := match runHead0 P e fn n fs S with
  | some A => { A with log := [] }
  | none => badS
end Go.Sx
/- Maps with keys that are whole numbers, of unknown size; parts of memory by tags. -/
namespace Go.Sx
set_option linter.unusedSimpArgs false
set_option linter.unusedVariables false
open Go Go.RowKit Go.Cd Go.Proofs.YtkfocpgcdndpnaaGreat Go.MapKept

/-- The value under a key. -/
def keyIs (x : Int) : Value → Bool
  | .int .i64 n => decide (n = x)
  | _ => false
def getE (x : Int) : List MapEntry → Option (Nat × Value)
  | [] => none
  | e :: es => match keyIs x e.key with
    | true => some (0, e.val)
    | false => (getE x es).map fun p => (p.1 + 1, p.2)
def IntKeys (es : List MapEntry) : Prop := ∀ e ∈ es, ∃ n, e.key = .int .i64 n
theorem findNow_eq {k0 : IntKind} {x : Int} : ∀ {es : List MapEntry} (i : Nat), IntKeys es → Instr.findNow (.int k0) (.int .i64 x) es i = some ((getE x es).map fun p => (i + p.1, p.2))
  | [], i, _ => rfl
  | e :: es, i, h => by
    obtain ⟨n, hn⟩ := h e (List.mem_cons_self ..)
    have ih := findNow_eq (k0 := k0) (x := x) (es := es) (i + 1) fun e he => h e (List.mem_cons_of_mem _ he)
    unfold getE
    rw [hn]
    by_cases c : n = x
    · subst c
      have hk : keyIs n (.int .i64 n) = true := by simp [keyIs]
      rw [hk]
      simp [Instr.findNow, Instr.sameNow, hn]
    · have hk : keyIs x (.int .i64 n) = false := by simp [keyIs, c]
      have hb : (x == n) = false := by simpa using fun q : x = n => c q.symm
      rw [hk]
      have e0 : Instr.findNow (.int k0) (.int .i64 x) (e :: es) i = Instr.findNow (.int k0) (.int .i64 x) es (i + 1) := by
        obtain ⟨key, val, born⟩ := e
        dsimp only at hn; subst hn
        simp [Instr.findNow, Instr.sameNow, hb]
      rw [e0, ih, Option.map_map]
      congr 2
      funext p
      simp; omega
section
variable {P : Program} {ρ : Env} {X : Nat → Prop} {w0 w : World} {look : Look} {fresh : Nat → Prop}
/-- A part of memory is seen in another way. -/
theorem DenH.seen [Val] (d : DenH ρ X w0 look fresh w) {h : Nat} {o o' : SObj} (hl : look h = some o) (hz' : o'.frz = o.frz) {ρ' : Env} (hle : ρ.le ρ') (hO : ∀ b F, ρ h = some b → OD ρ o b F w → OD ρ' o' b F w) {look' : Look} (hlook : ∀ j, look' j = if j = h then some o' else look j) {fresh' : Nat → Prop} (hf : ∀ j, fresh' j → ρ' j = none) : DenH ρ' X w0 look' fresh' w := by
  obtain ⟨φ, d⟩ := d
  have hex : ∀ j p, look' j = some p → ∃ q, look j = some q ∧ q.frz = p.frz := fun j p e => by
    rw [hlook] at e
    split at e
    · rename_i hj; cases e; subst hj; exact ⟨o, hl, hz'.symm⟩
    · exact ⟨p, e, rfl⟩
  refine ⟨φ, fun j p e => ?_, fun j j' p p' x e e' hz hx hx' => ?_, fun j p x e hz hx => ?_, hf, d.frame, d.size, d.os, d.tape, d.output⟩
  · rw [hlook] at e
    split at e
    · rename_i hj
      cases e; subst hj
      obtain ⟨b, h1, h2⟩ := d.obj j o hl
      exact ⟨b, hle _ _ h1, hO b _ h1 h2⟩
    · obtain ⟨b, h1, h2⟩ := d.obj j p e
      exact ⟨b, hle _ _ h1, h2.keep hle fun _ _ => rfl⟩
  · obtain ⟨q, hq, z⟩ := hex j p e
    obtain ⟨q', hq', _⟩ := hex j' p' e'
    exact d.apart j j' q q' x hq hq' (z.trans hz) hx hx'
  · obtain ⟨q, hq, z⟩ := hex j p e
    exact d.own j q x hq (z.trans hz) hx
/-- A part of memory changes. -/
theorem DenH.changed [Val] (d : DenH ρ X w0 look fresh w) {h : Nat} {o o' : SObj} (hl : look h = some o) (hoz : o.frz = false) (hoz' : o'.frz = false) {ρ' : Env} (hle : ρ.le ρ') {w' : World} (hO : ∀ b F, ρ h = some b → OD ρ o b F w → OD ρ' o' b F w' ∧ ∀ x, ¬ F x → w'.heap[x]? = w.heap[x]?) (hs : w'.heap.size = w.heap.size) (hos : w'.os = w.os) (ht : w'.tape = w.tape) (hout : w'.output = w.output)
    {look' : Look} (hlook : ∀ j, look' j = if j = h then some o' else look j) {fresh' : Nat → Prop} (hf : ∀ j, fresh' j → ρ' j = none) : DenH ρ' X w0 look' fresh' w' := by
  obtain ⟨φ, d⟩ := d
  obtain ⟨b0, hb0, hO0⟩ := d.obj h o hl
  obtain ⟨hN, hfr⟩ := hO b0 _ hb0 hO0
  have hex : ∀ j p, look' j = some p → ∃ q, look j = some q ∧ q.frz = p.frz := fun j p e => by
    rw [hlook] at e
    split at e
    · rename_i hj; cases e; subst hj; exact ⟨o, hl, hoz.trans hoz'.symm⟩
    · exact ⟨p, e, rfl⟩
  refine ⟨φ, fun j p e => ?_, fun j j' p p' x e e' hz hx hx' => ?_, fun j p x e hz hx => ?_, hf, fun x hx hX => ?_, by rw [hs]; exact d.size, hos.trans d.os, ht.trans d.tape, hout.trans d.output⟩
  · rw [hlook] at e
    split at e
    · rename_i hj
      cases e; subst hj
      exact ⟨b0, hle _ _ hb0, hN⟩
    · rename_i hj
      obtain ⟨b, h1, h2⟩ := d.obj j p e
      exact ⟨b, hle _ _ h1, h2.keep hle fun x hx => hfr x fun hx' => hj (d.apart h j o p x hl e hoz hx' hx).symm⟩
  · obtain ⟨q, hq, z⟩ := hex j p e
    obtain ⟨q', hq', _⟩ := hex j' p' e'
    exact d.apart j j' q q' x hq hq' (z.trans hz) hx hx'
  · obtain ⟨q, hq, z⟩ := hex j p e
    exact d.own j q x hq (z.trans hz) hx
  · by_cases c : φ h x
    · rcases d.own h o x hl hoz c with h1 | h1
      · omega
      · exact absurd h1 hX
    · rw [hfr x c]; exact d.frame x hx hX
end

/-! The pages of a memory. -/
/-- What a memory holds: which pages there are, their rights, their bytes. -/
structure MM where
  dom : Int → Bool
  rt : Int → Int
  bt : Int → Int → Int
  keys : List Int
/-- The rights and bytes are of their kinds; the pages' numbers, increasing. -/
structure MM.Ok (m : MM) : Prop where
  rt : ∀ k, IntKind.i64.wrap (m.rt k) = m.rt k
  bt : ∀ k j, IntKind.u8.wrap (m.bt k j) = m.bt k j
  sorted : m.keys.Pairwise (· < ·)
  mem : ∀ k, m.dom k = true ↔ k ∈ m.keys
  few : m.keys.length ≤ 2000
  num : ∀ k ∈ m.keys, 0 ≤ k ∧ k < 16777216
/-- The number of the page that stands at a place. -/
def MM.num (m : MM) (i : Int) : Int := m.keys.getD i.toNat 0
/-- How many pages have lesser numbers. -/
def MM.pos (m : MM) (k : Int) : Nat := (m.keys.filter fun x => decide (x < k)).length
/-- The cells of a page. -/
def PageAt (rt : Int) (bt : Int → Int) (cs : List Value) : Prop := cs.length = 257 ∧ cs[0]? = some (.int .i64 rt) ∧ ∀ j : Nat, j < 256 → cs[1 + j]? = some (.int .u8 (bt j))
/-- A map of pages at block b, its footprint F; some of the pages are named. -/
def PMapP (m : MM) (keys : List Int) (blks : List Nat) (b : Nat) (F : Nat → Prop) (w : World) : Prop :=
  ∃ (es : List MapEntry) (clock : Nat) (pb : Int → Nat), w.heap[b]? = some (.map es.toArray clock) ∧ IntKeys es ∧
    (∀ k, (getE k es).map (·.2) = if m.dom k then some (.pointer (some ⟨pb k, 0, none⟩)) else none) ∧
    (∀ k, m.dom k = true → ∃ cs T, w.heap[pb k]? = some (.cells cs.toArray T) ∧ PageAt (m.rt k) (m.bt k) cs) ∧
    (∀ k k', m.dom k = true → m.dom k' = true → pb k = pb k' → k = k') ∧ (∀ k, m.dom k = true → pb k ≠ b) ∧
    (∀ x, F x ↔ x = b ∨ ∃ k, m.dom k = true ∧ x = pb k) ∧
    ∀ (i : Nat) (k : Int) (c : Nat), keys[i]? = some k → blks[i]? = some c → m.dom k = true ∧ pb k = c
def pmapA (m : MM) (keys : List Int) (blks : List Nat) : Abs where
  P := PMapP m keys blks
  stable := fun b F w w' hw h => by
    obtain ⟨es, clock, pb, h1, h2, h3, h4, h5, h6, h7, h8⟩ := h
    refine ⟨es, clock, pb, ?_, h2, h3, fun k hk => ?_, h5, h6, h7, h8⟩
    · rw [hw b ((h7 b).2 (.inl rfl))]; exact h1
    · rw [hw (pb k) ((h7 _).2 (.inr ⟨k, hk, rfl⟩))]; exact h4 k hk
  lt := fun b F w h x hx => by
    obtain ⟨es, clock, pb, h1, h2, h3, h4, h5, h6, h7, h8⟩ := h
    rcases (h7 x).1 hx with rfl | ⟨k, hk, rfl⟩
    · exact (Array.getElem?_eq_some_iff.1 h1).1
    · obtain ⟨cs, T, h9, _⟩ := h4 k hk
      exact (Array.getElem?_eq_some_iff.1 h9).1
theorem pmap_weak (m : MM) (ks ks' : List Int) (rs rs' : List Nat) (b : Nat) (F : Nat → Prop) (w : World) (h : (pmapA m (ks ++ ks') (rs ++ rs')).P b F w) : (pmapA m ks rs).P b F w := by
  obtain ⟨es, clock, pb, h1, h2, h3, h4, h5, h6, h7, h8⟩ := h
  refine ⟨es, clock, pb, h1, h2, h3, h4, h5, h6, h7, fun i k c hk hc => h8 i k c ?_ ?_⟩
  · rw [List.getElem?_append_left (List.getElem?_eq_some_iff.1 hk).1]; exact hk
  · rw [List.getElem?_append_left (List.getElem?_eq_some_iff.1 hc).1]; exact hc
/-- A struct Mem at block b: its maps. -/
def MemP (rs : List Nat) (b : Nat) (F : Nat → Prop) (w : World) : Prop := (∀ x, F x ↔ x = b) ∧ ∃ (c0 c1 c2 : Value) (T : TypeId), w.heap[b]? = some (.cells #[c0, c1, c2] T) ∧ (∀ r, rs[0]? = some r → c1 = .map (some r)) ∧ ∀ r, rs[1]? = some r → c2 = .map (some r)
def memA (rs : List Nat) : Abs where
  P := MemP rs
  stable := fun b F w w' hw h => by
    obtain ⟨h1, c0, c1, c2, T, h2, h3⟩ := h
    exact ⟨h1, c0, c1, c2, T, by rw [hw b ((h1 b).2 rfl)]; exact h2, h3⟩
  lt := fun b F w h x hx => by
    obtain ⟨h1, c0, c1, c2, T, h2, h3⟩ := h
    obtain rfl := (h1 x).1 hx
    exact (Array.getElem?_eq_some_iff.1 h2).1
theorem mem_weak (rs rs' : List Nat) (b : Nat) (F : Nat → Prop) (w : World) (h : (memA (rs ++ rs')).P b F w) : (memA rs).P b F w := by
  obtain ⟨h1, c0, c1, c2, T, h2, h3, h4⟩ := h
  refine ⟨h1, c0, c1, c2, T, h2, fun r hr => h3 r ?_, fun r hr => h4 r ?_⟩
  · rw [List.getElem?_append_left (List.getElem?_eq_some_iff.1 hr).1]; exact hr
  · rw [List.getElem?_append_left (List.getElem?_eq_some_iff.1 hr).1]; exact hr
/-- A byte of a memory. -/
def MM.at8 (m : MM) (x : Int) : Int := m.bt (x / 256) (x % 256)
/-- The type of bytes. -/
abbrev byteT : TypeId := 5
/-- A buffer: the address of its first byte, its room, its length. -/
def BufP (m : MM) (ks : List Int) (b : Nat) (F : Nat → Prop) (w : World) : Prop := match ks with
  | at0 :: cap :: len :: _ => (∀ x, F x ↔ x = b) ∧ 0 ≤ len ∧ len ≤ cap ∧ ∃ (cs : List Value), w.heap[b]? = some (.cells cs.toArray byteT) ∧ (cs.length : Int) = cap ∧ ∀ j : Nat, (j : Int) < len → cs[j]? = some (.int .u8 (m.at8 ((at0 + j) % 4294967296)))
  | _ => ∀ x, F x → x < w.heap.size
theorem bufP_lt {m : MM} {ks : List Int} {b : Nat} {F : Nat → Prop} {w : World} (h : BufP m ks b F w) : ∀ x, F x → x < w.heap.size := by
  unfold BufP at h
  split at h
  · obtain ⟨h1, _, _, cs, h2, _⟩ := h
    intro x hx
    obtain rfl := (h1 x).1 hx
    exact (Array.getElem?_eq_some_iff.1 h2).1
  · exact h
def bufA (m : MM) (ks : List Int) : Abs where
  P := BufP m ks
  stable := fun b F w w' hw h => by
    unfold BufP at h ⊢
    split at h
    · obtain ⟨h1, h3, h4, cs, h2, h5⟩ := h
      exact ⟨h1, h3, h4, cs, by rw [hw b ((h1 b).2 rfl)]; exact h2, h5⟩
    · intro x hx
      have := h x hx
      have hs := hw x hx
      rw [Array.getElem?_eq_getElem this] at hs
      exact (Array.getElem?_eq_some_iff.1 hs).1
  lt := fun b F w h => bufP_lt h
theorem buf_weak (m : MM) (ks ks' : List Int) (b : Nat) (F : Nat → Prop) (w : World) (h : (bufA m (ks ++ ks')).P b F w) : (bufA m ks).P b F w := by
  have hl := bufP_lt (m := m) h
  show BufP m ks b F w
  match ks, h with
  | at0 :: cap :: len :: r, h => exact h
  | [], _ => exact hl
  | [_], _ => exact hl
  | [_, _], _ => exact hl
/-- The first of n addresses from one on that is not good. -/
def firstBad (good : Int → Bool) : Int → Nat → Option Int
  | _, 0 => none
  | a, n + 1 => if good (a % 4294967296) then firstBad good (a + 1) n else some (a % 4294967296)
def goodP (m : MM) (need : Int) (x : Int) : Bool := m.dom (x / 256) && (bits .and .i64 (m.rt (x / 256)) need == need)
def badF (m : MM) (at' : Int) (n : Nat) (need : Int) : Int × Bool := match firstBad (goodP m need) at' n with
  | some a => (a, true)
  | none => (0, false)

/-- The specification's list of pages at block b; some of the pages' bytes are named. -/
def PgsP (m : MM) (ks : List Int) (rs : List Nat) (b : Nat) (F : Nat → Prop) (w : World) : Prop :=
  ∃ (bb cap : Nat → Nat), (0 < m.keys.length → ∃ cs T, w.heap[b]? = some (.cells cs T) ∧ ∀ i, i < m.keys.length → cs[3 * i]? = some (.int .i64 (m.num i)) ∧ cs[3 * i + 1]? = some (.int .i64 (m.rt (m.num i))) ∧ cs[3 * i + 2]? = some (.slice (some ⟨bb i, 0, none⟩) 256 (cap i))) ∧
    (∀ i, i < m.keys.length → 256 ≤ cap i ∧ ∃ ps T, w.heap[bb i]? = some (.cells ps T) ∧ ∀ j : Nat, j < 256 → ps[j]? = some (.int .u8 (m.bt (m.num i) j))) ∧
    (∀ i j, i < m.keys.length → j < m.keys.length → bb i = bb j → i = j) ∧ (∀ i, i < m.keys.length → bb i ≠ b) ∧
    (∀ x, F x ↔ 0 < m.keys.length ∧ x = b ∨ ∃ i, i < m.keys.length ∧ x = bb i) ∧
    ∀ (q : Nat) (k : Int) (c : Nat), ks[q]? = some k → rs[q]? = some c → 0 ≤ k ∧ k.toNat < m.keys.length ∧ bb k.toNat = c
def pgsA (m : MM) (ks : List Int) (rs : List Nat) : Abs where
  P := PgsP m ks rs
  stable := fun b F w w' hw h => by
    obtain ⟨bb, cap, h1, h2, h3, h4, h5, h6⟩ := h
    refine ⟨bb, cap, fun h0 => ?_, fun i hi => ?_, h3, h4, h5, h6⟩
    · rw [hw b ((h5 b).2 (.inl ⟨h0, rfl⟩))]; exact h1 h0
    · rw [hw (bb i) ((h5 _).2 (.inr ⟨i, hi, rfl⟩))]; exact h2 i hi
  lt := fun b F w h x hx => by
    obtain ⟨bb, cap, h1, h2, h3, h4, h5, h6⟩ := h
    rcases (h5 x).1 hx with ⟨h0, rfl⟩ | ⟨i, hi, rfl⟩
    · obtain ⟨cs, T, h9, _⟩ := h1 h0
      exact (Array.getElem?_eq_some_iff.1 h9).1
    · obtain ⟨_, cs, T, h9, _⟩ := h2 i hi
      exact (Array.getElem?_eq_some_iff.1 h9).1
theorem pgs_weak (m : MM) (ks ks' : List Int) (rs rs' : List Nat) (b : Nat) (F : Nat → Prop) (w : World) (h : (pgsA m (ks ++ ks') (rs ++ rs')).P b F w) : (pgsA m ks rs).P b F w := by
  obtain ⟨bb, cap, h1, h2, h3, h4, h5, h6⟩ := h
  refine ⟨bb, cap, h1, h2, h3, h4, h5, fun i k c hk hc => h6 i k c ?_ ?_⟩
  · rw [List.getElem?_append_left (List.getElem?_eq_some_iff.1 hk).1]; exact hk
  · rw [List.getElem?_append_left (List.getElem?_eq_some_iff.1 hc).1]; exact hc
/-- The specification's struct Mem at block b: its list of pages. -/
def RmP (m : MM) (rs : List Nat) (b : Nat) (F : Nat → Prop) (w : World) : Prop := (∀ x, F x ↔ x = b) ∧ ∃ (c0 c1 : Value) (T : TypeId), w.heap[b]? = some (.cells #[c0, c1] T) ∧ ∀ r, rs[0]? = some r → if m.keys.length = 0 then c0 = .slice none 0 0 else ∃ cap, m.keys.length ≤ cap ∧ c0 = .slice (some ⟨r, 0, none⟩) m.keys.length cap
def rmA (m : MM) (rs : List Nat) : Abs where
  P := RmP m rs
  stable := fun b F w w' hw h => by
    obtain ⟨h1, c0, c1, T, h2, h3⟩ := h
    exact ⟨h1, c0, c1, T, by rw [hw b ((h1 b).2 rfl)]; exact h2, h3⟩
  lt := fun b F w h x hx => by
    obtain ⟨h1, c0, c1, T, h2, h3⟩ := h
    obtain rfl := (h1 x).1 hx
    exact (Array.getElem?_eq_some_iff.1 h2).1
theorem rm_weak (m : MM) (rs rs' : List Nat) (b : Nat) (F : Nat → Prop) (w : World) (h : (rmA m (rs ++ rs')).P b F w) : (rmA m rs).P b F w := by
  obtain ⟨h1, c0, c1, T, h2, h3⟩ := h
  refine ⟨h1, c0, c1, T, h2, fun r hr => h3 r ?_⟩
  rw [List.getElem?_append_left (List.getElem?_eq_some_iff.1 hr).1]; exact hr
/-- A row that grows: the address of its first byte, its length; its room. -/
def GrowP (m : MM) (ks : List Int) (rs : List Nat) (b : Nat) (F : Nat → Prop) (w : World) : Prop := match ks with
  | at0 :: len :: _ => (∀ x, F x ↔ x = b) ∧ 0 ≤ len ∧ ∃ (cs : List Value), w.heap[b]? = some (.cells cs.toArray byteT) ∧ len ≤ (cs.length : Int) ∧ (∀ κ, rs[0]? = some κ → κ = cs.length) ∧ ∀ j : Nat, (j : Int) < len → cs[j]? = some (.int .u8 (m.at8 ((at0 + j) % 4294967296)))
  | _ => ∀ x, F x → x < w.heap.size
theorem growP_lt {m : MM} {ks : List Int} {rs : List Nat} {b : Nat} {F : Nat → Prop} {w : World} (h : GrowP m ks rs b F w) : ∀ x, F x → x < w.heap.size := by
  unfold GrowP at h
  split at h
  · obtain ⟨h1, _, cs, h2, _⟩ := h
    intro x hx
    obtain rfl := (h1 x).1 hx
    exact (Array.getElem?_eq_some_iff.1 h2).1
  · exact h
def growA (m : MM) (ks : List Int) (rs : List Nat) : Abs where
  P := GrowP m ks rs
  stable := fun b F w w' hw h => by
    unfold GrowP at h ⊢
    split at h
    · obtain ⟨h1, h3, cs, h2, h5⟩ := h
      exact ⟨h1, h3, cs, by rw [hw b ((h1 b).2 rfl)]; exact h2, h5⟩
    · intro x hx
      have := h x hx
      have hs := hw x hx
      rw [Array.getElem?_eq_getElem this] at hs
      exact (Array.getElem?_eq_some_iff.1 hs).1
  lt := fun b F w h => growP_lt h
theorem grow_weak (m : MM) (ks ks' : List Int) (rs rs' : List Nat) (b : Nat) (F : Nat → Prop) (w : World) (h : (growA m (ks ++ ks') (rs ++ rs')).P b F w) : (growA m ks rs).P b F w := by
  have hl := growP_lt (m := m) h
  show GrowP m ks rs b F w
  match ks, h with
  | at0 :: len :: r, ⟨h1, h2, cs, h3, h4, h5, h6⟩ =>
    refine ⟨h1, h2, cs, h3, h4, fun κ hκ => h5 κ ?_, h6⟩
    rw [List.getElem?_append_left (List.getElem?_eq_some_iff.1 hκ).1]; exact hκ
  | [], _ => exact hl
  | [_], _ => exact hl

def memFi (m : MM) : Nat → List Int → Int
  | 70, [k] => m.pos k
  | 71, [i] => m.num i
  | 72, [i] => m.rt (m.num i)
  | 73, [] => m.keys.length
  | 51, [k] => m.rt k
  | 52, [k, j] => m.bt k j
  | 55, [a, n, q] => (badF m a n.toNat q).1
  | _, _ => 0
def memFb (m : MM) : Nat → List Int → Bool
  | 50, [k] => m.dom k
  | 55, [a, n, q] => (badF m a n.toNat q).2
  | _, _ => false
def isPMap : Nat → Bool
  | 50 => true
  | 1050 => true
  | _ => false
def memAbs (m : MM) : Nat → List Int → List Nat → Abs
  | 50, ks, rs => pmapA m ks rs
  | 1050, ks, rs => pmapA m ks rs
  | 1060, _, rs => memA rs
  | 60, ks, _ => bufA m ks
  | 1070, _, rs => rmA m rs
  | 1080, ks, rs => pgsA m ks rs
  | 61, ks, rs => growA m ks rs
  | _, _, _ => Abs.no
@[reducible] def memVal (m : MM) (ints : Nat → Int) (bools : Nat → Bool) : Val := ⟨ints, bools, memFi m, memFb m, memAbs m, fun t ks ks' rs rs' b F w h => by
  unfold memAbs at h ⊢
  split at h
  · exact pmap_weak _ _ _ _ _ _ _ _ h
  · exact pmap_weak _ _ _ _ _ _ _ _ h
  · exact mem_weak _ _ _ _ _ h
  · exact buf_weak _ _ _ _ _ _ h
  · exact rm_weak _ _ _ _ _ _ h
  · exact pgs_weak _ _ _ _ _ _ _ _ h
  · exact grow_weak _ _ _ _ _ _ _ _ h
  · exact h.elim⟩
theorem memAbs_pmap (m : MM) {t : Nat} (ht : isPMap t = true) (ks : List Int) (rs : List Nat) : memAbs m t ks rs = pmapA m ks rs := by
  unfold isPMap at ht
  split at ht <;> first | rfl | cases ht
def snocT : Tms → Tm → Tms
  | .nil, k => .cons k .nil
  | .cons a l, k => .cons a (snocT l k)
theorem snocT_v [Val] : ∀ (l : Tms) (k : Tm), (snocT l k).v = l.v ++ [k.v]
  | .nil, k => rfl
  | .cons a l, k => by simp [snocT, Tms.v, snocT_v l k]
/-- The key of the page with a name. -/
def keyAt : Tms → List Nat → Nat → Option Tm
  | .cons k l, h :: r, j => match Nat.beq h j with
    | true => some k
    | false => keyAt l r j
  | _, _, _ => none
theorem keyAt_ok [Val] {ρ : Env} : ∀ {l : Tms} {r : List Nat} {j : Nat} {k : Tm} {rs : List Nat}, keyAt l r j = some k → DenRs ρ r rs → ∃ (i c : Nat), l.v[i]? = some k.v ∧ rs[i]? = some c ∧ ρ j = some c
  | .nil, r, j, k, rs, h, _ => by cases r <;> cases h
  | .cons a l, [], j, k, rs, h, _ => by cases h
  | .cons a l, x :: r, j, k, rs, h, hd => by
    obtain ⟨b, rs', rfl, e2, e3⟩ := hd
    unfold keyAt at h
    split at h
    · rename_i hx
      cases h
      have hx := Nat.eq_of_beq_eq_true hx; subst hx
      exact ⟨0, b, rfl, rfl, e2⟩
    · obtain ⟨i, c, h1, h2, h3⟩ := keyAt_ok h e3
      exact ⟨i + 1, c, by simpa [Tms.v] using h1, by simpa using h2, h3⟩
theorem denRs_snoc {ρ : Env} {h b : Nat} (hb : ρ h = some b) : ∀ {l rs : List Nat}, DenRs ρ l rs → DenRs ρ (l ++ [h]) (rs ++ [b])
  | [], rs, hd => by cases hd; exact ⟨b, [], rfl, hb, rfl⟩
  | x :: l, rs, hd => by
    obtain ⟨c, rs', rfl, e2, e3⟩ := hd
    exact ⟨c, rs' ++ [b], rfl, e2, denRs_snoc hb e3⟩
theorem denRs_len {ρ : Env} : ∀ {l rs : List Nat}, DenRs ρ l rs → rs.length = l.length
  | [], rs, hd => by cases hd; rfl
  | x :: l, rs, hd => by
    obtain ⟨c, rs', rfl, e2, e3⟩ := hd
    simp [denRs_len e3]
def Tms.len : Tms → Nat
  | .nil => 0
  | .cons _ l => l.len + 1
theorem Tms.len_v [Val] : ∀ l : Tms, l.v.length = l.len
  | .nil => rfl
  | .cons _ l => by simp [Tms.v, Tms.len, Tms.len_v l]
/-- Operations on a map of pages; hp: its name. -/
def pmapAx (P : Program) (hp : Nat) : Ax := fun look id o xs => match o, xs with
  | .lookup t _ _ false, some [.map h, .int .i64 k] => match look h with
    | some (.abs t0 args refs) => match isPMap t0, mapOf P t, Nat.beq args.len refs.length with
      | true, some (_, _, .nilp), true => some (.split (.fn 50 (.cons k.tm .nil)) (.val (.ptr id (.lit 0)) [.set h (.abs t0 (snocT args k.tm) (refs ++ [id]))] []) (.val .nilp [] []))
      | _, _, _ => none
    | _ => none
  | .load t _, some [.ptr j (.lit 0)] => match look hp with
    | some (.abs t0 args refs) => match isPMap t0, keyAt args refs j with
      | true, some k => match tyOf P t with
        | some ti => match ti.desc.isRow with
          | false => some (.val (.int .i64 (.sym (.fn .i64 51 (.cons k .nil)))) [] [])
          | true => none
        | none => none
      | _, _ => none
    | _ => none
  | .load t _, some [.ptr h (.lit 1)] => match look h, tyOf P t with
    | some (.abs 1060 _ (r :: _)), some ti => match ti.desc.isRow with
      | false => some (.val (.map r) [] [])
      | true => none
    | _, _ => none
  | _, _ => none
theorem pmapAx_safe (P : Program) (hp : Nat) : AxSafe (pmapAx P hp) := fun look id o => by
  cases o <;> try rfl
  rename_i t x i c
  cases c <;> rfl
theorem pmapAx_ok {m : MM} (hm : m.Ok) (ints : Nat → Int) (bools : Nat → Bool) (P : Program) (hp : Nat) : letI := memVal m ints bools; AxOk P (pmapAx P hp) := by
  letI := memVal m ints bools
  intro look id o xs out h ρ X w0 w fresh e op ho hxs d hid hid1
  unfold pmapAx at h
  split at h <;> try (cases h; done)
  · -- a page
    rename_i t x i h0 k heq
    cases heq
    split at h <;> try (cases h; done)
    rename_i t0 args refs hl
    split at h <;> cases h
    rename_i kt et ht0 hmo hlen
    have hlen := Nat.eq_of_beq_eq_true hlen
    obtain ⟨k0, j, zv, u1, u2, u3, u4, u5⟩ := mapOf_spec hmo
    have hz : zv = .pointer none := by
      have := ofVal_den (ρ := ρ) u5
      simpa only [SV.Den] using this
    subst hz
    have hops : op.op.operands.toList = [x, i] := by rw [ho]; rfl
    rw [show (Op.lookup t x i false).operands.toList = [x, i] from rfl] at hxs
    obtain ⟨v1, _, e1, h1, r1⟩ := denL_cons.1 hxs
    obtain ⟨v2, _, e2, h2, r2⟩ := denL_cons.1 r1
    subst e2
    simp only [List.map_cons, List.map_nil, List.cons.injEq, and_true] at e1
    obtain ⟨e1, e2, _⟩ := e1
    simp only [SV.Den] at h1 h2
    obtain ⟨b, hb, hv1⟩ := h1
    have d2 := d
    obtain ⟨φ, dd⟩ := d2
    obtain ⟨b', hb', rs, hrs, hPP⟩ := dd.obj _ _ hl
    rw [show (Val.abs t0 args.v rs) = pmapA m args.v rs from memAbs_pmap m ht0 _ _] at hPP
    obtain ⟨es, clock, pb, g1, g2, g3, g4, g5, g6, g7, g8⟩ := hPP
    obtain rfl : b' = b := by rw [hb] at hb'; injection hb' with q; exact q.symm
    have hkey : (getE k.v es).map (·.2) = if m.dom k.v then some (.pointer (some ⟨pb k.v, 0, none⟩)) else none := g3 k.v
    have hf : Instr.findNow (.int k0) (.int .i64 k.v) es 0 = some ((getE k.v es).map fun p => (0 + p.1, p.2)) := findNow_eq 0 g2
    have hdom : (Bm.fn 50 (.cons k.tm .nil)).v = m.dom k.v := by
      show m.dom k.tm.v = _
      rw [SI.tm_v]
    have hrun : ∀ v : Value, (getE k.v es).map (·.2) = (if m.dom k.v then some v else none) → (Instr.lookup t (e x) (e i) false).run P w = .ok (if m.dom k.v then v else .pointer none) w := fun v hv => by
      rw [e1, e2, hv1, h2]
      cases hg : getE k.v es with
      | none =>
        rw [hg] at hv hf
        have : m.dom k.v = false := by
          cases hq : m.dom k.v with
          | false => rfl
          | true => rw [hq] at hv; simp at hv
        simp [Instr.lookup, run_underlying u1, run_checkKey_int u2, Instr.findKey, run_underlying u2, getMap g1, hf, zeroValue, typeInfo, u3, u4, this]
      | some p =>
        rw [hg] at hv hf
        have hq : m.dom k.v = true := by
          cases hq : m.dom k.v with
          | true => rfl
          | false => rw [hq] at hv; simp at hv
        rw [hq] at hv
        have hp2 : p.2 = v := by simpa using hv
        simp [Instr.lookup, run_underlying u1, run_checkKey_int u2, Instr.findKey, run_underlying u2, getMap g1, hf, hq, hp2]
    have hr := hrun _ hkey
    have hex : execOp e op = (do pure (.value (← Instr.lookup t (e x) (e i) false))) := by
      obtain ⟨dst, op', ty, pos, after, guard⟩ := op
      dsimp only at ho; subst ho
      rfl
    rw [hex]
    refine ⟨fun hb1 => ?_, fun hb1 => ?_⟩
    · rw [hdom] at hb1
      rw [hb1, if_pos rfl] at hr
      have hle : ρ.le (ρ.put id (pb k.v)) := Env.le_put _ (d.newName hid)
      refine ⟨.value (.pointer (some ⟨pb k.v, 0, none⟩)), .pointer (some ⟨pb k.v, 0, none⟩), ρ.put id (pb k.v), w, by simp only [Sem.run_bind, hr, Result.andThen_ok, Sem.run_pure], .inl rfl, hle, ?_, ?_⟩
      · simp only [SV.Den, SOff.Den]
        exact ⟨pb k.v, 0, Env.put_same _ _ _, rfl, rfl⟩
      · refine d.seen hl (by rfl) hle (o' := .abs t0 (snocT args k.tm) (refs ++ [id])) (fun b2 F hb2 hO => ?_) (fun j => rfl) fun j hj => ?_
        · obtain ⟨rs', hrs', hPP'⟩ := hO
          rw [show (Val.abs t0 args.v rs') = pmapA m args.v rs' from memAbs_pmap m ht0 _ _] at hPP'
          obtain ⟨es', clock', pb', q1, q2, q3, q4, q5, q6, q7, q8⟩ := hPP'
          obtain rfl : b2 = b' := by rw [hb] at hb2; injection hb2 with q; exact q.symm
          rw [g1] at q1
          have q1 : es = es' ∧ clock = clock' := by
            injection q1 with q1; injection q1 with q1 q1'
            exact ⟨by simpa using q1, q1'⟩
          obtain ⟨rfl, rfl⟩ := q1
          have hpb : ∀ k, m.dom k = true → pb k = pb' k := fun k hk => by
            have a1 := g3 k
            rw [q3 k, hk, if_pos rfl, if_pos rfl] at a1
            injection a1 with a1; injection a1 with a1; injection a1 with a1; injection a1 with a1
            exact a1.symm
          refine ⟨rs' ++ [pb' k.v], denRs_snoc (by rw [Env.put_same, hpb _ hb1]) (hrs'.mono hle), ?_⟩
          rw [show (Val.abs t0 (snocT args k.tm).v (rs' ++ [pb' k.v])) = pmapA m (snocT args k.tm).v (rs' ++ [pb' k.v]) from memAbs_pmap m ht0 _ _]
          refine ⟨es, clock, pb', g1, q2, q3, q4, q5, q6, q7, fun i k' c hk' hc => ?_⟩
          rw [snocT_v, SI.tm_v] at hk'
          have hl1 : args.v.length = rs'.length := by rw [Tms.len_v, hlen, denRs_len hrs']
          by_cases hi : i < args.v.length
          · rw [List.getElem?_append_left hi] at hk'
            rw [List.getElem?_append_left (by omega)] at hc
            exact q8 i k' c hk' hc
          · rw [List.getElem?_append_right (by omega)] at hk'
            rw [List.getElem?_append_right (by omega)] at hc
            have hi0 : i - args.v.length = 0 := by
              have := (List.getElem?_eq_some_iff.1 hk').1
              simpa using this
            have hi1 : i - rs'.length = 0 := by omega
            rw [hi0] at hk'
            rw [hi1] at hc
            simp at hk' hc
            subst hk' hc
            exact ⟨hb1, rfl⟩
        · rw [Env.put_other _ _ hj.2.1]; exact d.newName hj.1
    · rw [hdom] at hb1
      rw [hb1] at hr
      exact Good.value d hr (by simp [SV.Den])
  · -- its rights
    rename_i t a j heq
    cases heq
    split at h <;> try (cases h; done)
    rename_i t0 args refs hl
    split at h <;> try (cases h; done)
    rename_i k ht0 hk
    split at h <;> try (cases h; done)
    rename_i ti hti
    split at h <;> cases h
    rename_i hrow
    obtain ⟨_, _, hu, _, _, _⟩ := tyOf_spec hti
    rw [show (Op.load t a).operands.toList = [a] from rfl] at hxs
    obtain ⟨v1, _, e1, h1, r1⟩ := denL_cons.1 hxs
    simp only [List.map_cons, List.map_nil, List.cons.injEq] at e1
    obtain ⟨e1, _⟩ := e1
    simp only [SV.Den, SOff.Den] at h1
    obtain ⟨b, mm, hb, hm0, hv1⟩ := h1
    subst hm0
    have d2 := d
    obtain ⟨φ, dd⟩ := d2
    obtain ⟨b', hb', rs, hrs, hPP⟩ := dd.obj _ _ hl
    rw [show (Val.abs t0 args.v rs) = pmapA m args.v rs from memAbs_pmap m ht0 _ _] at hPP
    obtain ⟨es, clock, pb, g1, g2, g3, g4, g5, g6, g7, g8⟩ := hPP
    obtain ⟨i, c, c1, c2, c3⟩ := keyAt_ok hk hrs
    rw [hb] at c3; cases c3
    obtain ⟨hd, rfl⟩ := g8 i k.v b c1 c2
    obtain ⟨cs, T, p1, p2, p3, p4⟩ := g4 _ hd
    have hcell : w.cell? ⟨pb k.v, 0, none⟩ = some (.int .i64 (m.rt k.v)) := cell_of_heap p1 (by simpa using p3)
    have hex : execOp e op = (do pure (.value (← Instr.loadAt t (e a)))) := by
      obtain ⟨dst, op', ty, pos, after, guard⟩ := op
      dsimp only at ho; subst ho
      rfl
    rw [hex, e1, hv1]
    refine Good.value d (run_loadAt_cell hu hrow hcell) ?_
    simp only [SV.Den, SI.sym_v]
    show Value.int .i64 (m.rt k.v) = .int .i64 (IntKind.i64.wrap (m.rt k.v))
    rw [hm.rt]
  · -- the map of a memory
    rename_i t a j heq
    cases heq
    split at h <;> try (cases h; done)
    rename_i args r refs ti hl hti
    split at h <;> cases h
    rename_i hrow
    obtain ⟨_, _, hu, _, _, _⟩ := tyOf_spec hti
    rw [show (Op.load t a).operands.toList = [a] from rfl] at hxs
    obtain ⟨v1, _, e1, h1, r1⟩ := denL_cons.1 hxs
    simp only [List.map_cons, List.map_nil, List.cons.injEq] at e1
    obtain ⟨e1, _⟩ := e1
    simp only [SV.Den, SOff.Den] at h1
    obtain ⟨b, mm, hb, hm0, hv1⟩ := h1
    subst hm0
    have d2 := d
    obtain ⟨φ, dd⟩ := d2
    obtain ⟨b', hb', rs, hrs, hPP⟩ := dd.obj _ _ hl
    obtain ⟨g1, c0, c1, c2, T, g2, g3, g4⟩ := hPP
    obtain rfl : b' = b := by rw [hb] at hb'; injection hb' with q; exact q.symm
    obtain ⟨c, rs', rfl, q2, q3⟩ := hrs
    have hc1 := g3 c rfl
    subst hc1
    have hcell : w.cell? ⟨b', 1, none⟩ = some (.map (some c)) := cell_of_heap g2 rfl
    have hex : execOp e op = (do pure (.value (← Instr.loadAt t (e a)))) := by
      obtain ⟨dst, op', ty, pos, after, guard⟩ := op
      dsimp only at ho; subst ho
      rfl
    rw [hex, e1, hv1]
    refine Good.value d (run_loadAt_cell hu hrow hcell) ?_
    simp only [SV.Den]
    exact ⟨c, q2, rfl⟩
end Go.Sx
/- Operations of one's own, joined; a buffer that is filled with bytes of a memory. -/
namespace Go.Sx
set_option linter.unusedSimpArgs false
set_option linter.unusedVariables false
open Go Go.RowKit Go.Cd Go.Proofs.YtkfocpgcdndpnaaGreat Go.MapKept

def axOr (a b : Ax) : Ax := fun look id o xs => match a look id o xs with
  | some r => some r
  | none => b look id o xs
theorem axOr_ok [Val] {P : Program} {a b : Ax} (ha : AxOk P a) (hb : AxOk P b) : AxOk P (axOr a b) := by
  intro look id o xs out h
  unfold axOr at h
  split at h
  · rename_i r hr
    cases h
    exact ha _ _ _ _ _ hr
  · exact hb _ _ _ _ _ h
theorem axOr_safe {a b : Ax} (ha : AxSafe a) (hb : AxSafe b) : AxSafe (axOr a b) := fun look id o => by
  unfold axOr; rw [ha]; exact hb _ _ _
/-- The first way of two, which has to be shown. -/
def sureAx (a : Ax) : Ax := fun look id o xs => match a look id o xs with
  | some (.split b x _) => some (.need b x)
  | r => r
theorem sureAx_ok [Val] {P : Program} {a : Ax} (ha : AxOk P a) : AxOk P (sureAx a) := by
  intro look id o xs out h ρ X w0 w fresh e op ho hxs d hid hid1
  unfold sureAx at h
  split at h
  · rename_i b x y hr
    cases h
    exact fun hb => (ha _ _ _ _ _ hr ρ X w0 w fresh e op ho hxs d hid hid1).1 hb
  · exact ha _ _ _ _ _ h ρ X w0 w fresh e op ho hxs d hid hid1
theorem sureAx_safe {a : Ax} (ha : AxSafe a) : AxSafe (sureAx a) := fun look id o => by
  unfold sureAx; rw [ha]
/-- What has to hold, unless it is known. -/
def needC (b : SB) (x : OOut) : OOut := match b with
  | .lit true => x
  | .lit false => .stuck 500
  | .sym b => .need b x
theorem needC_ok [Val] {P : Program} {ρ : Env} {X : Nat → Prop} {w0 w : World} {look : Look} {fresh : Nat → Prop} {id : Nat} {b : SB} {x : OOut} {sem : Sem Next} (h : b.v = true → OGood P ρ X w0 look fresh id x sem w) : OGood P ρ X w0 look fresh id (needC b x) sem w := by
  unfold needC
  split
  · exact h rfl
  · trivial
  · exact fun hb => h hb
def leC (a b : SI) : SB := SI.cmp .le a b
theorem leC_v [Val] {a b : SI} (h : (leC a b).v = true) : a.v ≤ b.v := by
  unfold leC at h
  rw [SI.cmp_v] at h
  exact of_decide_eq_true h
theorem eqC_v [Val] {a b : SI} (h : (SI.cmp .eq a b).v = true) : a.v = b.v := by
  rw [SI.cmp_v] at h
  exact beq_iff_eq.1 h
section
variable {P : Program} {ρ : Env} {X : Nat → Prop} {w0 w : World} {look : Look} {fresh : Nat → Prop}
/-- A new block, of which is known what it stands for. -/
theorem DenH.allocA [Val] (d : DenH ρ X w0 look fresh w) {h : Nat} {o : SObj} {obj : Obj} {ρ' : Env} (hle : ρ.le ρ') (hh : fresh h) (hb : ρ' h = some w.heap.size) (hO : OD ρ' o w.heap.size (· = w.heap.size) (w.alloc obj))
    {look' : Look} (hlook : ∀ j, look' j = if j = h then some o else look j) {fresh' : Nat → Prop} (hf : ∀ j, fresh' j → ρ' j = none) : DenH ρ' X w0 look' fresh' (w.alloc obj) := by
  have hl := d.fresh_look hh
  obtain ⟨φ, d⟩ := d
  have hold : ∀ x, x < w.heap.size → (w.alloc obj).heap[x]? = w.heap[x]? := fun x hx => Below.heap_alloc w obj x hx
  refine ⟨fun j x => if j = h then x = w.heap.size else φ j x, ?_, ?_, ?_, hf, ?_, by have := d.size; simp; omega, d.os, d.tape, d.output⟩
  · intro j o1 hj
    rw [hlook] at hj
    by_cases e : j = h
    · rw [if_pos e] at hj
      injection hj with hj; subst hj; subst e
      refine ⟨_, hb, ?_⟩
      have : (fun x => if j = j then x = w.heap.size else φ j x) = (· = w.heap.size) := by funext x; simp
      rw [this]; exact hO
    · rw [if_neg e] at hj
      obtain ⟨c, f1, f2⟩ := d.obj j o1 hj
      refine ⟨c, hle _ _ f1, OD.keep hle (w := w) ?_ (by simpa [e] using f2)⟩
      intro x hx
      simp only [e, if_false] at hx
      exact hold x (f2.lt hx)
  · intro j j' o1 o2 x hj hj' hz hx hx'
    rw [hlook] at hj hj'
    by_cases e : j = h <;> by_cases e' : j' = h
    · rw [e, e']
    · rw [if_pos e] at hx; rw [if_neg e'] at hx' hj'
      obtain ⟨c, f1, f2⟩ := d.obj j' o2 hj'
      have := f2.lt hx'; omega
    · rw [if_neg e] at hx hj; rw [if_pos e'] at hx'
      obtain ⟨c, f1, f2⟩ := d.obj j o1 hj
      have := f2.lt hx; omega
    · rw [if_neg e] at hx hj; rw [if_neg e'] at hx' hj'
      exact d.apart j j' o1 o2 x hj hj' hz hx hx'
  · intro j o1 x hj hz hx
    rw [hlook] at hj
    by_cases e : j = h
    · rw [if_pos e] at hx; subst hx; exact .inl d.size
    · rw [if_neg e] at hx hj; exact d.own j o1 x hj hz hx
  · intro x hx hX
    rw [hold x (by have := d.size; omega)]; exact d.frame x hx hX
end
end Go.Sx
/- Maps with keys that are whole numbers, whatever they hold: what the operations on them do. -/
namespace Go.Sx
set_option linter.unusedSimpArgs false
set_option linter.unusedVariables false
open Go Go.RowKit Go.Cd Go.Proofs.YtkfocpgcdndpnaaGreat Go.MapKept

/-- A map's entries: under each key what L says. -/
structure MapIs (es : List MapEntry) (clock : Nat) (L : Int → Option Value) : Prop where
  keys : IntKeys es
  stamped : Stamped es.toArray clock
  get : ∀ k, (getE k es).map (·.2) = L k
/-- A key has a value. -/
def updL (L : Int → Option Value) (k : Int) (v : Value) : Int → Option Value := fun x => if x = k then some v else L x
theorem keyIs_i64 (x n : Int) : keyIs x (.int .i64 n) = decide (n = x) := rfl
theorem getE_some {k : Int} : ∀ {es : List MapEntry} {p : Nat × Value}, IntKeys es → getE k es = some p → ∃ e, es[p.1]? = some e ∧ e.key = .int .i64 k ∧ e.val = p.2
  | [], _, _, h => by cases h
  | e :: es, p, hk, h => by
    unfold getE at h
    split at h
    · rename_i hx
      cases h
      obtain ⟨n, hn⟩ := hk e (by simp)
      rw [hn, keyIs_i64] at hx
      exact ⟨e, rfl, by rw [hn, of_decide_eq_true hx], rfl⟩
    · cases hg : getE k es with
      | none => rw [hg] at h; cases h
      | some q =>
        rw [hg] at h; cases h
        obtain ⟨e', h1, h2, h3⟩ := getE_some (fun e he => hk e (List.mem_cons_of_mem _ he)) hg
        exact ⟨e', by simpa using h1, h2, h3⟩
theorem getE_none {k : Int} : ∀ {es : List MapEntry}, getE k es = none → ∀ e ∈ es, e.key ≠ .int .i64 k
  | [], _, e, he => by cases he
  | x :: es, h, e, he => by
    unfold getE at h
    split at h
    · cases h
    · rename_i hx
      cases hg : getE k es with
      | some q => rw [hg] at h; cases h
      | none =>
        rcases List.mem_cons.1 he with rfl | he
        · intro hc
          rw [hc] at hx
          simp [keyIs] at hx
        · exact getE_none hg e he
theorem getE_push {k k' : Int} {v : Value} {c : Nat} : ∀ {es : List MapEntry}, getE k es = none → (getE k' (es ++ [⟨.int .i64 k, v, c⟩])).map (·.2) = if k' = k then some v else (getE k' es).map (·.2)
  | [], _ => by
    simp only [List.nil_append, getE, keyIs_i64]
    by_cases h : k = k'
    · subst h; simp
    · rw [decide_eq_false h, if_neg (Ne.symm h)]; rfl
  | e :: es, h => by
    have hh := h
    unfold getE at h
    split at h
    · cases h
    · rename_i hx
      have hg : getE k es = none := by
        cases hg : getE k es with
        | none => rfl
        | some q => rw [hg] at h; cases h
      rw [List.cons_append]
      have ih := getE_push (k' := k') (v := v) (c := c) hg
      unfold getE
      cases hx' : keyIs k' e.key with
      | true =>
        by_cases hkk : k' = k
        · subst hkk; rw [hx] at hx'; cases hx'
        · rw [if_neg hkk]
      | false =>
        show ((getE k' (es ++ _)).map _).map _ = _
        rw [Option.map_map]
        show (getE k' (es ++ _)).map (·.2) = _
        rw [ih]
        by_cases hkk : k' = k
        · rw [if_pos hkk, if_pos hkk]
        · rw [if_neg hkk, if_neg hkk]
          show _ = ((getE k' es).map _).map _
          rw [Option.map_map]; rfl
theorem getE_modify {k k' : Int} {v : Value} {f : MapEntry → MapEntry} (hf : ∀ e, (f e).key = .int .i64 k ∧ (f e).val = v) : ∀ {es : List MapEntry} {p : Nat × Value}, IntKeys es → getE k es = some p →
    (getE k' (es.modify p.1 f)).map (·.2) = if k' = k then some v else (getE k' es).map (·.2)
  | [], _, _, h => by cases h
  | e :: es, p, hk, h => by
    have hke : ∀ e ∈ es, ∃ n, e.key = .int .i64 n := fun e he => hk e (List.mem_cons_of_mem _ he)
    unfold getE at h
    split at h
    · rename_i hx
      cases h
      obtain ⟨n, hn⟩ := hk e (by simp)
      rw [hn, keyIs_i64] at hx
      have hx := of_decide_eq_true hx; subst hx
      show (getE k' (f e :: es)).map _ = _
      unfold getE
      rw [(hf e).1, keyIs_i64, hn, keyIs_i64]
      by_cases hkk : n = k'
      · subst hkk; simp [(hf e).2]
      · rw [decide_eq_false hkk, if_neg (Ne.symm hkk)]
    · rename_i hx
      cases hg : getE k es with
      | none => rw [hg] at h; cases h
      | some q =>
        rw [hg] at h; cases h
        have ih := getE_modify (k' := k') (v := v) hf hke hg
        show (getE k' (e :: es.modify q.1 f)).map _ = _
        unfold getE
        cases hx' : keyIs k' e.key with
        | true =>
          by_cases hkk : k' = k
          · subst hkk; rw [hx] at hx'; cases hx'
          · rw [if_neg hkk]
        | false =>
          show ((getE k' (es.modify q.1 f)).map _).map _ = _
          rw [Option.map_map]
          show (getE k' (es.modify q.1 f)).map (·.2) = _
          rw [ih]
          by_cases hkk : k' = k
          · rw [if_pos hkk, if_pos hkk]
          · rw [if_neg hkk, if_neg hkk]
            show _ = ((getE k' es).map _).map _
            rw [Option.map_map]; rfl
theorem intKeys_modify {k : Int} {f : MapEntry → MapEntry} (hf : ∀ e, (f e).key = .int .i64 k) {es : List MapEntry} {i : Nat} (h : IntKeys es) : IntKeys (es.modify i f) := by
  intro e he
  obtain ⟨j, hj⟩ := List.getElem?_of_mem he
  rw [List.getElem?_modify] at hj
  split at hj
  · cases hx : es[j]? with
    | none => rw [hx] at hj; cases hj
    | some x => rw [hx] at hj; cases hj; exact ⟨k, hf x⟩
  · cases hx : es[j]? with
    | none => rw [hx] at hj; cases hj
    | some x => rw [hx] at hj; cases hj; exact h _ (List.mem_of_getElem? hx)
theorem intKeys_push {es : List MapEntry} {k : Int} {v : Value} {c : Nat} (h : IntKeys es) : IntKeys (es ++ [⟨.int .i64 k, v, c⟩]) := by
  intro e he
  rcases List.mem_append.1 he with h1 | h1
  · exact h e h1
  · simp at h1; subst h1; exact ⟨k, rfl⟩
/-- Entries whose keys and stamps stay. -/
theorem stamped_modify {es : List MapEntry} {clock i : Nat} {f : MapEntry → MapEntry} (hf : ∀ e, es[i]? = some e → (f e).key = e.key ∧ (f e).born = e.born) (h : Stamped es.toArray clock) : Stamped (es.modify i f).toArray clock := by
  rw [stamped_iff] at h ⊢
  obtain ⟨h1, h2, h3⟩ := h
  have hk : (es.modify i f).map (·.key) = es.map (·.key) := by
    apply List.ext_getElem?
    intro j
    simp only [List.getElem?_map, List.getElem?_modify]
    cases hx : es[j]? with
    | none => simp
    | some x =>
      by_cases hj : i = j
      · subst hj; simp [(hf x hx).1]
      · simp [hj]
  have hb : (es.modify i f).map (·.born) = es.map (·.born) := by
    apply List.ext_getElem?
    intro j
    simp only [List.getElem?_map, List.getElem?_modify]
    cases hx : es[j]? with
    | none => simp
    | some x =>
      by_cases hj : i = j
      · subst hj; simp [(hf x hx).2]
      · simp [hj]
  simp only at h1 h2 h3 ⊢
  refine ⟨fun x hx => ?_, by rw [hb]; exact h2, ?_⟩
  · have : x.born ∈ es.map (·.born) := by rw [← hb]; exact List.mem_map_of_mem hx
    obtain ⟨y, hy, hyb⟩ := List.mem_map.1 this
    rw [← hyb]; exact h1 y hy
  · have := (List.pairwise_map (f := fun e : MapEntry => e.key) (R := fun a b => a ≠ b) (l := es)).2 h3
    rw [← hk] at this
    exact List.pairwise_map.1 this
section
variable {P : Program} {w : World} {b : Nat} {es : List MapEntry} {clock : Nat} {L : Int → Option Value} {t kt et : TypeId} {k0 : IntKind} {k : Int}
theorem run_lookup [Val] (hM : MapIs es clock L) (hb : w.heap[b]? = some (.map es.toArray clock)) (hu : P.underlying t = some (.map kt et)) (huk : P.underlying kt = some (.int k0)) {j : TypeInfo} {z : Value} (hj : P.info? et = some j) (hz : j.zero = some z) :
    (Instr.lookup t (.map (some b)) (.int .i64 k) false).run P w = .ok ((L k).getD z) w := by
  have hf : Instr.findNow (.int k0) (.int .i64 k) es 0 = some ((getE k es).map fun p => (0 + p.1, p.2)) := findNow_eq 0 hM.keys
  have hg := hM.get k
  cases h : getE k es with
  | none =>
    rw [h] at hf hg
    rw [← hg]
    simp [Instr.lookup, run_underlying hu, run_checkKey_int huk, Instr.findKey, run_underlying huk, getMap hb, hf, zeroValue, typeInfo, hj, hz]
  | some p =>
    rw [h] at hf hg
    rw [← hg]
    simp [Instr.lookup, run_underlying hu, run_checkKey_int huk, Instr.findKey, run_underlying huk, getMap hb, hf]
/-- The map behind an update. -/
theorem mapIs_put [Val] (hM : MapIs es clock L) (v : Value) : ∃ es' clock', MapIs es' clock' (updL L k v) ∧
    (match getE k es with
      | some p => es' = es.modify p.1 (fun e => { e with key := .int .i64 k, val := v }) ∧ clock' = clock
      | none => es' = es ++ [⟨.int .i64 k, v, clock⟩] ∧ clock' = clock + 1) := by
  cases h : getE k es with
  | some p =>
    refine ⟨_, _, ⟨intKeys_modify (fun e => rfl) hM.keys, stamped_modify (fun e he => ?_) hM.stamped, fun x => ?_⟩, rfl, rfl⟩
    · obtain ⟨e', h1, h2, _⟩ := getE_some hM.keys h
      rw [h1] at he; cases he
      exact ⟨h2.symm, rfl⟩
    · rw [getE_modify (k' := x) (v := v) (fun e => ⟨rfl, rfl⟩) hM.keys h, hM.get]; rfl
  | none =>
    refine ⟨_, _, ⟨intKeys_push hM.keys, ?_, fun x => ?_⟩, rfl, rfl⟩
    · have := stamped_push hM.stamped (key := .int .i64 k) (val := v) fun x hx => getE_none h x (by simpa using hx)
      simpa using this
    · rw [getE_push h, hM.get]; rfl
theorem run_mapUpdate [Val] (hM : MapIs es clock L) (hb : w.heap[b]? = some (.map es.toArray clock)) (hu : P.underlying t = some (.map kt et)) (huk : P.underlying kt = some (.int k0)) (v : Value) :
    ∃ es' clock', MapIs es' clock' (updL L k v) ∧ (Instr.mapUpdate t (.map (some b)) (.int .i64 k) v).run P w = .ok () (w.putObj b (.map es'.toArray clock')) := by
  have hf : Instr.findNow (.int k0) (.int .i64 k) es 0 = some ((getE k es).map fun p => (0 + p.1, p.2)) := findNow_eq 0 hM.keys
  obtain ⟨es', clock', h1, h2⟩ := mapIs_put (k := k) hM v
  refine ⟨es', clock', h1, ?_⟩
  cases h : getE k es with
  | none =>
    rw [h] at hf h2
    obtain ⟨rfl, rfl⟩ := h2
    simp [Instr.mapUpdate, run_underlying hu, run_checkKey_int huk, Instr.findKey, run_underlying huk, getMap hb, hf, setMap _ hb]
  | some p =>
    rw [h] at hf h2
    obtain ⟨rfl, rfl⟩ := h2
    obtain ⟨e, g1, g2, g3⟩ := getE_some hM.keys h
    simp [Instr.mapUpdate, run_underlying hu, run_checkKey_int huk, Instr.findKey, run_underlying huk, getMap hb, hf, g1, g2, Instr.keyThatStays, Instr.sameBits, arr_modify, setMap _ hb]
/-- A stamp is that of a key. -/
def StampIs (es : List MapEntry) (k : Int) (s : Nat) : Prop := ∃ (i : Nat) (e : MapEntry), es[i]? = some e ∧ e.key = .int .i64 k ∧ e.born = s
/-- The stamp that an entry of a key has, or gets. -/
def stampOf (es : List MapEntry) (clock : Nat) (k : Int) : Nat := match getE k es with
  | some p => ((es[p.1]?).map (·.born)).getD 0
  | none => clock
theorem run_mapEntry [Val] (hM : MapIs es clock L) (hb : w.heap[b]? = some (.map es.toArray clock)) (hu : P.underlying t = some (.map kt et)) (huk : P.underlying kt = some (.int k0)) {j : TypeInfo} {z : Value} (hj : P.info? et = some j) (hz : j.zero = some z) :
    ∃ es' clock', MapIs es' clock' (updL L k ((L k).getD z)) ∧ StampIs es' k (stampOf es clock k) ∧ (L k ≠ none → es' = es ∧ clock' = clock) ∧ (Instr.mapEntry t (.map (some b)) (.int .i64 k)).run P w = .ok (.tuple #[(L k).getD z, .int .i64 (stampOf es clock k)]) (w.putObj b (.map es'.toArray clock')) := by
  have hf : Instr.findNow (.int k0) (.int .i64 k) es 0 = some ((getE k es).map fun p => (0 + p.1, p.2)) := findNow_eq 0 hM.keys
  have hg := hM.get k
  cases h : getE k es with
  | none =>
    rw [h] at hf hg
    have hL : L k = none := hg.symm
    obtain ⟨es', clock', h1, h2⟩ := mapIs_put (k := k) hM z
    rw [h] at h2
    obtain ⟨rfl, rfl⟩ := h2
    have hst : stampOf es clock k = clock := by unfold stampOf; rw [h]
    rw [hst]
    refine ⟨_, _, by rw [hL]; exact h1, ⟨es.length, ⟨.int .i64 k, z, clock⟩, by simp, rfl, rfl⟩, fun hc => absurd hL hc, ?_⟩
    rw [hL]
    simp [Instr.mapEntry, run_underlying hu, run_checkKey_int huk, Instr.findKey, run_underlying huk, getMap hb, hf, zeroValue, typeInfo, hj, hz, setMap _ hb, goInt]
  | some p =>
    rw [h] at hf hg
    have hL : L k = some p.2 := hg.symm
    obtain ⟨e, g1, g2, g3⟩ := getE_some hM.keys h
    have hsame : es.modify p.1 (fun e => { e with key := .int .i64 k }) = es := modify_same g1 (by cases e; simp at g2; simp [g2])
    have hup : updL L k p.2 = L := by
      funext x
      unfold updL
      by_cases hx : x = k
      · rw [if_pos hx, hx, hL]
      · rw [if_neg hx]
    have hst : stampOf es clock k = e.born := by unfold stampOf; rw [h]; simp [g1]
    rw [hst]
    refine ⟨es, clock, by rw [hL]; show MapIs es clock (updL L k p.2); rw [hup]; exact hM, ⟨p.1, e, g1, g2, rfl⟩, fun _ => ⟨rfl, rfl⟩, ?_⟩
    rw [hL]
    simp [Instr.mapEntry, run_underlying hu, run_checkKey_int huk, Instr.findKey, run_underlying huk, getMap hb, hf, g1, g2, Instr.keyThatStays, Instr.sameBits, arr_modify, hsame, setMap _ hb, goInt]
theorem findIdx_born {s : Nat} : ∀ {es : List MapEntry} {i : Nat} {e : MapEntry}, (es.map (·.born)).Nodup → es[i]? = some e → e.born = s → es.findIdx? (fun e => (e.born : Int) == (s : Int)) = some i
  | [], _, _, _, h, _ => by cases h
  | x :: es, 0, e, hn, h, hs => by
    simp at h; subst h
    rw [List.findIdx?_cons, hs]; simp
  | x :: es, i + 1, e, hn, h, hs => by
    simp only [List.map_cons, List.nodup_cons] at hn
    simp at h
    have hx : x.born ≠ s := fun hc => hn.1 (by rw [hc, ← hs]; exact List.mem_map_of_mem (List.mem_of_getElem? h))
    have hx' : ((x.born : Int) == (s : Int)) = false := by simp; omega
    rw [List.findIdx?_cons, hx', findIdx_born hn.2 h hs]; rfl
theorem getE_of_stamp {es : List MapEntry} {clock : Nat} (hk : IntKeys es) (hs : Stamped es.toArray clock) {i : Nat} {e : MapEntry} (h : es[i]? = some e) (he : e.key = .int .i64 k) : getE k es = some (i, e.val) := by
  have h3 := ((stamped_iff _ _).1 hs).2.2
  simp only at h3
  cases hg : getE k es with
  | none => exact absurd he (getE_none hg e (List.mem_of_getElem? h))
  | some p =>
    obtain ⟨e', g1, g2, g3⟩ := getE_some hk hg
    have : p.1 = i := by
      rcases Nat.lt_trichotomy p.1 i with hl | hl | hl
      · have := List.pairwise_iff_getElem.1 h3 p.1 i (List.getElem?_eq_some_iff.1 g1).1 (List.getElem?_eq_some_iff.1 h).1 hl
        rw [(List.getElem?_eq_some_iff.1 g1).2, (List.getElem?_eq_some_iff.1 h).2, g2, he] at this
        exact absurd rfl this
      · exact hl
      · have := List.pairwise_iff_getElem.1 h3 i p.1 (List.getElem?_eq_some_iff.1 h).1 (List.getElem?_eq_some_iff.1 g1).1 hl
        rw [(List.getElem?_eq_some_iff.1 g1).2, (List.getElem?_eq_some_iff.1 h).2, g2, he] at this
        exact absurd rfl this
    rw [this] at g1
    rw [h] at g1; cases g1
    cases p; simp_all
theorem run_entryStore [Val] (hM : MapIs es clock L) (hb : w.heap[b]? = some (.map es.toArray clock)) {s : Nat} (hs : StampIs es k s) (v : Value) :
    ∃ es', MapIs es' clock (updL L k v) ∧ (Instr.entryStore t (.map (some b)) (.int .i64 s) v).run P w = .ok () (w.putObj b (.map es'.toArray clock)) := by
  obtain ⟨i, e, h1, h2, h3⟩ := hs
  have hg := getE_of_stamp hM.keys hM.stamped h1 h2
  have hi : es.findIdx? (fun e => (e.born : Int) == (s : Int)) = some i := findIdx_born ((stamped_iff _ _).1 hM.stamped).2.1 h1 h3
  obtain ⟨es', clock', g1, g2⟩ := mapIs_put (k := k) hM v
  rw [hg] at g2
  obtain ⟨rfl, rfl⟩ := g2
  have hsame : es.modify i (fun e => { e with val := v }) = es.modify i (fun e => { e with key := .int .i64 k, val := v }) := by
    apply List.ext_getElem?
    intro j
    simp only [List.getElem?_modify]
    by_cases hj : i = j
    · subst hj
      rw [h1]; cases e; simp at h2; simp [h2]
    · simp [hj]
  refine ⟨_, g1, ?_⟩
  simp only [Instr.entryStore, Sem.run_bind, getMap hb, Result.andThen_ok, asInt, asIntOf, Sem.run_pure, List.findIdx?_toArray, hi, arr_modify, hsame, setMap _ hb]
end
end Go.Sx
