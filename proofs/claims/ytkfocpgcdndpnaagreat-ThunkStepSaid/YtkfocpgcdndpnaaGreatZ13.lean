/- Parts of the proof: SxMw, SxAx, SxEmp. -/
import Derived.Test.YtkfocpgcdndpnaaGreatZ12
import Derived.Test.YtkfocpgcdndpnaaGreatZ10
/- Whole memories of the program: their own pages, and pages that they share with clones. -/
namespace Go.Sx
set_option linter.unusedSimpArgs false
set_option linter.unusedVariables false
open Go Go.RowKit Go.Cd Go.Proofs.YtkfocpgcdndpnaaGreat Go.MapKept

/-! Blocks, as one number. -/
def pr (i x : Nat) : Nat := 2 ^ i * (2 * x + 1)
theorem pr_inj : ∀ {i j x y : Nat}, pr i x = pr j y → i = j ∧ x = y
  | 0, 0, x, y, h => by simp only [pr, Nat.pow_zero, Nat.one_mul] at h; exact ⟨rfl, by omega⟩
  | 0, j + 1, x, y, h => by
    unfold pr at h
    rw [Nat.pow_succ, Nat.mul_comm (2 ^ j) 2, Nat.mul_assoc] at h
    omega
  | i + 1, 0, x, y, h => by
    unfold pr at h
    rw [Nat.pow_succ, Nat.mul_comm (2 ^ i) 2, Nat.mul_assoc] at h
    omega
  | i + 1, j + 1, x, y, h => by
    have : pr i x = pr j y := by
      unfold pr at h ⊢
      rw [Nat.pow_succ, Nat.pow_succ, Nat.mul_comm (2 ^ i) 2, Nat.mul_assoc, Nat.mul_comm (2 ^ j) 2, Nat.mul_assoc] at h
      omega
    obtain ⟨h1, h2⟩ := pr_inj this
    exact ⟨by omega, h2⟩
/-- The i-th block that a number tells. -/
def CodeIs (c i x : Nat) : Prop := c.testBit (pr i x) = true
theorem exists_code (f : Nat → Nat) : ∀ n, ∃ c, ∀ i x, CodeIs c i x ↔ i < n ∧ x = f i
  | 0 => ⟨0, fun i x => by simp [CodeIs]⟩
  | n + 1 => by
    obtain ⟨c, hc⟩ := exists_code f n
    refine ⟨c ||| 2 ^ pr n (f n), fun i x => ?_⟩
    unfold CodeIs
    rw [Nat.testBit_or, Nat.testBit_two_pow, Bool.or_eq_true]
    constructor
    · rintro (h | h)
      · obtain ⟨h1, h2⟩ := (hc i x).1 h
        exact ⟨by omega, h2⟩
      · obtain ⟨rfl, rfl⟩ := pr_inj (of_decide_eq_true h)
        exact ⟨by omega, rfl⟩
    · rintro ⟨h1, rfl⟩
      by_cases hi : i < n
      · exact .inl ((hc i _).2 ⟨hi, rfl⟩)
      · have : i = n := by omega
        subst this
        exact .inr (by simp)
/-- A memory without pages. -/
def MM.none : MM := ⟨fun _ => false, fun _ => 0, fun _ _ => 0, []⟩
theorem MM.none_ok : MM.none.Ok := ⟨fun _ => rfl, fun _ _ => rfl, List.Pairwise.nil, fun k => by simp [MM.none], by simp [MM.none], fun k h => by simp [MM.none] at h⟩
/-- n bytes written from an address on. -/
def MM.wr (m : MM) (a : Int) (src : Nat → Int) (n : Nat) : MM :=
  { m with bt := fun k j => if (k * 256 + j - a) % 4294967296 < n then src ((k * 256 + j - a) % 4294967296).toNat else m.bt k j }
theorem MM.wr_ok {m : MM} (h : m.Ok) {a : Int} {src : Nat → Int} {n : Nat} (hs : ∀ i, i < n → IntKind.u8.wrap (src i) = src i) : (m.wr a src n).Ok :=
  ⟨h.rt, fun k j => by
    show IntKind.u8.wrap (if _ then _ else _) = if _ then _ else _
    split
    · rename_i hc; exact hs _ (by omega)
    · exact h.bt _ _, h.sorted, h.mem, h.few, h.num⟩
theorem MM.wr_zero (m : MM) (a : Int) (src : Nat → Int) : m.wr a src 0 = m := by
  unfold MM.wr
  congr 1
  funext k j
  rw [if_neg (by omega)]
/-- What the blocks of a memory of the program are. -/
structure MemD where
  es : List MapEntry
  ck : Nat
  eo : List MapEntry
  co : Nat
  pb : Int → Nat
  own : Int → Bool
  bp : Nat
  bo : Nat
  cc : Option Nat
abbrev memT : TypeId := 76
abbrev pageT : TypeId := 83
structure MemOk (m m0 : MM) (code b : Nat) (D : MemD) (F : Nat → Prop) (w : World) : Prop where
  st : w.heap[b]? = some (.cells #[.map D.cc, .map (some D.bp), .map (some D.bo)] memT)
  pm : w.heap[D.bp]? = some (.map D.es.toArray D.ck)
  pmI : MapIs D.es D.ck fun k => if m.dom k then some (.pointer (some ⟨D.pb k, 0, none⟩)) else none
  om : w.heap[D.bo]? = some (.map D.eo.toArray D.co)
  omI : ∃ L, MapIs D.eo D.co L ∧ ∀ k, m.dom k = true → L k = if D.own k then some (.bool true) else none
  cm : ∀ c, D.cc = some c → ∃ es ck L, w.heap[c]? = some (.map es.toArray ck) ∧ MapIs es ck L
  mine : ∀ k, m.dom k = true → D.own k = true → ∃ cs, w.heap[D.pb k]? = some (.cells cs.toArray pageT) ∧ PageAt (m.rt k) (m.bt k) cs
  shared : ∀ k, m.dom k = true → D.own k = false → m0.dom k = true ∧ CodeIs code (m0.pos k) (D.pb k) ∧ m0.rt k = m.rt k ∧ ∀ j : Nat, j < 256 → m0.bt k j = m.bt k j
  inj : ∀ k k', m.dom k = true → m.dom k' = true → D.own k = true → D.own k' = true → D.pb k = D.pb k' → k = k'
  a1 : D.bp ≠ b ∧ D.bo ≠ b ∧ D.bo ≠ D.bp
  a2 : ∀ c, D.cc = some c → c ≠ b ∧ c ≠ D.bp ∧ c ≠ D.bo
  a3 : ∀ k, m.dom k = true → D.own k = true → D.pb k ≠ b ∧ D.pb k ≠ D.bp ∧ D.pb k ≠ D.bo ∧ D.cc ≠ some (D.pb k)
  foot : ∀ x, F x ↔ x = b ∨ x = D.bp ∨ x = D.bo ∨ D.cc = some x ∨ ∃ k, m.dom k = true ∧ D.own k = true ∧ x = D.pb k
/-- The pages of a memory, shared by whoever has them: they never change. -/
def SharedW (m0 : MM) (code : Nat) (F : Nat → Prop) (w : World) : Prop :=
  ∃ pb : Int → Nat, (∀ k, m0.dom k = true → ∀ x, CodeIs code (m0.pos k) x ↔ x = pb k) ∧ (∀ k, m0.dom k = true → ∃ cs, w.heap[pb k]? = some (.cells cs.toArray pageT) ∧ PageAt (m0.rt k) (m0.bt k) cs) ∧
    (∀ k k', m0.dom k = true → m0.dom k' = true → pb k = pb k' → k = k') ∧ ∀ x, F x ↔ ∃ k, m0.dom k = true ∧ x = pb k
/-- A memory; some of its own pages are named. -/
def MemW (m m0 : MM) (code : Nat) (ks : List Int) (rs : List Nat) (b : Nat) (F : Nat → Prop) (w : World) : Prop :=
  ∃ D, MemOk m m0 code b D F w ∧ ∀ (i : Nat) (k : Int) (c : Nat), ks[i]? = some k → rs[i]? = some c → m.dom k = true ∧ D.own k = true ∧ D.pb k = c
theorem MemOk.stable {m m0 : MM} {code b : Nat} {D : MemD} {F : Nat → Prop} {w w' : World} (hw : ∀ x, F x → w'.heap[x]? = w.heap[x]?) (h : MemOk m m0 code b D F w) : MemOk m m0 code b D F w' := by
  have hb := hw b ((h.foot b).2 (.inl rfl))
  have hp := hw D.bp ((h.foot _).2 (.inr (.inl rfl)))
  have ho := hw D.bo ((h.foot _).2 (.inr (.inr (.inl rfl))))
  refine ⟨by rw [hb]; exact h.st, by rw [hp]; exact h.pm, h.pmI, by rw [ho]; exact h.om, h.omI, fun c hc => ?_, fun k hk ho => ?_, h.shared, h.inj, h.a1, h.a2, h.a3, h.foot⟩
  · rw [hw c ((h.foot _).2 (.inr (.inr (.inr (.inl hc)))))]; exact h.cm c hc
  · rw [hw _ ((h.foot _).2 (.inr (.inr (.inr (.inr ⟨k, hk, ho, rfl⟩)))))]; exact h.mine k hk ho
theorem lt_heap {w : World} {x : Nat} {o : Obj} (h : w.heap[x]? = some o) : x < w.heap.size := (Array.getElem?_eq_some_iff.1 h).1
theorem MemOk.lt {m m0 : MM} {code b : Nat} {D : MemD} {F : Nat → Prop} {w : World} (h : MemOk m m0 code b D F w) : ∀ x, F x → x < w.heap.size := by
  intro x hx
  rcases (h.foot x).1 hx with rfl | rfl | rfl | hc | ⟨k, hk, ho, rfl⟩
  · exact lt_heap h.st
  · exact lt_heap h.pm
  · exact lt_heap h.om
  · obtain ⟨es, ck, L, h1, _⟩ := h.cm x hc; exact lt_heap h1
  · obtain ⟨cs, h1, _⟩ := h.mine k hk ho; exact lt_heap h1
def memwA (m m0 : MM) (ks : List Int) (rs : List Nat) : Abs where
  P b F w := match rs with
    | code :: rs => MemW m m0 code ks rs b F w
    | [] => ∀ x, F x → x < w.heap.size
  stable := fun b F w w' hw h => by
    match rs, h with
    | code :: rs, ⟨D, h1, h2⟩ => exact ⟨D, h1.stable hw, h2⟩
    | [], h =>
      intro x hx
      have := h x hx
      have hs := hw x hx
      rw [Array.getElem?_eq_getElem this] at hs
      exact lt_heap hs
  lt := fun b F w h => by
    match rs, h with
    | code :: rs, ⟨D, h1, h2⟩ => exact h1.lt
    | [], h => exact h
theorem memw_weak (m m0 : MM) (ks ks' : List Int) (rs rs' : List Nat) (b : Nat) (F : Nat → Prop) (w : World) (h : (memwA m m0 (ks ++ ks') (rs ++ rs')).P b F w) : (memwA m m0 ks rs).P b F w := by
  have hl := (memwA m m0 (ks ++ ks') (rs ++ rs')).lt b F w h
  match rs, h with
  | code :: rs, ⟨D, h1, h2⟩ =>
    refine ⟨D, h1, fun i k c hk hc => h2 i k c ?_ ?_⟩
    · rw [List.getElem?_append_left (List.getElem?_eq_some_iff.1 hk).1]; exact hk
    · show (rs ++ rs')[i]? = some c
      rw [List.getElem?_append_left (List.getElem?_eq_some_iff.1 hc).1]; exact hc
  | [], h => exact hl
def sharedA (m0 : MM) : Abs where
  P := SharedW m0
  stable := fun b F w w' hw h => by
    obtain ⟨pb, h1, h2, h3, h4⟩ := h
    refine ⟨pb, h1, fun k hk => ?_, h3, h4⟩
    rw [hw _ ((h4 _).2 ⟨k, hk, rfl⟩)]; exact h2 k hk
  lt := fun b F w h x hx => by
    obtain ⟨pb, h1, h2, h3, h4⟩ := h
    obtain ⟨k, hk, rfl⟩ := (h4 x).1 hx
    obtain ⟨cs, h5, _⟩ := h2 k hk
    exact lt_heap h5
theorem sharedW_none (code : Nat) (w : World) : SharedW MM.none code (fun _ => False) w :=
  have no : ∀ k, MM.none.dom k = true → False := fun k hk => Bool.noConfusion hk
  ⟨fun _ => 0, fun k hk => (no k hk).elim, fun k hk => (no k hk).elim, fun k k' hk => (no k hk).elim, fun x => ⟨False.elim, fun ⟨k, hk, _⟩ => no k hk⟩⟩
/-- The maps and pages of a memory, as reading functions see them. -/
theorem MemOk.pmap {m m0 : MM} {code b : Nat} {D : MemD} {F F0 : Nat → Prop} {w : World} (h : MemOk m m0 code b D F w) (hs : SharedW m0 code F0 w) (ha : ∀ x, F x → ¬ F0 x) :
    ∃ F', MemP [D.bp] b (· = b) w ∧ PMapP m [] [] D.bp F' w := by
  obtain ⟨pb, s1, s2, s3, s4⟩ := hs
  have hsh : ∀ k, m.dom k = true → D.own k = false → D.pb k = pb k ∧ m0.dom k = true := fun k hk ho => by
    obtain ⟨q1, q2, _⟩ := h.shared k hk ho
    exact ⟨(s1 k q1 _).1 q2, q1⟩
  have hin : ∀ k, m.dom k = true → D.own k = false → F0 (D.pb k) := fun k hk ho => by
    obtain ⟨q1, q2⟩ := hsh k hk ho
    exact (s4 _).2 ⟨k, q2, q1⟩
  have hmine : ∀ k, m.dom k = true → D.own k = true → F (D.pb k) := fun k hk ho => (h.foot _).2 (.inr (.inr (.inr (.inr ⟨k, hk, ho, rfl⟩))))
  refine ⟨fun x => x = D.bp ∨ ∃ k, m.dom k = true ∧ x = D.pb k, ⟨fun x => Iff.rfl, ?_⟩, D.es, D.ck, D.pb, h.pm, h.pmI.keys, h.pmI.get, fun k hk => ?_, fun k k' hk hk' he => ?_, fun k hk => ?_, fun x => Iff.rfl, fun i k c hk => by cases i <;> cases hk⟩
  · exact ⟨_, _, _, _, h.st, fun r hr => by cases hr; rfl, fun r hr => by cases hr⟩
  · cases ho : D.own k with
    | true =>
      obtain ⟨cs, q1, q2⟩ := h.mine k hk ho
      exact ⟨cs, _, q1, q2⟩
    | false =>
      obtain ⟨q1, q2⟩ := hsh k hk ho
      obtain ⟨_, _, r1, r2⟩ := h.shared k hk ho
      obtain ⟨cs, p1, p2, p3, p4⟩ := s2 k q2
      exact ⟨cs, _, by rw [q1]; exact p1, p2, by rw [← r1]; exact p3, fun j hj => by rw [← r2 j hj]; exact p4 j hj⟩
  · cases ho : D.own k with
    | true => cases ho' : D.own k' with
      | true => exact h.inj k k' hk hk' ho ho' he
      | false => exact absurd (hin k' hk' ho') (by rw [← he]; exact ha _ (hmine k hk ho))
    | false => cases ho' : D.own k' with
      | true => exact absurd (hin k hk ho) (by rw [he]; exact ha _ (hmine k' hk' ho'))
      | false =>
        obtain ⟨q1, q2⟩ := hsh k hk ho
        obtain ⟨q1', q2'⟩ := hsh k' hk' ho'
        exact s3 k k' q2 q2' (by rw [← q1, ← q1']; exact he)
  · cases ho : D.own k with
    | true => exact (h.a3 k hk ho).2.1
    | false => exact fun hc => ha D.bp ((h.foot _).2 (.inr (.inl rfl))) (by rw [← hc]; exact hin k hk ho)
end Go.Sx
/- Operations of one's own: what all of them want. -/
namespace Go.Sx
set_option linter.unusedSimpArgs false
set_option linter.unusedVariables false
open Go Go.RowKit Go.Cd Go.Proofs.YtkfocpgcdndpnaaGreat Go.MapKept

/-- A part of memory that is one block. -/
def blkA (Q : Obj → Prop) : Abs where
  P b F w := (∀ x, F x ↔ x = b) ∧ ∃ o, w.heap[b]? = some o ∧ Q o
  stable := fun b F w w' hw ⟨h1, o, h2, h3⟩ => ⟨h1, o, by rw [hw b ((h1 b).2 rfl)]; exact h2, h3⟩
  lt := fun b F w ⟨h1, o, h2, _⟩ x hx => by
    obtain rfl := (h1 x).1 hx
    exact lt_heap h2
theorem blkA_weak {Q Q' : Obj → Prop} (h : ∀ o, Q o → Q' o) {b : Nat} {F : Nat → Prop} {w : World} : (blkA Q).P b F w → (blkA Q').P b F w := fun ⟨h1, o, h2, h3⟩ => ⟨h1, o, h2, h o h3⟩
section dens
variable [Val] {ρ : Env} {e : Operand → Value}
theorem den1 {a : SV} {x : Operand} (h : SV.DenL ρ [a] ([x].map e)) : a.Den ρ (e x) := by
  obtain ⟨v, _, e1, h1, r1⟩ := denL_cons.1 h
  simp only [List.map_cons, List.map_nil, List.cons.injEq] at e1
  rw [e1.1]; exact h1
theorem den2 {a b : SV} {x y : Operand} (h : SV.DenL ρ [a, b] ([x, y].map e)) : a.Den ρ (e x) ∧ b.Den ρ (e y) := by
  obtain ⟨v, _, e1, h1, r1⟩ := denL_cons.1 h
  obtain ⟨v2, _, e2, h2, r2⟩ := denL_cons.1 r1
  subst e2
  simp only [List.map_cons, List.map_nil, List.cons.injEq] at e1
  rw [e1.1, e1.2.1]; exact ⟨h1, h2⟩
theorem den3 {a b c : SV} {x y z : Operand} (h : SV.DenL ρ [a, b, c] ([x, y, z].map e)) : a.Den ρ (e x) ∧ b.Den ρ (e y) ∧ c.Den ρ (e z) := by
  obtain ⟨v, _, e1, h1, r1⟩ := denL_cons.1 h
  obtain ⟨v2, _, e2, h2, r2⟩ := denL_cons.1 r1
  obtain ⟨v3, _, e3, h3, r3⟩ := denL_cons.1 r2
  subst e3; subst e2
  simp only [List.map_cons, List.map_nil, List.cons.injEq] at e1
  rw [e1.1, e1.2.1, e1.2.2.1]; exact ⟨h1, h2, h3⟩
end dens
section ex
variable {e : Operand → Value} {op : Oper}
theorem ex_lookup {t : TypeId} {m k : Operand} {c : Bool} (h : op.op = .lookup t m k c) : execOp e op = (do pure (.value (← Instr.lookup t (e m) (e k) c))) := by
  obtain ⟨dst, op', ty, pos, after, guard⟩ := op; dsimp only at h; subst h; rfl
theorem ex_mapUpdate {t : TypeId} {m k x : Operand} (h : op.op = .mapUpdate t m k x) : execOp e op = (do Instr.mapUpdate t (e m) (e k) (e x); pure .skip) := by
  obtain ⟨dst, op', ty, pos, after, guard⟩ := op; dsimp only at h; subst h; rfl
theorem ex_mapEntry {t : TypeId} {m k : Operand} (h : op.op = .mapEntry t m k) : execOp e op = (do pure (.value (← Instr.mapEntry t (e m) (e k)))) := by
  obtain ⟨dst, op', ty, pos, after, guard⟩ := op; dsimp only at h; subst h; rfl
theorem ex_entryStore {t : TypeId} {m k x : Operand} (h : op.op = .entryStore t m k x) : execOp e op = (do Instr.entryStore t (e m) (e k) (e x); pure .skip) := by
  obtain ⟨dst, op', ty, pos, after, guard⟩ := op; dsimp only at h; subst h; rfl
theorem ex_load {t : TypeId} {a : Operand} (h : op.op = .load t a) : execOp e op = (do pure (.value (← Instr.loadAt t (e a)))) := by
  obtain ⟨dst, op', ty, pos, after, guard⟩ := op; dsimp only at h; subst h; rfl
end ex
section good
variable {P : Program} {ρ : Env} {X : Nat → Prop} {w0 w w' : World} {look : Look} {fresh : Nat → Prop} {id : Nat}
theorem denH_putA [Val] (d : DenH ρ X w0 look fresh w) {h : Nat} {o o' : SObj} (hl : look h = some o) (hz : o.frz = false) (hz' : o'.frz = false) {b : Nat} (hb : ρ h = some b)
    (hF : ∀ F, OD ρ o b F w → ∀ x, F x ↔ x = b) (hO' : ∀ F, (∀ x, F x ↔ x = b) → OD ρ o' b F w') (hwo : Only b w w') {look' : Look} (hlook : ∀ j, look' j = if j = h then some o' else look j) : DenH ρ X w0 look' fresh w' :=
  d.changed hl hz hz' (Env.le_refl _) (fun b2 F hb2 hO => by
    obtain rfl : b2 = b := by rw [hb] at hb2; injection hb2 with q; exact q.symm
    exact ⟨hO' F (hF F hO), fun x hx => hwo.block x fun hxb => hx ((hF F hO x).2 hxb)⟩) hwo.size hwo.os hwo.tape hwo.output hlook fun j hj => d.newName hj
theorem Good.putA [Val] {h : Nat} {o o' : SObj} {us : List Nat} {sem : Sem Value} {val : Value} {s : SV} (d : DenH ρ X w0 look fresh w) (hl : look h = some o) (hz : o.frz = false) (hz' : o'.frz = false) {b : Nat} (hb : ρ h = some b)
    (hF : ∀ F, OD ρ o b F w → ∀ x, F x ↔ x = b) (hO' : ∀ F, (∀ x, F x ↔ x = b) → OD ρ o' b F w') (hr : sem.run P w = .ok val w') (hwo : Only b w w') (hs : s.Den ρ val) : Good P ρ X w0 look fresh id (s, [.set h o'], us) (do pure (.value (← sem))) w :=
  ⟨_, val, ρ, w', by simp only [Sem.run_bind, hr, Result.andThen_ok, Sem.run_pure], .inl rfl, Env.le_refl _, hs, (denH_putA d hl hz hz' hb hF hO' hwo (look' := looks [.set h o'] look) fun j => rfl).fresh_mono fun _ h => h.1⟩
theorem Good.valE [Val] {us : List Upd} {ts : List Nat} {sem : Sem Value} {val : Value} {s : SV} {ρ' : Env} (hle : ρ.le ρ') (hr : sem.run P w = .ok val w') (hs : s.Den ρ' val) (hd : DenH ρ' X w0 (looks us look) (fun j => fresh j ∧ j ≠ id ∧ j ≠ id + 1) w') : Good P ρ X w0 look fresh id (s, us, ts) (do pure (.value (← sem))) w :=
  ⟨_, val, ρ', w', by simp only [Sem.run_bind, hr, Result.andThen_ok, Sem.run_pure], .inl rfl, hle, hs, hd⟩
theorem Good.skipA [Val] {h : Nat} {o o' : SObj} {us : List Nat} {sem : Sem Unit} (d : DenH ρ X w0 look fresh w) (hl : look h = some o) (hz : o.frz = false) (hz' : o'.frz = false) {b : Nat} (hb : ρ h = some b)
    (hF : ∀ F, OD ρ o b F w → ∀ x, F x ↔ x = b) (hO' : ∀ F, (∀ x, F x ↔ x = b) → OD ρ o' b F w') (hr : sem.run P w = .ok () w') (hwo : Only b w w') : Good P ρ X w0 look fresh id (.tup [], [.set h o'], us) (do sem; pure .skip) w :=
  ⟨.skip, undef, ρ, w', by simp only [Sem.run_bind, hr, Result.andThen_ok, Sem.run_pure], .inr ⟨rfl, rfl⟩, Env.le_refl _, undefS_den, (denH_putA d hl hz hz' hb hF hO' hwo (look' := looks [.set h o'] look) fun j => rfl).fresh_mono fun _ h => h.1⟩
end good
theorem nodup_map_inj {α β : Type} {f : α → β} : ∀ {l : List α}, (l.map f).Nodup → ∀ p ∈ l, ∀ q ∈ l, f p = f q → p = q
  | [], _, p, hp, _, _, _ => by cases hp
  | x :: l, hn, p, hp, q, hq, he => by
    rw [List.map_cons, List.nodup_cons] at hn
    rcases List.mem_cons.1 hp with h1 | h1 <;> rcases List.mem_cons.1 hq with h2 | h2
    · rw [h1, h2]
    · exact absurd (by rw [← h1, he]; exact List.mem_map_of_mem h2) hn.1
    · exact absurd (by rw [← h2, ← he]; exact List.mem_map_of_mem h1) hn.1
    · exact nodup_map_inj hn.2 p h1 q h2 he
/-- A symbolic heap of single blocks. -/
theorem denH_blocks [Val] {ρ : Env} {X : Nat → Prop} {w : World} {fresh : Nat → Prop} (l : List (Nat × SObj × Nat)) (hn : (l.map (·.1)).Nodup) (hb : (l.map (·.2.2)).Nodup)
    (h : ∀ p ∈ l, OD ρ p.2.1 p.2.2 (· = p.2.2) w ∧ X p.2.2 ∧ ρ p.1 = some p.2.2) (hf : ∀ j, fresh j → ρ j = none) : DenH ρ X w (find (l.map fun p => (p.1, p.2.1))) fresh w := by
  have hfind : ∀ (l : List (Nat × SObj × Nat)) (j : Nat) (o : SObj), find (l.map fun p => (p.1, p.2.1)) j = some o → ∃ b, (j, o, b) ∈ l := by
    intro l
    induction l with
    | nil => intro j o hj; cases hj
    | cons p l ih =>
      intro j o hj
      rw [List.map_cons, find_cons] at hj
      split at hj
      · rename_i hjp
        cases hj
        exact ⟨p.2.2, by subst hjp; exact List.mem_cons_self ..⟩
      · obtain ⟨b, hb⟩ := ih j o hj
        exact ⟨b, List.mem_cons_of_mem _ hb⟩
  have uniq : ∀ (p q : Nat × SObj × Nat), p ∈ l → q ∈ l → (p.1 = q.1 ∨ p.2.2 = q.2.2) → p = q := by
    intro p q hp hq hpq
    rcases hpq with e | e
    · exact nodup_map_inj hn p hp q hq e
    · exact nodup_map_inj hb p hp q hq e
  refine ⟨fun j x => ∃ o b, (j, o, b) ∈ l ∧ x = b, ?_, ?_, ?_, hf, fun _ _ _ => rfl, Nat.le_refl _, rfl, rfl, rfl⟩
  · intro j o hj
    obtain ⟨b, hm⟩ := hfind l j o hj
    obtain ⟨h1, h2, h3⟩ := h _ hm
    refine ⟨b, h3, ?_⟩
    have : (fun x => ∃ o b, (j, o, b) ∈ l ∧ x = b) = (· = b) := by
      funext x
      refine propext ⟨fun ⟨o', b', hm', hx⟩ => ?_, fun hx => ⟨o, b, hm, hx⟩⟩
      have := uniq _ _ hm hm' (.inl rfl)
      cases this; exact hx
    rw [this]; exact h1
  · rintro j j' o o' x hj hj' _ ⟨o1, b1, hm1, hx1⟩ ⟨o2, b2, hm2, hx2⟩
    have := uniq _ _ hm1 hm2 (.inr (hx1.symm.trans hx2))
    cases this; rfl
  · rintro j o x hj _ ⟨o1, b1, hm1, rfl⟩
    exact .inr (h _ hm1).2.1
theorem only_putObj' (b : Nat) (o : Obj) (w : World) : Only b w (w.putObj b o) := only_putObj _ _ _
theorem putObj_same {w : World} {b : Nat} {o o' : Obj} (h : w.heap[b]? = some o) : (w.putObj b o').heap[b]? = some o' := World.putObj_heap_same (lt_heap h)
end Go.Sx
/- A range over a map without entries; a law's run, with contracts and operations of one's own. -/
namespace Go.Sx
set_option linter.unusedSimpArgs false
set_option linter.unusedVariables false
open Go Go.RowKit Go.Cd Go.Proofs.YtkfocpgcdndpnaaGreat Go.MapKept
def empAx (P : Program) : Ax := fun look id o xs => match o, xs with
  | .range t _, some [.map h] => match look h, mapOf P t with
    | some (.smap [] _), some _ => some (.val (.ptr id (.lit 0)) [.ins id (.abs 78 .nil [h])] [h])
    | _, _ => none
  | .next _ false, some [.ptr j (.lit 0)] => match look j with
    | some (.abs 78 _ (h :: _)) => match look h with
      | some (.smap [] _) => some (.val (.tup [.bool (.lit false)]) [] [])
      | _ => none
    | _ => none
  | _, _ => none
theorem empAx_safe (P : Program) : AxSafe (empAx P) := fun look id o => by
  cases o <;> try rfl
  rename_i x c
  cases c <;> rfl
def empA (rs : List Nat) : Abs := blkA fun o => ∀ r, rs[0]? = some r → ∃ c, o = .mapIter (some r) c #[] c
theorem empA_weak (rs rs' : List Nat) (b : Nat) (F : Nat → Prop) (w : World) (h : (empA (rs ++ rs')).P b F w) : (empA rs).P b F w :=
  blkA_weak (fun o h r hr => h r (by rw [List.getElem?_append_left (List.getElem?_eq_some_iff.1 hr).1]; exact hr)) h
theorem empAx_ok [V : Val] (hV : ∀ ks rs, V.abs 78 ks rs = empA rs) (P : Program) : AxOk P (empAx P) := by
  intro look id o xs out h ρ X w0 w fresh e op ho hxs d hid hid1
  unfold empAx at h
  split at h <;> try (cases h; done)
  · rename_i t x hh heq
    cases heq
    have d1 := den1 hxs
    simp only [SV.Den] at d1
    obtain ⟨b, hb, hv⟩ := d1
    split at h <;> cases h
    rename_i c pp hl hmo
    obtain ⟨kt, et, z⟩ := pp
    obtain ⟨k0, j, zv, u1, u2, u3, u4, u5⟩ := mapOf_spec hmo
    obtain ⟨b', obj, hb', hobj, ys, hys, rfl⟩ := d.at hl rfl
    obtain rfl : b' = b := by rw [hb] at hb'; injection hb' with q; exact q.symm
    cases hys
    have hex : execOp e op = (do pure (.value (← Instr.range t (e x)))) := by
      obtain ⟨dst, op', ty, pos, after, guard⟩ := op; dsimp only at ho; subst ho; rfl
    have hle : ρ.le (ρ.put id w.heap.size) := Env.le_put _ (d.newName hid)
    rw [hex, hv]
    have hr : (Instr.range t (.map (some b'))).run P w = .ok (.pointer (some ⟨w.heap.size, 0, none⟩)) (w.alloc (.mapIter (some b') c #[] c)) := by
      simp [Instr.range, run_underlying u1, getMap hobj]
    refine Good.valE hle hr (by simp only [SV.Den, SOff.Den]; exact ⟨_, 0, Env.put_same _ _ _, rfl, rfl⟩) ?_
    refine d.allocA (o := .abs 78 .nil [hh]) hle hid (Env.put_same _ _ _) ⟨[b'], ⟨b', [], rfl, hle _ _ hb, rfl⟩, ?_⟩ (fun j => rfl) fun j hj => by rw [Env.put_other _ _ hj.2.1]; exact d.newName hj.1
    rw [hV]
    exact ⟨fun x => Iff.rfl, _, World.alloc_heap_new w _, fun r hr => by cases hr; exact ⟨c, rfl⟩⟩
  · rename_i x j heq
    cases heq
    have d1 := den1 hxs
    simp only [SV.Den, SOff.Den] at d1
    obtain ⟨b, mm, hb, rfl, hv⟩ := d1
    split at h <;> try (cases h; done)
    rename_i a hh rs hl
    split at h <;> cases h
    rename_i c hl2
    have d0 := d
    obtain ⟨φ, dd⟩ := d0
    obtain ⟨b', hb', rs', hrs, hP⟩ := dd.obj _ _ hl
    obtain rfl : b' = b := by rw [hb] at hb'; injection hb' with q; exact q.symm
    rw [hV] at hP
    obtain ⟨r, rs2, rfl, hr, _⟩ := hrs
    obtain ⟨_, obj, hobj, hq⟩ := hP
    obtain ⟨c1, rfl⟩ := hq r rfl
    obtain ⟨bm, obj2, hbm, hobj2, ys, hys, rfl⟩ := d.at hl2 rfl
    obtain rfl : bm = r := by rw [hr] at hbm; injection hbm with q; exact q.symm
    cases hys
    have hex : execOp e op = (do pure (.value (← Instr.next (e x) false op.type))) := by
      obtain ⟨dst, op', ty, pos, after, guard⟩ := op; dsimp only at ho; subst ho; rfl
    rw [hex, hv]
    have hg : (getObj b').run P w = .ok (.mapIter (some bm) c1 #[] c1) w := by simp [getObj, Sem.run, hobj]
    have hg2 : (getObj bm).run P w = .ok (.map #[] c) w := by simp [getObj, Sem.run, hobj2]
    have hr : (Instr.next (.pointer (some ⟨b', 0, none⟩)) false op.type).run P w = .ok (.tuple #[.bool false]) w := by
      simp [Instr.next, hg, hg2]
      intro hc; cases hc
    exact Good.value d hr (by simp only [SV.Den]; exact ⟨[.bool false], denL_cons'.2 ⟨by simp [SV.Den], by simp⟩, rfl⟩)
end Go.Sx
