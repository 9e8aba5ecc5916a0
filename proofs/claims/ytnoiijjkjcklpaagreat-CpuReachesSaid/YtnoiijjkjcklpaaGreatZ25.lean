/- Parts of the proof: SxMw, SxAx, SxPg1, KitSlice, KitPages, MPg. -/
import Derived.Test.YtnoiijjkjcklpaaGreatZ24
import Derived.Test.YtnoiijjkjcklpaaGreatZ23
import Derived.Test.YtnoiijjkjcklpaaGreatZ0
import Derived.Test.YtnoiijjkjcklpaaGreatZ1
import Derived.ChangeSlices
import Derived.RowKit3
import Derived.Laws.IdiomElems
import Derived.Laws.IdiomAt
import Derived.RowKit2
import Derived.Deep.Slices
import Derived.OpenShut
import Derived.Laws.IdiomArrays
import Derived.Test.YtnoiijjkjcklpaaGreatZ21
/- Whole memories of the program: their own pages, and pages that they share with clones. -/
namespace Go.Sx
set_option linter.unusedSimpArgs false
set_option linter.unusedVariables false
open Go Go.RowKit Go.Cd Go.Proofs.YtnoiijjkjcklpaaGreat Go.MapKept

def pr (i x : Nat) : Nat := 2 ^ i * (2 * x + 1)
theorem pr_inj : ∀ {i j x y : Nat}, pr i x = pr j y → i = j ∧ x = y
  | 0, 0, x, y, h => by simp only [pr, Nat.pow_zero, Nat.one_mul] at h; exact ⟨rfl, by omega⟩
  | 0, j + 1, x, y, h => by
    unfold pr at h
    rw [Nat.pow_succ, Nat.mul_comm (2 ^ j) 2, Nat.mul_assoc] at h
    omega
  | i + 1, 0, x, y, h => by
    unfold pr at h
    rw [Nat.pow_succ, Nat.mul_comm (2 ^ i) 2, Nat.mul_assoc] at h
    omega
  | i + 1, j + 1, x, y, h => by
    have : pr i x = pr j y := by
      unfold pr at h ⊢
      rw [Nat.pow_succ, Nat.pow_succ, Nat.mul_comm (2 ^ i) 2, Nat.mul_assoc, Nat.mul_comm (2 ^ j) 2, Nat.mul_assoc] at h
      omega
    obtain ⟨h1, h2⟩ := pr_inj this
    exact ⟨by omega, h2⟩
def CodeIs (c i x : Nat) : Prop := c.testBit (pr i x) = true
theorem exists_code (f : Nat → Nat) : ∀ n, ∃ c, ∀ i x, CodeIs c i x ↔ i < n ∧ x = f i
  | 0 => ⟨0, fun i x => by simp [CodeIs]⟩
  | n + 1 => by
    obtain ⟨c, hc⟩ := exists_code f n
    refine ⟨c ||| 2 ^ pr n (f n), fun i x => ?_⟩
    unfold CodeIs
    rw [Nat.testBit_or, Nat.testBit_two_pow, Bool.or_eq_true]
    constructor
    · rintro (h | h)
      · obtain ⟨h1, h2⟩ := (hc i x).1 h
        exact ⟨by omega, h2⟩
      · obtain ⟨rfl, rfl⟩ := pr_inj (of_decide_eq_true h)
        exact ⟨by omega, rfl⟩
    · rintro ⟨h1, rfl⟩
      by_cases hi : i < n
      · exact .inl ((hc i _).2 ⟨hi, rfl⟩)
      · have : i = n := by omega
        subst this
        exact .inr (by simp)
def MM.none : MM := ⟨fun _ => false, fun _ => 0, fun _ _ => 0, []⟩
theorem MM.none_ok : MM.none.Ok := ⟨fun _ => rfl, fun _ _ => rfl, List.Pairwise.nil, fun k => by simp [MM.none], by simp [MM.none], fun k h => by simp [MM.none] at h⟩
def MM.wr (m : MM) (a : Int) (src : Nat → Int) (n : Nat) : MM :=
  { m with bt := fun k j => if (k * 256 + j - a) % 4294967296 < n then src ((k * 256 + j - a) % 4294967296).toNat else m.bt k j }
theorem MM.wr_ok {m : MM} (h : m.Ok) {a : Int} {src : Nat → Int} {n : Nat} (hs : ∀ i, i < n → IntKind.u8.wrap (src i) = src i) : (m.wr a src n).Ok :=
  ⟨h.rt, fun k j => by
    show IntKind.u8.wrap (if _ then _ else _) = if _ then _ else _
    split
    · rename_i hc; exact hs _ (by omega)
    · exact h.bt _ _, h.sorted, h.mem, h.few, h.num⟩
theorem MM.wr_zero (m : MM) (a : Int) (src : Nat → Int) : m.wr a src 0 = m := by
  unfold MM.wr
  congr 1
  funext k j
  rw [if_neg (by omega)]
structure MemD where
  es : List MapEntry
  ck : Nat
  eo : List MapEntry
  co : Nat
  pb : Int → Nat
  own : Int → Bool
  bp : Nat
  bo : Nat
  cc : Option Nat
abbrev memT : TypeId := 115
abbrev pageT : TypeId := 118
structure MemOk (m m0 : MM) (code b : Nat) (D : MemD) (F : Nat → Prop) (w : World) : Prop where
  st : w.heap[b]? = some (.cells #[.map D.cc, .map (some D.bp), .map (some D.bo)] memT)
  pm : w.heap[D.bp]? = some (.map D.es.toArray D.ck)
  pmI : MapIs D.es D.ck fun k => if m.dom k then some (.pointer (some ⟨D.pb k, 0, none⟩)) else none
  om : w.heap[D.bo]? = some (.map D.eo.toArray D.co)
  omI : ∃ L, MapIs D.eo D.co L ∧ ∀ k, m.dom k = true → L k = if D.own k then some (.bool true) else none
  cm : ∀ c, D.cc = some c → ∃ es ck L, w.heap[c]? = some (.map es.toArray ck) ∧ MapIs es ck L
  mine : ∀ k, m.dom k = true → D.own k = true → ∃ cs, w.heap[D.pb k]? = some (.cells cs.toArray pageT) ∧ PageAt (m.rt k) (m.bt k) cs
  shared : ∀ k, m.dom k = true → D.own k = false → m0.dom k = true ∧ CodeIs code (m0.pos k) (D.pb k) ∧ m0.rt k = m.rt k ∧ ∀ j : Nat, j < 256 → m0.bt k j = m.bt k j
  inj : ∀ k k', m.dom k = true → m.dom k' = true → D.own k = true → D.own k' = true → D.pb k = D.pb k' → k = k'
  a1 : D.bp ≠ b ∧ D.bo ≠ b ∧ D.bo ≠ D.bp
  a2 : ∀ c, D.cc = some c → c ≠ b ∧ c ≠ D.bp ∧ c ≠ D.bo
  a3 : ∀ k, m.dom k = true → D.own k = true → D.pb k ≠ b ∧ D.pb k ≠ D.bp ∧ D.pb k ≠ D.bo ∧ D.cc ≠ some (D.pb k)
  foot : ∀ x, F x ↔ x = b ∨ x = D.bp ∨ x = D.bo ∨ D.cc = some x ∨ ∃ k, m.dom k = true ∧ D.own k = true ∧ x = D.pb k
def SharedW (m0 : MM) (code : Nat) (F : Nat → Prop) (w : World) : Prop :=
  ∃ pb : Int → Nat, (∀ k, m0.dom k = true → ∀ x, CodeIs code (m0.pos k) x ↔ x = pb k) ∧ (∀ k, m0.dom k = true → ∃ cs, w.heap[pb k]? = some (.cells cs.toArray pageT) ∧ PageAt (m0.rt k) (m0.bt k) cs) ∧
    (∀ k k', m0.dom k = true → m0.dom k' = true → pb k = pb k' → k = k') ∧ ∀ x, F x ↔ ∃ k, m0.dom k = true ∧ x = pb k
def MemW (m m0 : MM) (code : Nat) (ks : List Int) (rs : List Nat) (b : Nat) (F : Nat → Prop) (w : World) : Prop :=
  ∃ D, MemOk m m0 code b D F w ∧ ∀ (i : Nat) (k : Int) (c : Nat), ks[i]? = some k → rs[i]? = some c → m.dom k = true ∧ D.own k = true ∧ D.pb k = c
theorem MemOk.stable {m m0 : MM} {code b : Nat} {D : MemD} {F : Nat → Prop} {w w' : World} (hw : ∀ x, F x → w'.heap[x]? = w.heap[x]?) (h : MemOk m m0 code b D F w) : MemOk m m0 code b D F w' := by
  have hb := hw b ((h.foot b).2 (.inl rfl))
  have hp := hw D.bp ((h.foot _).2 (.inr (.inl rfl)))
  have ho := hw D.bo ((h.foot _).2 (.inr (.inr (.inl rfl))))
  refine ⟨by rw [hb]; exact h.st, by rw [hp]; exact h.pm, h.pmI, by rw [ho]; exact h.om, h.omI, fun c hc => ?_, fun k hk ho => ?_, h.shared, h.inj, h.a1, h.a2, h.a3, h.foot⟩
  · rw [hw c ((h.foot _).2 (.inr (.inr (.inr (.inl hc)))))]; exact h.cm c hc
  · rw [hw _ ((h.foot _).2 (.inr (.inr (.inr (.inr ⟨k, hk, ho, rfl⟩)))))]; exact h.mine k hk ho
theorem lt_heap {w : World} {x : Nat} {o : Obj} (h : w.heap[x]? = some o) : x < w.heap.size := (Array.getElem?_eq_some_iff.1 h).1
theorem MemOk.lt {m m0 : MM} {code b : Nat} {D : MemD} {F : Nat → Prop} {w : World} (h : MemOk m m0 code b D F w) : ∀ x, F x → x < w.heap.size := by
  intro x hx
  rcases (h.foot x).1 hx with rfl | rfl | rfl | hc | ⟨k, hk, ho, rfl⟩
  · exact lt_heap h.st
  · exact lt_heap h.pm
  · exact lt_heap h.om
  · obtain ⟨es, ck, L, h1, _⟩ := h.cm x hc; exact lt_heap h1
  · obtain ⟨cs, h1, _⟩ := h.mine k hk ho; exact lt_heap h1
def memwA (m m0 : MM) (ks : List Int) (rs : List Nat) : Abs where
  P b F w := match rs with
    | code :: rs => MemW m m0 code ks rs b F w
    | [] => ∀ x, F x → x < w.heap.size
  stable := fun b F w w' hw h => by
    match rs, h with
    | code :: rs, ⟨D, h1, h2⟩ => exact ⟨D, h1.stable hw, h2⟩
    | [], h =>
      intro x hx
      have := h x hx
      have hs := hw x hx
      rw [Array.getElem?_eq_getElem this] at hs
      exact lt_heap hs
  lt := fun b F w h => by
    match rs, h with
    | code :: rs, ⟨D, h1, h2⟩ => exact h1.lt
    | [], h => exact h
theorem memw_weak (m m0 : MM) (ks ks' : List Int) (rs rs' : List Nat) (b : Nat) (F : Nat → Prop) (w : World) (h : (memwA m m0 (ks ++ ks') (rs ++ rs')).P b F w) : (memwA m m0 ks rs).P b F w := by
  have hl := (memwA m m0 (ks ++ ks') (rs ++ rs')).lt b F w h
  match rs, h with
  | code :: rs, ⟨D, h1, h2⟩ =>
    refine ⟨D, h1, fun i k c hk hc => h2 i k c ?_ ?_⟩
    · rw [List.getElem?_append_left (List.getElem?_eq_some_iff.1 hk).1]; exact hk
    · show (rs ++ rs')[i]? = some c
      rw [List.getElem?_append_left (List.getElem?_eq_some_iff.1 hc).1]; exact hc
  | [], h => exact hl
def sharedA (m0 : MM) : Abs where
  P := SharedW m0
  stable := fun b F w w' hw h => by
    obtain ⟨pb, h1, h2, h3, h4⟩ := h
    refine ⟨pb, h1, fun k hk => ?_, h3, h4⟩
    rw [hw _ ((h4 _).2 ⟨k, hk, rfl⟩)]; exact h2 k hk
  lt := fun b F w h x hx => by
    obtain ⟨pb, h1, h2, h3, h4⟩ := h
    obtain ⟨k, hk, rfl⟩ := (h4 x).1 hx
    obtain ⟨cs, h5, _⟩ := h2 k hk
    exact lt_heap h5
theorem sharedW_none (code : Nat) (w : World) : SharedW MM.none code (fun _ => False) w :=
  have no : ∀ k, MM.none.dom k = true → False := fun k hk => Bool.noConfusion hk
  ⟨fun _ => 0, fun k hk => (no k hk).elim, fun k hk => (no k hk).elim, fun k k' hk => (no k hk).elim, fun x => ⟨False.elim, fun ⟨k, hk, _⟩ => no k hk⟩⟩
theorem MemOk.pmap {m m0 : MM} {code b : Nat} {D : MemD} {F F0 : Nat → Prop} {w : World} (h : MemOk m m0 code b D F w) (hs : SharedW m0 code F0 w) (ha : ∀ x, F x → ¬ F0 x) :
    ∃ F', MemP [D.bp] b (· = b) w ∧ PMapP m [] [] D.bp F' w := by
  obtain ⟨pb, s1, s2, s3, s4⟩ := hs
  have hsh : ∀ k, m.dom k = true → D.own k = false → D.pb k = pb k ∧ m0.dom k = true := fun k hk ho => by
    obtain ⟨q1, q2, _⟩ := h.shared k hk ho
    exact ⟨(s1 k q1 _).1 q2, q1⟩
  have hin : ∀ k, m.dom k = true → D.own k = false → F0 (D.pb k) := fun k hk ho => by
    obtain ⟨q1, q2⟩ := hsh k hk ho
    exact (s4 _).2 ⟨k, q2, q1⟩
  have hmine : ∀ k, m.dom k = true → D.own k = true → F (D.pb k) := fun k hk ho => (h.foot _).2 (.inr (.inr (.inr (.inr ⟨k, hk, ho, rfl⟩))))
  refine ⟨fun x => x = D.bp ∨ ∃ k, m.dom k = true ∧ x = D.pb k, ⟨fun x => Iff.rfl, ?_⟩, D.es, D.ck, D.pb, h.pm, h.pmI.keys, h.pmI.get, fun k hk => ?_, fun k k' hk hk' he => ?_, fun k hk => ?_, fun x => Iff.rfl, fun i k c hk => by cases i <;> cases hk⟩
  · exact ⟨_, _, _, _, h.st, fun r hr => by cases hr; rfl, fun r hr => by cases hr⟩
  · cases ho : D.own k with
    | true =>
      obtain ⟨cs, q1, q2⟩ := h.mine k hk ho
      exact ⟨cs, _, q1, q2⟩
    | false =>
      obtain ⟨q1, q2⟩ := hsh k hk ho
      obtain ⟨_, _, r1, r2⟩ := h.shared k hk ho
      obtain ⟨cs, p1, p2, p3, p4⟩ := s2 k q2
      exact ⟨cs, _, by rw [q1]; exact p1, p2, by rw [← r1]; exact p3, fun j hj => by rw [← r2 j hj]; exact p4 j hj⟩
  · cases ho : D.own k with
    | true => cases ho' : D.own k' with
      | true => exact h.inj k k' hk hk' ho ho' he
      | false => exact absurd (hin k' hk' ho') (by rw [← he]; exact ha _ (hmine k hk ho))
    | false => cases ho' : D.own k' with
      | true => exact absurd (hin k hk ho) (by rw [he]; exact ha _ (hmine k' hk' ho'))
      | false =>
        obtain ⟨q1, q2⟩ := hsh k hk ho
        obtain ⟨q1', q2'⟩ := hsh k' hk' ho'
        exact s3 k k' q2 q2' (by rw [← q1, ← q1']; exact he)
  · cases ho : D.own k with
    | true => exact (h.a3 k hk ho).2.1
    | false => exact fun hc => ha D.bp ((h.foot _).2 (.inr (.inl rfl))) (by rw [← hc]; exact hin k hk ho)
end Go.Sx
/- Operations of one's own: what all of them want. -/
namespace Go.Sx
set_option linter.unusedSimpArgs false
set_option linter.unusedVariables false
open Go Go.RowKit Go.Cd Go.Proofs.YtnoiijjkjcklpaaGreat Go.MapKept

def blkA (Q : Obj → Prop) : Abs where
  P b F w := (∀ x, F x ↔ x = b) ∧ ∃ o, w.heap[b]? = some o ∧ Q o
  stable := fun b F w w' hw ⟨h1, o, h2, h3⟩ => ⟨h1, o, by rw [hw b ((h1 b).2 rfl)]; exact h2, h3⟩
  lt := fun b F w ⟨h1, o, h2, _⟩ x hx => by
    obtain rfl := (h1 x).1 hx
    exact lt_heap h2
theorem blkA_weak {Q Q' : Obj → Prop} (h : ∀ o, Q o → Q' o) {b : Nat} {F : Nat → Prop} {w : World} : (blkA Q).P b F w → (blkA Q').P b F w := fun ⟨h1, o, h2, h3⟩ => ⟨h1, o, h2, h o h3⟩
section dens
variable [Val] {ρ : Env} {e : Operand → Value}
theorem den1 {a : SV} {x : Operand} (h : SV.DenL ρ [a] ([x].map e)) : a.Den ρ (e x) := by
  obtain ⟨v, _, e1, h1, r1⟩ := denL_cons.1 h
  simp only [List.map_cons, List.map_nil, List.cons.injEq] at e1
  rw [e1.1]; exact h1
theorem den2 {a b : SV} {x y : Operand} (h : SV.DenL ρ [a, b] ([x, y].map e)) : a.Den ρ (e x) ∧ b.Den ρ (e y) := by
  obtain ⟨v, _, e1, h1, r1⟩ := denL_cons.1 h
  obtain ⟨v2, _, e2, h2, r2⟩ := denL_cons.1 r1
  subst e2
  simp only [List.map_cons, List.map_nil, List.cons.injEq] at e1
  rw [e1.1, e1.2.1]; exact ⟨h1, h2⟩
theorem den3 {a b c : SV} {x y z : Operand} (h : SV.DenL ρ [a, b, c] ([x, y, z].map e)) : a.Den ρ (e x) ∧ b.Den ρ (e y) ∧ c.Den ρ (e z) := by
  obtain ⟨v, _, e1, h1, r1⟩ := denL_cons.1 h
  obtain ⟨v2, _, e2, h2, r2⟩ := denL_cons.1 r1
  obtain ⟨v3, _, e3, h3, r3⟩ := denL_cons.1 r2
  subst e3; subst e2
  simp only [List.map_cons, List.map_nil, List.cons.injEq] at e1
  rw [e1.1, e1.2.1, e1.2.2.1]; exact ⟨h1, h2, h3⟩
end dens
section ex
variable {e : Operand → Value} {op : Oper}
theorem ex_lookup {t : TypeId} {m k : Operand} {c : Bool} (h : op.op = .lookup t m k c) : execOp e op = (do pure (.value (← Instr.lookup t (e m) (e k) c))) := by
  obtain ⟨dst, op', ty, pos, after, guard⟩ := op; dsimp only at h; subst h; rfl
theorem ex_mapUpdate {t : TypeId} {m k x : Operand} (h : op.op = .mapUpdate t m k x) : execOp e op = (do Instr.mapUpdate t (e m) (e k) (e x); pure .skip) := by
  obtain ⟨dst, op', ty, pos, after, guard⟩ := op; dsimp only at h; subst h; rfl
theorem ex_mapEntry {t : TypeId} {m k : Operand} (h : op.op = .mapEntry t m k) : execOp e op = (do pure (.value (← Instr.mapEntry t (e m) (e k)))) := by
  obtain ⟨dst, op', ty, pos, after, guard⟩ := op; dsimp only at h; subst h; rfl
theorem ex_entryStore {t : TypeId} {m k x : Operand} (h : op.op = .entryStore t m k x) : execOp e op = (do Instr.entryStore t (e m) (e k) (e x); pure .skip) := by
  obtain ⟨dst, op', ty, pos, after, guard⟩ := op; dsimp only at h; subst h; rfl
theorem ex_load {t : TypeId} {a : Operand} (h : op.op = .load t a) : execOp e op = (do pure (.value (← Instr.loadAt t (e a)))) := by
  obtain ⟨dst, op', ty, pos, after, guard⟩ := op; dsimp only at h; subst h; rfl
end ex
section good
variable {P : Program} {ρ : Env} {X : Nat → Prop} {w0 w w' : World} {look : Look} {fresh : Nat → Prop} {id : Nat}
theorem denH_putA [Val] (d : DenH ρ X w0 look fresh w) {h : Nat} {o o' : SObj} (hl : look h = some o) (hz : o.frz = false) (hz' : o'.frz = false) {b : Nat} (hb : ρ h = some b)
    (hF : ∀ F, OD ρ o b F w → ∀ x, F x ↔ x = b) (hO' : ∀ F, (∀ x, F x ↔ x = b) → OD ρ o' b F w') (hwo : Only b w w') {look' : Look} (hlook : ∀ j, look' j = if j = h then some o' else look j) : DenH ρ X w0 look' fresh w' :=
  d.changed hl hz hz' (Env.le_refl _) (fun b2 F hb2 hO => by
    obtain rfl : b2 = b := by rw [hb] at hb2; injection hb2 with q; exact q.symm
    exact ⟨hO' F (hF F hO), fun x hx => hwo.block x fun hxb => hx ((hF F hO x).2 hxb)⟩) hwo.size hwo.os hwo.tape hwo.output hlook fun j hj => d.newName hj
theorem Good.putA [Val] {h : Nat} {o o' : SObj} {us : List Nat} {sem : Sem Value} {val : Value} {s : SV} (d : DenH ρ X w0 look fresh w) (hl : look h = some o) (hz : o.frz = false) (hz' : o'.frz = false) {b : Nat} (hb : ρ h = some b)
    (hF : ∀ F, OD ρ o b F w → ∀ x, F x ↔ x = b) (hO' : ∀ F, (∀ x, F x ↔ x = b) → OD ρ o' b F w') (hr : sem.run P w = .ok val w') (hwo : Only b w w') (hs : s.Den ρ val) : Good P ρ X w0 look fresh id (s, [.set h o'], us) (do pure (.value (← sem))) w :=
  ⟨_, val, ρ, w', by simp only [Sem.run_bind, hr, Result.andThen_ok, Sem.run_pure], .inl rfl, Env.le_refl _, hs, (denH_putA d hl hz hz' hb hF hO' hwo (look' := looks [.set h o'] look) fun j => rfl).fresh_mono fun _ h => h.1⟩
theorem Good.valE [Val] {us : List Upd} {ts : List Nat} {sem : Sem Value} {val : Value} {s : SV} {ρ' : Env} (hle : ρ.le ρ') (hr : sem.run P w = .ok val w') (hs : s.Den ρ' val) (hd : DenH ρ' X w0 (looks us look) (fun j => fresh j ∧ j ≠ id ∧ j ≠ id + 1) w') : Good P ρ X w0 look fresh id (s, us, ts) (do pure (.value (← sem))) w :=
  ⟨_, val, ρ', w', by simp only [Sem.run_bind, hr, Result.andThen_ok, Sem.run_pure], .inl rfl, hle, hs, hd⟩
theorem Good.skipA [Val] {h : Nat} {o o' : SObj} {us : List Nat} {sem : Sem Unit} (d : DenH ρ X w0 look fresh w) (hl : look h = some o) (hz : o.frz = false) (hz' : o'.frz = false) {b : Nat} (hb : ρ h = some b)
    (hF : ∀ F, OD ρ o b F w → ∀ x, F x ↔ x = b) (hO' : ∀ F, (∀ x, F x ↔ x = b) → OD ρ o' b F w') (hr : sem.run P w = .ok () w') (hwo : Only b w w') : Good P ρ X w0 look fresh id (.tup [], [.set h o'], us) (do sem; pure .skip) w :=
  ⟨.skip, undef, ρ, w', by simp only [Sem.run_bind, hr, Result.andThen_ok, Sem.run_pure], .inr ⟨rfl, rfl⟩, Env.le_refl _, undefS_den, (denH_putA d hl hz hz' hb hF hO' hwo (look' := looks [.set h o'] look) fun j => rfl).fresh_mono fun _ h => h.1⟩
end good
theorem nodup_map_inj {α β : Type} {f : α → β} : ∀ {l : List α}, (l.map f).Nodup → ∀ p ∈ l, ∀ q ∈ l, f p = f q → p = q
  | [], _, p, hp, _, _, _ => by cases hp
  | x :: l, hn, p, hp, q, hq, he => by
    rw [List.map_cons, List.nodup_cons] at hn
    rcases List.mem_cons.1 hp with h1 | h1 <;> rcases List.mem_cons.1 hq with h2 | h2
    · rw [h1, h2]
    · exact absurd (by rw [← h1, he]; exact List.mem_map_of_mem h2) hn.1
    · exact absurd (by rw [← h2, ← he]; exact List.mem_map_of_mem h1) hn.1
    · exact nodup_map_inj hn.2 p h1 q h2 he
theorem denH_blocks [Val] {ρ : Env} {X : Nat → Prop} {w : World} {fresh : Nat → Prop} (l : List (Nat × SObj × Nat)) (hn : (l.map (·.1)).Nodup) (hb : (l.map (·.2.2)).Nodup)
    (h : ∀ p ∈ l, OD ρ p.2.1 p.2.2 (· = p.2.2) w ∧ X p.2.2 ∧ ρ p.1 = some p.2.2) (hf : ∀ j, fresh j → ρ j = none) : DenH ρ X w (find (l.map fun p => (p.1, p.2.1))) fresh w := by
  have hfind : ∀ (l : List (Nat × SObj × Nat)) (j : Nat) (o : SObj), find (l.map fun p => (p.1, p.2.1)) j = some o → ∃ b, (j, o, b) ∈ l := by
    intro l
    induction l with
    | nil => intro j o hj; cases hj
    | cons p l ih =>
      intro j o hj
      rw [List.map_cons, find_cons] at hj
      split at hj
      · rename_i hjp
        cases hj
        exact ⟨p.2.2, by subst hjp; exact List.mem_cons_self ..⟩
      · obtain ⟨b, hb⟩ := ih j o hj
        exact ⟨b, List.mem_cons_of_mem _ hb⟩
  have uniq : ∀ (p q : Nat × SObj × Nat), p ∈ l → q ∈ l → (p.1 = q.1 ∨ p.2.2 = q.2.2) → p = q := by
    intro p q hp hq hpq
    rcases hpq with e | e
    · exact nodup_map_inj hn p hp q hq e
    · exact nodup_map_inj hb p hp q hq e
  refine ⟨fun j x => ∃ o b, (j, o, b) ∈ l ∧ x = b, ?_, ?_, ?_, hf, fun _ _ _ => rfl, Nat.le_refl _, rfl, rfl, rfl⟩
  · intro j o hj
    obtain ⟨b, hm⟩ := hfind l j o hj
    obtain ⟨h1, h2, h3⟩ := h _ hm
    refine ⟨b, h3, ?_⟩
    have : (fun x => ∃ o b, (j, o, b) ∈ l ∧ x = b) = (· = b) := by
      funext x
      refine propext ⟨fun ⟨o', b', hm', hx⟩ => ?_, fun hx => ⟨o, b, hm, hx⟩⟩
      have := uniq _ _ hm hm' (.inl rfl)
      cases this; exact hx
    rw [this]; exact h1
  · rintro j j' o o' x hj hj' _ ⟨o1, b1, hm1, hx1⟩ ⟨o2, b2, hm2, hx2⟩
    have := uniq _ _ hm1 hm2 (.inr (hx1.symm.trans hx2))
    cases this; rfl
  · rintro j o x hj _ ⟨o1, b1, hm1, rfl⟩
    exact .inr (h _ hm1).2.1
theorem only_putObj' (b : Nat) (o : Obj) (w : World) : Only b w (w.putObj b o) := only_putObj _ _ _
theorem putObj_same {w : World} {b : Nat} {o o' : Obj} (h : w.heap[b]? = some o) : (w.putObj b o').heap[b]? = some o' := World.putObj_heap_same (lt_heap h)
end Go.Sx
/- Parts of memory that become one; appending to a row, whatever it holds. -/
namespace Go.Sx
set_option linter.unusedSimpArgs false
set_option linter.unusedVariables false
open Go Go.RowKit Go.Cd Go.Proofs.YtnoiijjkjcklpaaGreat Go.MapKept
theorem DenH.gather [Val] {ρ ρ' : Env} {X : Nat → Prop} {w0 w w' : World} {look look' : Look} {fresh fresh' : Nat → Prop} (d : DenH ρ X w0 look fresh w) (G : Nat → Prop) {k : Nat} {o' : SObj}
    (hG : ∀ j, G j → ∃ o, look j = some o ∧ o.frz = false) (hle : ρ.le ρ') {b' : Nat} (hb' : ρ' k = some b')
    (hF : ∀ φ, DenHφ φ ρ X w0 look fresh w → ∃ F', OD ρ' o' b' F' w' ∧ (∀ x, F' x → (∃ j, G j ∧ φ j x) ∨ w.heap.size ≤ x) ∧ ∀ x, x < w.heap.size → (∀ j, G j → ¬ φ j x) → w'.heap[x]? = w.heap[x]?)
    (hs : w.heap.size ≤ w'.heap.size) (hos : w'.os = w.os) (ht : w'.tape = w.tape) (hout : w'.output = w.output)
    (hlook : ∀ j, j ≠ k → ∀ o, look' j = some o → look j = some o ∧ ¬ G j) (hlk : ∀ o, look' k = some o → o = o') (hf : ∀ j, fresh' j → ρ' j = none) : DenH ρ' X w0 look' fresh' w' := by
  obtain ⟨φ, d⟩ := d
  obtain ⟨F', h1, h2, h3⟩ := hF φ d
  have hkeep : ∀ j o x, look j = some o → ¬ G j → φ j x → w'.heap[x]? = w.heap[x]? := fun j o x hj hg hx => by
    obtain ⟨b, f1, f2⟩ := d.obj j o hj
    refine h3 x (f2.lt hx) fun g hg' hgx => ?_
    obtain ⟨og, g1, g2⟩ := hG g hg'
    exact hg (d.apart g j og o x g1 hj g2 hgx hx ▸ hg')
  have hdis : ∀ j o x, look j = some o → ¬ G j → φ j x → F' x → False := fun j o x hj hg hx hx' => by
    obtain ⟨b, f1, f2⟩ := d.obj j o hj
    rcases h2 x hx' with ⟨g, hg', hgx⟩ | hlt
    · obtain ⟨og, g1, g2⟩ := hG g hg'
      exact hg (d.apart g j og o x g1 hj g2 hgx hx ▸ hg')
    · have := f2.lt hx; omega
  refine ⟨fun j x => if j = k then F' x else φ j x, ?_, ?_, ?_, hf, ?_, Nat.le_trans d.size hs, hos.trans d.os, ht.trans d.tape, hout.trans d.output⟩
  · intro j o hj
    by_cases e : j = k
    · subst e
      have := hlk o hj; subst this
      refine ⟨b', hb', ?_⟩
      have : (fun x => if j = j then F' x else φ j x) = F' := by funext x; simp
      rw [this]; exact h1
    · obtain ⟨q1, q2⟩ := hlook j e o hj
      obtain ⟨b, f1, f2⟩ := d.obj j o q1
      refine ⟨b, hle _ _ f1, OD.keep hle (w := w) (fun x hx => ?_) (by simpa [e] using f2)⟩
      simp only [e, if_false] at hx
      exact hkeep j o x q1 q2 hx
  · intro j j' o1 o2 x hj hj' hz hx hx'
    by_cases e : j = k <;> by_cases e' : j' = k
    · rw [e, e']
    · rw [if_pos e] at hx; rw [if_neg e'] at hx'
      obtain ⟨q1, q2⟩ := hlook j' e' o2 hj'
      exact (hdis j' o2 x q1 q2 hx' hx).elim
    · rw [if_neg e] at hx; rw [if_pos e'] at hx'
      obtain ⟨q1, q2⟩ := hlook j e o1 hj
      exact (hdis j o1 x q1 q2 hx hx').elim
    · rw [if_neg e] at hx; rw [if_neg e'] at hx'
      exact d.apart j j' o1 o2 x (hlook j e o1 hj).1 (hlook j' e' o2 hj').1 hz hx hx'
  · intro j o x hj hz hx
    by_cases e : j = k
    · rw [if_pos e] at hx
      rcases h2 x hx with ⟨g, hg', hgx⟩ | hlt
      · obtain ⟨og, g1, g2⟩ := hG g hg'
        exact d.own g og x g1 g2 hgx
      · exact .inl (Nat.le_trans d.size hlt)
    · rw [if_neg e] at hx
      exact d.own j o x (hlook j e o hj).1 hz hx
  · intro x hx hX
    have hlt : x < w.heap.size := Nat.lt_of_lt_of_le hx d.size
    rw [h3 x hlt fun g hg' hgx => ?_]
    · exact d.frame x hx hX
    · obtain ⟨og, g1, g2⟩ := hG g hg'
      rcases d.own g og x g1 g2 hgx with h | h
      · omega
      · exact hX h
section
variable {P : Program}
structure AppOut (w w' : World) (sv : Value) (e : TypeId) (sz n k κ' b' : Nat) (cs vs cs' : List Value) : Prop where
  at' : w'.heap[b']? = some (.cells cs'.toArray e)
  len : cs'.length = κ' * sz
  room : n + k ≤ κ'
  old : ∀ j, j < n * sz → cs'[j]? = cs[j]?
  new : ∀ j, j < k * sz → cs'[n * sz + j]? = vs[j]?
  size : w.heap.size ≤ w'.heap.size
  os : w'.os = w.os
  tape : w'.tape = w.tape
  output : w'.output = w.output
  where' : (∃ κ, sv = .slice (some ⟨b', 0, none⟩) n κ) ∧ Only b' w w' ∨ b' = w.heap.size ∧ ∀ x, x < w.heap.size → w'.heap[x]? = w.heap[x]?
theorem run_app_any [Val] {w : World} {t u ty e : TypeId} {te : TyI} {i : TypeInfo} {z : Value} (ht : P.underlying t = some (.slice e)) (hu : ∃ dd, P.underlying u = some dd ∧ (dd matches .int _) = false) (hte : tyOf P e = some te) (hi : P.info? e = some i) (hz : i.zero = some z) (hb : i.bytes = te.bytes) (hzs : z.cells.size = te.size)
    {sv xv : Value} {n κ k : Nat} {cs vs : List Value} (hs : (sv = .slice none 0 0 ∧ n = 0 ∧ κ = 0) ∨ ∃ b, sv = .slice (some ⟨b, 0, none⟩) n κ ∧ w.heap[b]? = some (.cells cs.toArray e) ∧ cs.length = κ * te.size)
    (hn : n ≤ κ) (hvl : vs.length = k * te.size) (h1 : ∀ v ∈ vs, v.oneCell' = true) (hk : 1 ≤ k) (hl : (Builtin.lenOf xv).run P w = .ok k w)
    (hf : ∀ dr, (Builtin.firstCells te.size k xv).run P { w with drawn := dr } = .ok vs.toArray { w with drawn := dr }) (hfit : (n + k) * te.bytes ≤ 140737488355328) (h63 : n + k ≤ 140737488355328) :
    ∃ b' κ' cs' w', (Builtin.append_ #[t, u] ty #[sv, xv]).run P w = .ok (.slice (some ⟨b', 0, none⟩) (n + k) κ') w' ∧ AppOut w w' sv e te.size n k κ' b' cs vs cs' := by
  have hf0 : (Builtin.firstCells te.size k xv).run P w = .ok vs.toArray w := hf w.drawn
  have hf1 : (Builtin.firstCells te.size k xv).run P w.drew = .ok vs.toArray w.drew := hf (w.drawn + 1)
  have hzl : ∀ cap, (Builtin.zeroCells z.cells (grownCap w (n + k) cap e - (n + k))).toList.length = (grownCap w (n + k) cap e - (n + k)) * te.size := fun cap => by
    rw [Array.length_toList, size_zeroCells, hzs]
  have hmul : ∀ cap, (n + k) * te.size + (grownCap w (n + k) cap e - (n + k)) * te.size = grownCap w (n + k) cap e * te.size := fun cap => by
    have := grownCap_ge w (n + k) cap e
    rw [← Nat.add_mul]; congr 1; omega
  rcases hs with ⟨rfl, rfl, rfl⟩ | ⟨b, rfl, hcb, hcl⟩
  · have hr := run_app_new (w := w) (ty := ty) ht hu hte hi hz hb none 0 0 k xv [] vs hl hf1 (by simp [Builtin.firstCells]) (by omega) (by simpa using hfit) (by omega)
    have hge := grownCap_ge w (0 + k) 0 e
    refine ⟨_, _, _, _, hr, ⟨World.alloc_heap_new w.drew _, ?_, hge, fun j hj => by simp at hj, fun j hj => ?_, by simp, rfl, rfl, rfl, .inr ⟨rfl, fun x hx => Below.heap_alloc w.drew _ x hx⟩⟩⟩
    · have := hmul 0
      rw [List.nil_append, List.length_append, hvl, hzl, ← this, Nat.zero_add]
    · rw [Nat.zero_mul, List.nil_append, List.getElem?_append_left (by omega), Nat.zero_add]
  · by_cases hroom : n + k ≤ κ
    · have hsz : n * te.size + vs.length ≤ cs.toArray.size := by
        rw [hvl, ← Nat.add_mul]; simp only [List.size_toArray, hcl]; exact Nat.mul_le_mul_right _ hroom
      have hst : (storeCells (Addr.add ⟨b, 0, none⟩ (n * te.size)) vs).run P w = .ok () (w.setCells b (n * te.size) vs) := by
        rw [add_mk, Nat.zero_add]
        exact run_storeAt hcb hsz h1
      have hr := run_app_in (ty := ty) ht hu hte ⟨b, 0, none⟩ n κ k xv vs hl hf0 hroom hst
      have hon := only_setCells b vs (n * te.size) w
      refine ⟨b, κ, (spl cs.toArray (n * te.size) vs).toList, _, hr, ⟨by rw [Array.toArray_toList]; exact setCells_at vs _ w _ hcb, ?_, hroom, fun j hj => ?_, fun j hj => ?_, by rw [hon.size]; exact Nat.le_refl _, hon.os, hon.tape, hon.output, .inl ⟨⟨κ, rfl⟩, hon⟩⟩⟩
      · simp only [Array.length_toList, spl_size]
        simpa using hcl
      · rw [Array.getElem?_toList, spl_get _ _ _ _ hsz, if_neg (by omega)]; simp
      · rw [Array.getElem?_toList, spl_get _ _ _ _ hsz, if_pos (by omega)]
        congr 1; omega
    · have hol : (cs.take (n * te.size)).length = n * te.size := by
        rw [List.length_take, hcl]
        have := Nat.mul_le_mul_right te.size hn
        omega
      have hold : (Builtin.firstCells te.size n (.slice (some ⟨b, 0, none⟩) n κ)).run P w.drew = .ok (cs.take (n * te.size)).toArray w.drew := by
        refine run_firstCells_some (P := P) _ te.size n ⟨b, 0, none⟩ n κ _ hol fun j v hj => ?_
        rw [add_mk, Nat.zero_add]
        have hjn := (List.getElem?_eq_some_iff.1 hj).1
        rw [hol] at hjn
        refine cell_of_heap (w := w.drew) hcb ?_
        rw [List.getElem?_toArray, ← hj, List.getElem?_take, if_pos hjn]
      have hr := run_app_new (w := w) (ty := ty) ht hu hte hi hz hb (some ⟨b, 0, none⟩) n κ k xv (cs.take (n * te.size)) vs hl hf1 hold (by omega) hfit h63
      have hge := grownCap_ge w (n + k) κ e
      refine ⟨_, _, _, _, hr, ⟨World.alloc_heap_new w.drew _, ?_, hge, fun j hj => ?_, fun j hj => ?_, by simp, rfl, rfl, rfl, .inr ⟨rfl, fun x hx => Below.heap_alloc w.drew _ x hx⟩⟩⟩
      · have := hmul κ
        rw [List.length_append, List.length_append, hvl, hol, hzl, ← this, Nat.add_mul]
      · rw [List.append_assoc, List.getElem?_append_left (by omega), List.getElem?_take, if_pos hj]
      · rw [List.append_assoc, List.getElem?_append_right (by omega), hol, List.getElem?_append_left (by omega)]
        congr 1; omega
end
end Go.Sx
/- Slices of whole numbers that came in: what a walk wants to know of them. -/
namespace Go.Cd
open Go Go.RowKit Go.ChangeShapes Go.WideShapes Go.ChangeAt

def ICells (k : IntKind) (w : World) (b off : Nat) (xs : List Int) : Prop := ∀ i, i < xs.length → w.cell? ⟨b, off + i, none⟩ = some (.int k (xs.getD i 0)) ∧ (Lit.int k (xs.getD i 0)).wf = true
theorem ICells.new {k : IntKind} {w w' : World} {b off : Nat} {xs : List Int} (h : ICells k w b off xs) (hb : b < w.heap.size) (hn : New w w') : ICells k w' b off xs := fun i hi =>
  ⟨(hn.cell (p := ⟨b, off + i, none⟩) hb).trans (h i hi).1, (h i hi).2⟩
theorem lt_of_cell {w : World} {a : Addr} {v : Value} (h : w.cell? a = some v) : a.block < w.heap.size := by
  rcases Nat.lt_or_ge a.block w.heap.size with h' | h'
  · exact h'
  · have e : w.heap[a.block]? = none := Array.getElem?_eq_none h'
    simp [World.cell?, e] at h
section
variable {H : Type} {enc : TypeId × Value → H} {P : Program} {W : World}
theorem open_nums {t e : TypeId} {k : IntKind} (ht : P.underlying t = some (.slice e)) (he : P.underlying e = some (.int k)) (hc : P.cellsOf e = 1) {r : Reach} {b0 : Nat} {v : Value} {d : DataW H} {ps : List MemPlace}
    (hval : Value.okWide P W r b0 t v) (hd : DataW.Trod enc P W 0 (fun _ => true) true t v d ps) :
    ∃ (p : Option Addr) (len cap : Nat) (zs : List Int), v = .slice p len cap ∧ len ≤ 9223372036854775807 ∧ zs.length = len ∧ (len = 0 ∨ ∃ b off, p = some ⟨b, off, none⟩ ∧ b < W.heap.size ∧ ICells k W b off zs) := by
  obtain ⟨a0, len, cap, rfl⟩ := okWide_slice ht hval
  obtain ⟨fuel, hf⟩ := hd
  rcases open_ints ht he hc hf with ⟨hcs, hx⟩ | ⟨a, len', cap', zs, hcs, _, hl, hm, hz, hx, hcell, hwz⟩
  · simp [Value.cells] at hcs
    obtain ⟨rfl, rfl, rfl⟩ := hcs
    exact ⟨none, 0, 0, [], rfl, by omega, rfl, .inl rfl⟩
  · simp [Value.cells] at hcs
    obtain ⟨rfl, rfl, rfl⟩ := hcs
    simp only [if_true] at hz
    refine ⟨some a, len, cap, zs.take len, rfl, by unfold maxLen at hm; omega, by simp; omega, ?_⟩
    by_cases h0 : len = 0
    · exact .inl h0
    · right
      obtain ⟨b, off, spot⟩ := a
      have hspot : spot = none := by simpa [Addr.add] using World.cell?_spot (hcell 0 (by omega))
      subst hspot
      refine ⟨b, off, rfl, ?_, fun i hi => ?_⟩
      · have := lt_of_cell (hcell 0 (by omega))
        rwa [block_add] at this
      · have hi' : i < len := by simp at hi; omega
        have hz' : i < zs.length := by omega
        have e : (zs.take len).getD i 0 = zs.getD i 0 := by simp [hi']
        rw [e, ← add_plain]
        refine ⟨hcell i hz', hwz _ ?_⟩
        rw [List.getD_eq_getElem?_getD, List.getElem?_eq_getElem hz']
        exact List.getElem_mem hz'
end
end Go.Cd
/- Slices of pages that came in. -/
namespace Go.Proofs.YtnoiijjkjcklpaaGreat
open Go Go.RowKit Go.Cd Go.ChangeShapes Go.WideShapes Go.ChangeAt
set_option linter.unusedVariables false
structure PgIn where
  n : Int
  r : Int
  p : Option Addr
  cap : Nat
  bs : List Int
def PgIn.cells (x : PgIn) : List Value := [.int .i64 x.n, .int .i64 x.r, .slice x.p x.bs.length x.cap]
structure PgIn.Ok (w : World) (x : PgIn) : Prop where
  n : -9223372036854775808 ≤ x.n ∧ x.n < 9223372036854775808
  r : -9223372036854775808 ≤ x.r ∧ x.r < 9223372036854775808
  len : x.bs.length ≤ x.cap ∧ x.bs.length ≤ 9223372036854775807
  bytes : x.bs = [] ∨ ∃ b off, x.p = some ⟨b, off, none⟩ ∧ b < w.heap.size ∧ ICells .u8 w b off x.bs
def PagesIn (w : World) (b off : Nat) (l : List PgIn) : Prop := ∀ i x, l[i]? = some x → ∀ j u, x.cells[j]? = some u → w.cell? ⟨b, off + (i * 3 + j), none⟩ = some u
def PagesAt (w : World) (p : Option Addr) (l : List PgIn) : Prop := (l = [] ∨ ∃ b off, p = some ⟨b, off, none⟩ ∧ b < w.heap.size ∧ PagesIn w b off l) ∧ ∀ x ∈ l, x.Ok w
theorem PgIn.Ok.new {w w' : World} {x : PgIn} (h : x.Ok w) (hn : New w w') : x.Ok w' := by
  refine ⟨h.n, h.r, h.len, ?_⟩
  rcases h.bytes with h | ⟨b, off, h1, h2, h3⟩
  · exact .inl h
  · exact .inr ⟨b, off, h1, Nat.lt_of_lt_of_le h2 hn.size, h3.new h2 hn⟩
theorem PagesAt.new {w w' : World} {p : Option Addr} {l : List PgIn} (h : PagesAt w p l) (hn : New w w') : PagesAt w' p l := by
  refine ⟨?_, fun x hx => (h.2 x hx).new hn⟩
  rcases h.1 with h | ⟨b, off, h1, h2, h3⟩
  · exact .inl h
  · exact .inr ⟨b, off, h1, Nat.lt_of_lt_of_le h2 hn.size, fun i x hx j u hu => (hn.cell (p := ⟨b, off + (i * 3 + j), none⟩) h2).trans (h3 i x hx j u hu)⟩
theorem list3_of {α : Type} {l : List α} (h : l.length = 3) : ∃ c0 c1 c2, l = [c0, c1, c2] := by
  match l, h with
  | [c0, c1, c2], _ => exact ⟨_, _, _, rfl⟩
section
variable {H : Type} {enc : TypeId × Value → H} {w : World}
theorem page_of_cells {n : Nat} {cs : List Value} {y : DataW H × List MemPlace} (h : DataW.trod enc Tryz.prog w 0 (fun _ => true) true n 106 cs = some y) : ∃ x : PgIn, cs = x.cells ∧ x.Ok w := by
  obtain ⟨xs, m, _, _, hlen, hxl, hf⟩ := DataW.trod_struct Tryz.underlying106 h
  have e3 : Tryz.prog.cellsOf 106 = 3 := by kernel_rfl
  have e1 : Tryz.prog.cellsOf 3 = 1 := by kernel_rfl
  have eb : Tryz.prog.cellsOf 88 = 1 := by kernel_rfl
  have eu : Tryz.prog.cellsOf 5 = 1 := by kernel_rfl
  rw [e3] at hlen
  obtain ⟨c0, c1, c2, rfl⟩ := list3_of hlen
  obtain ⟨y0, y1, y2, rfl⟩ := list3_of hxl
  have h0 : DataW.trod enc Tryz.prog w 0 (fun _ => true) true m 3 (List.take (Tryz.prog.cellsOf 3) (List.drop 0 [c0, c1, c2])) = some y0 := hf 0 _ rfl
  have h1 : DataW.trod enc Tryz.prog w 0 (fun _ => true) true m 3 (List.take (Tryz.prog.cellsOf 3) (List.drop 1 [c0, c1, c2])) = some y1 := hf 1 _ rfl
  have h2 : DataW.trod enc Tryz.prog w 0 (fun _ => true) true m 88 (List.take (Tryz.prog.cellsOf 88) (List.drop 2 [c0, c1, c2])) = some y2 := hf 2 _ rfl
  rw [e1] at h0 h1
  rw [eb] at h2
  have h0' : DataW.trod enc Tryz.prog w 0 (fun _ => true) true m 3 [c0] = some y0 := h0
  have h1' : DataW.trod enc Tryz.prog w 0 (fun _ => true) true m 3 [c1] = some y1 := h1
  have h2' : DataW.trod enc Tryz.prog w 0 (fun _ => true) true m 88 [c2] = some y2 := h2
  obtain ⟨n0, q0, _, w0⟩ := DataW.trod_int Tryz.underlying3 h0'
  obtain ⟨n1, q1, _, w1⟩ := DataW.trod_int Tryz.underlying3 h1'
  simp only [List.cons.injEq, and_true] at q0 q1
  subst q0 q1
  rcases open_ints Tryz.underlying88 Tryz.underlying5 eu h2' with ⟨hcs, _⟩ | ⟨a, len, cap, zs, hcs, _, hl, hm, hz, hx, hcell, hwz⟩
  · simp only [List.cons.injEq, and_true] at hcs
    subst hcs
    exact ⟨⟨n0, n1, none, 0, []⟩, rfl, wf_i64 w0, wf_i64 w1, ⟨Nat.le_refl _, by show 0 ≤ _; omega⟩, .inl rfl⟩
  · simp only [List.cons.injEq, and_true] at hcs
    subst hcs
    simp only [if_true] at hz
    have hlt : (zs.take len).length = len := by simp; omega
    refine ⟨⟨n0, n1, some a, cap, zs.take len⟩, by simp only [PgIn.cells, hlt], wf_i64 w0, wf_i64 w1, ⟨by rw [hlt]; exact hl, by unfold maxLen at hm; rw [hlt]; omega⟩, ?_⟩
    by_cases h0 : len = 0
    · left; subst h0; rfl
    · right
      obtain ⟨b, off, spot⟩ := a
      have hspot : spot = none := by simpa [Addr.add] using World.cell?_spot (hcell 0 (by omega))
      subst hspot
      refine ⟨b, off, rfl, ?_, fun i hi => ?_⟩
      · have := lt_of_cell (hcell 0 (by omega))
        rwa [block_add] at this
      · have hi' : i < len := by rw [hlt] at hi; exact hi
        have hz' : i < zs.length := by omega
        have e : (zs.take len).getD i 0 = zs.getD i 0 := by simp [hi']
        show w.cell? ⟨b, off + i, none⟩ = some (.int .u8 ((zs.take len).getD i 0)) ∧ (Lit.int .u8 ((zs.take len).getD i 0)).wf = true
        rw [e, ← add_plain]
        refine ⟨hcell i hz', hwz _ ?_⟩
        rw [List.getD_eq_getElem?_getD, List.getElem?_eq_getElem hz']
        exact List.getElem_mem hz'
set_option maxRecDepth 100000 in
theorem open_pages {r : Reach} {b0 : Nat} {v : Value} {d : DataW H} {ps : List MemPlace} (hval : Value.okWide Tryz.prog w r b0 22 v) (hd : DataW.Trod enc Tryz.prog w 0 (fun _ => true) true 22 v d ps) :
    ∃ (p : Option Addr) (cap : Nat) (l : List PgIn), v = .slice p l.length cap ∧ PagesAt w p l ∧ l.length ≤ 9223372036854775807 := by
  have e3 : Tryz.prog.cellsOf 106 = 3 := by kernel_rfl
  obtain ⟨a0, len, cap, rfl⟩ := okWide_slice Tryz.underlying22 hval
  obtain ⟨fuel, hf⟩ := hd
  rcases Go.Deep.open_slice Tryz.underlying22 hf with ⟨hcs, _⟩ | ⟨a, len', cap', m, n, D, Pl, hcs, _, hl, hm, hmm, _, hi⟩
  · simp [Value.cells] at hcs
    obtain ⟨rfl, rfl, rfl⟩ := hcs
    exact ⟨none, 0, [], rfl, ⟨.inl rfl, fun _ h => by cases h⟩, by simp⟩
  · simp [Value.cells] at hcs
    obtain ⟨rfl, rfl, rfl⟩ := hcs
    simp only [if_true] at hmm
    have K : ∀ i, i < len → ∃ x : PgIn, x.Ok w ∧ ∀ j u, x.cells[j]? = some u → w.cell? (a.add (i * 3 + j)) = some u := fun i hil => by
      obtain ⟨cs', hc, ht⟩ := hi i (by omega)
      rw [e3] at hc
      obtain ⟨x, rfl, hok⟩ := page_of_cells ht
      refine ⟨x, hok, fun j u hu => ?_⟩
      have hj : j < 3 := by
        have := (List.getElem?_eq_some_iff.1 hu).1
        simpa [PgIn.cells] using this
      have h3 := (World.cells?_some hc).2.2 j hj
      rw [← Go.Deep.add_add, h3]
      exact hu
    have G := fun i hi => Classical.choose_spec (K i hi)
    refine ⟨some a, cap, (List.range len).map fun i => if h : i < len then Classical.choose (K i h) else ⟨0, 0, none, 0, []⟩, by simp, ⟨?_, fun x hx => ?_⟩, by simp; unfold maxLen at hm; omega⟩
    · by_cases h0 : len = 0
      · subst h0; exact .inl rfl
      · right
        obtain ⟨b, off, spot⟩ := a
        have hc0 := (G 0 (by omega)).2 0 _ rfl
        have hspot : spot = none := by simpa [Addr.add] using World.cell?_spot hc0
        subst hspot
        refine ⟨b, off, rfl, ?_, fun k x hx j u hu => ?_⟩
        · have := lt_of_cell hc0
          rwa [block_add] at this
        · obtain ⟨hk, rfl⟩ := List.getElem?_eq_some_iff.1 hx
          have hk' : k < len := by simpa using hk
          simp only [List.getElem_map, List.getElem_range, hk', dif_pos] at hu
          have := (G k hk').2 j u hu
          rwa [add_plain] at this
    · obtain ⟨i, hi', rfl⟩ := List.mem_map.1 hx
      have hil : i < len := by simpa using hi'
      simp only [hil, dif_pos]
      exact (G i hil).1
end
end Go.Proofs.YtnoiijjkjcklpaaGreat
/- Pages that came in: what makes them pages, and the memory that they are. -/
namespace Go.Proofs.YtnoiijjkjcklpaaGreat
open Go Go.Sx Go.RowKit Go.Cd Go.MapKept
set_option linter.unusedVariables false
def goodPg (l : List PgIn) (i : Nat) : Bool := match l[i]? with
  | some x => decide (0 ≤ x.n) && decide (x.n < 16777216) && decide (0 ≤ x.r) && decide (x.r ≤ 7) && decide (x.bs.length = 256) && (i == 0 || match l[i - 1]? with
    | some y => decide (y.n < x.n)
    | none => true)
  | none => true
def IsPg (l : List PgIn) : Prop := ∀ i, i < l.length → goodPg l i = true
instance (l : List PgIn) : Decidable (IsPg l) := Nat.decidableBallLT _ _
theorem IsPg.at {l : List PgIn} (h : IsPg l) {i : Nat} {x : PgIn} (hx : l[i]? = some x) : 0 ≤ x.n ∧ x.n < 16777216 ∧ 0 ≤ x.r ∧ x.r ≤ 7 ∧ x.bs.length = 256 := by
  have := h i (List.getElem?_eq_some_iff.1 hx).1
  unfold goodPg at this
  rw [hx] at this
  simp only [Bool.and_eq_true, decide_eq_true_eq] at this
  exact ⟨this.1.1.1.1.1, this.1.1.1.1.2, this.1.1.1.2, this.1.1.2, this.1.2⟩
theorem IsPg.mem {l : List PgIn} (h : IsPg l) {x : PgIn} (hx : x ∈ l) : 0 ≤ x.n ∧ x.n < 16777216 ∧ 0 ≤ x.r ∧ x.r ≤ 7 ∧ x.bs.length = 256 := by
  obtain ⟨i, hi⟩ := List.getElem?_of_mem hx
  exact h.at hi
theorem IsPg.next {l : List PgIn} (h : IsPg l) {i : Nat} {x y : PgIn} (hx : l[i]? = some x) (hy : l[i + 1]? = some y) : x.n < y.n := by
  have := h (i + 1) (List.getElem?_eq_some_iff.1 hy).1
  unfold goodPg at this
  rw [hy] at this
  simp only [Bool.and_eq_true, Nat.add_sub_cancel, hx, Bool.or_eq_true, decide_eq_true_eq] at this
  rcases this.2 with h | h
  · simp at h
  · exact h
theorem IsPg.lt {l : List PgIn} (h : IsPg l) : ∀ {i j : Nat} {x y : PgIn}, i < j → l[i]? = some x → l[j]? = some y → x.n < y.n := by
  intro i j
  induction j with
  | zero => intro x y hij; omega
  | succ j ih =>
    intro x y hij hx hy
    by_cases hj : i = j
    · subst hj; exact h.next hx hy
    · have hlt := (List.getElem?_eq_some_iff.1 hy).1
      obtain ⟨z, hz⟩ : ∃ z, l[j]? = some z := ⟨_, List.getElem?_eq_getElem (by omega)⟩
      exact Int.lt_trans (ih (by omega) hx hz) (h.next hz hy)
theorem IsPg.inj {l : List PgIn} (h : IsPg l) {i j : Nat} {x y : PgIn} (hx : l[i]? = some x) (hy : l[j]? = some y) (he : x.n = y.n) : i = j := by
  rcases Nat.lt_trichotomy i j with c | c | c
  · have := h.lt c hx hy; omega
  · exact c
  · have := h.lt c hy hx; omega
def pgGet (l : List PgIn) (k : Int) : Option PgIn := l.find? fun x => x.n == k
theorem pgGet_some {l : List PgIn} {k : Int} {x : PgIn} (h : pgGet l k = some x) : x ∈ l ∧ x.n = k := by
  unfold pgGet at h
  exact ⟨List.mem_of_find?_eq_some h, by simpa using List.find?_some h⟩
theorem pgGet_none {l : List PgIn} {k : Int} (h : pgGet l k = none) : ∀ x ∈ l, x.n ≠ k := by
  unfold pgGet at h
  intro x hx
  simpa using List.find?_eq_none.1 h x hx
theorem IsPg.get {l : List PgIn} (h : IsPg l) {i : Nat} {x : PgIn} (hx : l[i]? = some x) : pgGet l x.n = some x := by
  cases hg : pgGet l x.n with
  | none => exact absurd rfl (pgGet_none hg x (List.mem_of_getElem? hx))
  | some y =>
    obtain ⟨h1, h2⟩ := pgGet_some hg
    obtain ⟨j, hj⟩ := List.getElem?_of_mem h1
    have := h.inj hj hx h2
    subst this
    rw [hx] at hj; cases hj; rfl
def mmOf (l : List PgIn) : MM where
  dom k := l.any fun x => x.n == k
  rt k := ((pgGet l k).map (·.r)).getD 0
  bt k j := (((pgGet l k).map (·.bs)).getD []).getD j.toNat 0
  keys := l.map (·.n)
theorem mm_dom {l : List PgIn} {k : Int} : (mmOf l).dom k = true ↔ ∃ x ∈ l, x.n = k := by
  show (l.any fun x => x.n == k) = true ↔ _
  simp
theorem mm_rt {l : List PgIn} (h : IsPg l) {i : Nat} {x : PgIn} (hx : l[i]? = some x) : (mmOf l).rt x.n = x.r := by
  show ((pgGet l x.n).map (·.r)).getD 0 = _
  rw [h.get hx]; rfl
theorem mm_bt {l : List PgIn} (h : IsPg l) {i : Nat} {x : PgIn} (hx : l[i]? = some x) (j : Nat) : (mmOf l).bt x.n j = x.bs.getD j 0 := by
  show (((pgGet l x.n).map (·.bs)).getD []).getD ((j : Int)).toNat 0 = _
  rw [h.get hx, Int.toNat_natCast]; rfl
theorem PgIn.Ok.byte {w : World} {x : PgIn} (h : x.Ok w) (j : Nat) : 0 ≤ x.bs.getD j 0 ∧ x.bs.getD j 0 ≤ 255 := by
  by_cases hj : j < x.bs.length
  · rcases h.bytes with h | ⟨b, off, _, _, h3⟩
    · rw [h] at hj; simp at hj
    · have := (h3 j hj).2
      have h1 : IntKind.u8.min ≤ x.bs.getD j 0 ∧ x.bs.getD j 0 ≤ IntKind.u8.max := by simpa [Lit.wf] using this
      have e1 : IntKind.u8.min = 0 := by decide
      have e2 : IntKind.u8.max = 255 := by decide
      omega
  · simp [List.getD, List.getElem?_eq_none (Nat.le_of_not_lt hj)]
theorem mmOf_ok {w : World} {l : List PgIn} (h : IsPg l) (hw : ∀ x ∈ l, x.Ok w) (hl : l.length ≤ 2000) : (mmOf l).Ok where
  rt k := by
    show IntKind.i64.wrap (((pgGet l k).map (·.r)).getD 0) = ((pgGet l k).map (·.r)).getD 0
    cases hg : pgGet l k with
    | none => rfl
    | some x =>
      have := h.mem (pgGet_some hg).1
      exact wr_i64 (by show _ ≤ x.r ∧ x.r < _; omega)
  bt k j := by
    show IntKind.u8.wrap ((((pgGet l k).map (·.bs)).getD []).getD j.toNat 0) = (((pgGet l k).map (·.bs)).getD []).getD j.toNat 0
    cases hg : pgGet l k with
    | none => exact wrap_same .u8 (show (0 : Int) ≤ List.getD [] j.toNat 0 by simp) (show List.getD [] j.toNat 0 ≤ (255 : Int) by simp)
    | some x =>
      have := (hw x (pgGet_some hg).1).byte j.toNat
      exact wrap_same .u8 (show (0 : Int) ≤ x.bs.getD j.toNat 0 from this.1) (show x.bs.getD j.toNat 0 ≤ (255 : Int) from this.2)
  sorted := by
    show (l.map (·.n)).Pairwise (· < ·)
    rw [List.pairwise_map, List.pairwise_iff_getElem]
    intro i j hi hj hij
    exact h.lt hij (List.getElem?_eq_getElem hi) (List.getElem?_eq_getElem hj)
  mem k := by
    rw [mm_dom]
    show _ ↔ k ∈ l.map (·.n)
    simp
  few := by show (l.map (·.n)).length ≤ 2000; simpa using hl
  num k hk := by
    have hk : k ∈ l.map (·.n) := hk
    obtain ⟨x, hx, rfl⟩ := List.mem_map.1 hk
    have := h.mem hx
    omega
def samePg (a b : List PgIn) : Prop := a.length = b.length ∧ ∀ (i : Nat) (x y : PgIn), a[i]? = some x → b[i]? = some y → x.n = y.n ∧ x.r = y.r ∧ x.bs = y.bs
theorem samePg.symm {a b : List PgIn} (h : samePg a b) : samePg b a := ⟨h.1.symm, fun i x y hx hy => by have := h.2 i y x hy hx; exact ⟨this.1.symm, this.2.1.symm, this.2.2.symm⟩⟩
theorem samePg.trans {a b c : List PgIn} (h : samePg a b) (h' : samePg b c) : samePg a c := ⟨h.1.trans h'.1, fun i x y hx hy => by
  have hi := (List.getElem?_eq_some_iff.1 hx).1
  obtain ⟨z, hz⟩ : ∃ z, b[i]? = some z := ⟨_, List.getElem?_eq_getElem (by rw [← h.1]; exact hi)⟩
  have h1 := h.2 i x z hx hz
  have h2 := h'.2 i z y hz hy
  exact ⟨h1.1.trans h2.1, h1.2.1.trans h2.2.1, h1.2.2.trans h2.2.2⟩⟩
structure PgsOf (m : MM) (l : List PgIn) : Prop where
  len : l.length = m.keys.length
  at' : ∀ (i : Nat) (x : PgIn), l[i]? = some x → x.n = m.num i ∧ x.r = m.rt (m.num i) ∧ x.bs.length = 256 ∧ ∀ j : Nat, j < 256 → x.bs.getD j 0 = m.bt (m.num i) j
theorem PgsOf.same {m : MM} {a b : List PgIn} (h : PgsOf m a) (h' : PgsOf m b) : samePg a b := ⟨h.len.trans h'.len.symm, fun i x y hx hy => by
  obtain ⟨h1, h2, h3, h4⟩ := h.at' i x hx
  obtain ⟨g1, g2, g3, g4⟩ := h'.at' i y hy
  refine ⟨h1.trans g1.symm, h2.trans g2.symm, List.ext_getElem (h3.trans g3.symm) fun j q1 q2 => ?_⟩
  have a1 := h4 j (by omega)
  have a2 := g4 j (by omega)
  rw [List.getD_eq_getElem?_getD, List.getElem?_eq_getElem q1] at a1
  rw [List.getD_eq_getElem?_getD, List.getElem?_eq_getElem q2] at a2
  exact a1.trans a2.symm⟩
theorem pgsOf_mm {l : List PgIn} (h : IsPg l) : PgsOf (mmOf l) l where
  len := by show l.length = (l.map (·.n)).length; simp
  at' i x hx := by
    have hn : (mmOf l).num i = x.n := by
      show (l.map (·.n)).getD ((i : Int)).toNat 0 = _
      rw [Int.toNat_natCast, List.getD_eq_getElem?_getD, List.getElem?_map, hx]; rfl
    rw [hn]
    exact ⟨rfl, (mm_rt h hx).symm, (h.at hx).2.2.2.2, fun j _ => (mm_bt h hx j).symm⟩
end Go.Proofs.YtnoiijjkjcklpaaGreat
