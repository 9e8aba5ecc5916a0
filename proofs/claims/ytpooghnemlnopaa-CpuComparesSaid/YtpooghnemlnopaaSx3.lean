/- The operations on symbolic values: memory, structs, arrays. -/
import Derived.Test.YtpooghnemlnopaaSx2
import Derived.Deep.MidRow
namespace Go.Sx
set_option linter.unusedSimpArgs false
set_option linter.unusedVariables false
open Go Go.RowKit Go.Cd Go.Proofs.Ytpooghnemlnopaa

structure TyI where
  desc : TypeDesc
  size : Nat
  bytes : Nat
  zero : Option SV
def tyOf (P : Program) (t : TypeId) : Option TyI :=
  match P.info? t with
  | none => none
  | some i => match P.underlying t with
    | none => none
    | some d => some ⟨d, i.size, i.bytes, match i.zero with | some z => ofVal z | none => none⟩
theorem tyOf_spec [Val] {P : Program} {t : TypeId} {ti : TyI} (h : tyOf P t = some ti) : ∃ i, P.info? t = some i ∧ P.underlying t = some ti.desc ∧ i.size = ti.size ∧ i.bytes = ti.bytes ∧ ∀ s, ti.zero = some s → ∃ z, i.zero = some z ∧ ofVal z = some s := by
  unfold tyOf at h
  split at h
  · cases h
  · rename_i i hi
    split at h
    · cases h
    · rename_i d hd
      injection h with h; subst h
      refine ⟨i, hi, hd, rfl, rfl, fun s hs => ?_⟩
      dsimp only at hs
      split at hs
      · rename_i z hz; exact ⟨z, hz, hs⟩
      · cases hs

inductive Upd where
  | ins (h : Nat) (o : SObj)
  | set (h : Nat) (o : SObj)
  | del (h : Nat)
def Upd.look : Upd → Look → Look
  | .ins h o, l => fun j => if j = h then some o else l j
  | .set h o, l => fun j => if j = h then some o else l j
  | .del h, l => fun j => if j = h then none else l j
def looks : List Upd → Look → Look
  | [], l => l
  | u :: us, l => looks us (u.look l)
abbrev R := Option (SV × List Upd × List Nat)

/-- What an operation's outcome means. -/
def Good [Val] (P : Program) (ρ : Env) (X : Nat → Prop) (w0 : World) (look : Look) (fresh : Nat → Prop) (id : Nat) (r : SV × List Upd × List Nat) (sem : Sem Next) (w : World) : Prop :=
  ∃ nx val ρ' w', sem.run P w = .ok nx w' ∧ (nx = .value val ∨ nx = .skip ∧ val = undef) ∧ ρ.le ρ' ∧ r.1.Den ρ' val ∧ DenH ρ' X w0 (looks r.2.1 look) (fun j => fresh j ∧ j ≠ id ∧ j ≠ id + 1) w'
section
variable {P : Program} {ρ : Env} {X : Nat → Prop} {w0 w : World} {look : Look} {fresh : Nat → Prop} {id : Nat}
theorem Good.same [Val] {s : SV} {us : List Nat} {sem : Sem Next} {val : Value} (d : DenH ρ X w0 look fresh w) (hr : sem.run P w = .ok (.value val) w) (hv : s.Den ρ val) : Good P ρ X w0 look fresh id (s, [], us) sem w :=
  ⟨_, val, ρ, w, hr, .inl rfl, Env.le_refl _, hv, d.fresh_mono fun _ h => h.1⟩
theorem Good.value [Val] {s : SV} {us : List Nat} {sem : Sem Value} {val : Value} (d : DenH ρ X w0 look fresh w) (hr : sem.run P w = .ok val w) (hv : s.Den ρ val) : Good P ρ X w0 look fresh id (s, [], us) (do pure (.value (← sem))) w :=
  Good.same d (by simp only [Sem.run_bind, hr, Result.andThen_ok, Sem.run_pure]) hv
/-- A new block. -/
theorem Good.new [Val] {o : SObj} {obj : Obj} {s : SV} {us : List Nat} {sem : Sem Value} {val : Value} (d : DenH ρ X w0 look fresh w) (hid : fresh id) (ho : o.isAbs = false) (hr : sem.run P w = .ok val (w.alloc obj)) (hden : ObjDen ρ o obj)
    (hv : s.Den (ρ.put id w.heap.size) val) : Good P ρ X w0 look fresh id (s, [.ins id o], us) (do pure (.value (← sem))) w := by
  have hle : ρ.le (ρ.put id w.heap.size) := Env.le_put _ (d.newName hid)
  refine ⟨_, val, ρ.put id w.heap.size, w.alloc obj, by simp only [Sem.run_bind, hr, Result.andThen_ok, Sem.run_pure], .inl rfl, hle, hv, ?_⟩
  refine d.alloc ho hle hid (Env.put_same _ _ _) (hden.mono hle) (fun j => rfl) fun j hj => ?_
  rw [Env.put_other _ _ hj.2.1]; exact d.newName hj.1
/-- A change of one object. -/
theorem Good.put [Val] {h : Nat} {o o' : SObj} {us : List Nat} {sem : Sem Unit} {b : Nat} {obj' : Obj} {w' : World} (d : DenH ρ X w0 look fresh w) (hl : look h = some o) (ho : o.isAbs = false) (hb : ρ h = some b) (ho' : o'.isAbs = false)
    (hr : sem.run P w = .ok () w') (hw : w'.heap[b]? = some obj') (hwo : Only b w w') (hden : ObjDen ρ o' obj') : Good P ρ X w0 look fresh id (.tup [], [.set h o'], us) (do sem; pure .skip) w := by
  refine ⟨_, undef, ρ, w', by simp only [Sem.run_bind, hr, Result.andThen_ok, Sem.run_pure], .inr ⟨rfl, rfl⟩, Env.le_refl _, ?_, ?_⟩
  · simp only [SV.Den]; exact ⟨[], by simp, rfl⟩
  · exact (d.put hl ho hb ho' hw hwo hden (fun j => rfl)).fresh_mono fun _ h => h.1
end

/-! Lists. -/
def nth : List SV → Nat → Option SV
  | [], _ => none
  | x :: _, 0 => some x
  | _ :: l, n + 1 => nth l n
theorem nth_eq [Val] : ∀ (l : List SV) (i : Nat), nth l i = l[i]?
  | [], _ => by simp [nth]
  | _ :: _, 0 => by simp [nth]
  | _ :: l, i + 1 => by simp [nth, nth_eq l i]
def setN : List SV → Nat → SV → List SV
  | [], _, _ => []
  | _ :: l, 0, v => v :: l
  | x :: l, n + 1, v => x :: setN l n v
theorem setN_eq [Val] : ∀ (l : List SV) (i : Nat) (v : SV), setN l i v = l.set i v
  | [], _, _ => by simp [setN]
  | _ :: _, 0, _ => by simp [setN]
  | _ :: l, i + 1, v => by simp [setN, setN_eq l i v]
def dropN : Nat → List SV → List SV
  | 0, l => l
  | _ + 1, [] => []
  | n + 1, _ :: l => dropN n l
theorem dropN_eq [Val] : ∀ (n : Nat) (l : List SV), dropN n l = l.drop n
  | 0, _ => by simp [dropN]
  | _ + 1, [] => by simp [dropN]
  | n + 1, _ :: l => by simp [dropN, dropN_eq n l]
def takeN : Nat → List SV → Option (List SV)
  | 0, _ => some []
  | _ + 1, [] => none
  | n + 1, x :: l => match takeN n l with
    | some r => some (x :: r)
    | none => none
theorem takeN_eq [Val] : ∀ {n : Nat} {l r : List SV}, takeN n l = some r → r = l.take n ∧ n ≤ l.length
  | 0, _, _, h => by simp [takeN] at h; subst h; simp
  | _ + 1, [], _, h => by simp [takeN] at h
  | n + 1, x :: l, r, h => by
    unfold takeN at h
    split at h
    · rename_i r' hr
      injection h with h; subst h
      obtain ⟨e1, e2⟩ := takeN_eq hr
      subst e1
      exact ⟨by simp, by simpa using e2⟩
    · cases h
/-- vs laid over l from o on. -/
def over : List SV → Nat → List SV → List SV
  | [], _, _ => []
  | l, _, [] => l
  | _ :: l, 0, v :: vs => v :: over l 0 vs
  | x :: l, n + 1, vs => x :: over l n vs
theorem over_get [Val] : ∀ (l : List SV) (o : Nat) (vs : List SV) (i : Nat), o + vs.length ≤ l.length → (over l o vs)[i]? = if o ≤ i ∧ i < o + vs.length then vs[i - o]? else l[i]?
  | [], o, vs, i, h => by
    have : vs = [] := by cases vs with
      | nil => rfl
      | cons _ _ => simp at h
    subst this
    simp [over]
  | x :: l, o, [], i, h => by
    have e : over (x :: l) o [] = x :: l := by cases o <;> rfl
    rw [e, if_neg (by simp)]
  | x :: l, 0, v :: vs, i, h => by
    have e : over (x :: l) 0 (v :: vs) = v :: over l 0 vs := rfl
    rw [e]
    cases i with
    | zero => simp
    | succ i =>
      rw [List.getElem?_cons_succ, over_get l 0 vs i (by simp at h ⊢; omega)]
      by_cases hc : i < vs.length
      · rw [if_pos (by omega), if_pos (by simp; omega)]; simp
      · rw [if_neg (by omega), if_neg (by simp; omega)]; simp
  | x :: l, n + 1, v :: vs, i, h => by
    have e : over (x :: l) (n + 1) (v :: vs) = x :: over l n (v :: vs) := rfl
    rw [e]
    cases i with
    | zero => simp
    | succ i =>
      rw [List.getElem?_cons_succ, over_get l n (v :: vs) i (by simp at h ⊢; omega)]
      by_cases hc : n ≤ i ∧ i < n + (v :: vs).length
      · rw [if_pos hc, if_pos (by omega)]; congr 1; omega
      · rw [if_neg hc, if_neg (by omega)]; simp
theorem over_length [Val] : ∀ (l : List SV) (o : Nat) (vs : List SV), (over l o vs).length = l.length
  | [], _, _ => by simp [over]
  | _ :: _, o, [] => by cases o <;> simp [over]
  | _ :: l, 0, _ :: vs => by simp [over, over_length l 0 vs]
  | _ :: l, n + 1, v :: vs => by simp [over, over_length l n (v :: vs)]
theorem denL_over [Val] {ρ : Env} {l vs : List SV} {xs ys : List Value} (h : SV.DenL ρ l xs) (h' : SV.DenL ρ vs ys) {o : Nat} (hl : o + vs.length ≤ l.length) : SV.DenL ρ (over l o vs) (spl xs.toArray o ys).toList := by
  have e1 := denL_length h
  have e2 := denL_length h'
  refine denL_of_get (by simp [spl_size, over_length, e1]) fun i s e => ?_
  rw [over_get l o vs i hl] at e
  have hs := spl_get ys xs.toArray o i (by simp; omega)
  rw [← Array.getElem?_toList] at hs
  rw [hs, e2]
  by_cases hc : o ≤ i ∧ i < o + vs.length
  · rw [if_pos hc] at e ⊢
    exact denL_get h' e
  · rw [if_neg hc] at e ⊢
    simpa using denL_get h e
def allScalar : List SV → Bool
  | [] => true
  | x :: l => match x.scalar with
    | true => allScalar l
    | false => false
theorem allScalar_iff [Val] : ∀ {l : List SV}, allScalar l = true → ∀ x ∈ l, x.scalar = true
  | [], _, x, hx => by simp at hx
  | y :: l, h, x, hx => by
    unfold allScalar at h
    split at h
    · rename_i e
      rcases List.mem_cons.1 hx with rfl | hx
      · exact e
      · exact allScalar_iff h x hx
    · cases h
theorem allScalar_den [Val] {ρ : Env} : ∀ {l : List SV} {vs : List Value}, allScalar l = true → SV.DenL ρ l vs → ∀ v ∈ vs, v.oneCell' = true
  | [], _, _, h, v, hv => by rw [denL_nil] at h; subst h; simp at hv
  | x :: l, _, ha, h, v, hv => by
    obtain ⟨y, ys, rfl, h1, h2⟩ := denL_cons.1 h
    unfold allScalar at ha
    split at ha
    · rename_i e
      rcases List.mem_cons.1 hv with rfl | hv
      · exact (scalar_oneCell e h1).1
      · exact allScalar_den ha h2 v hv
    · cases ha
/-- The cells of a value that is known enough. -/
def cellsOf : SV → Option (List SV)
  | .agg l => match allScalar l with
    | true => some l
    | false => none
  | .any => none
  | .tup _ => none
  | v => some [v]
theorem cellsOf_den [Val] {ρ : Env} {s : SV} {v : Value} {l : List SV} (h : cellsOf s = some l) (hv : s.Den ρ v) : ∃ vs, SV.DenL ρ l vs ∧ v.cells = vs.toArray ∧ ∀ x ∈ vs, x.oneCell' = true := by
  have key : s.scalar = true → l = [s] → ∃ vs, SV.DenL ρ l vs ∧ v.cells = vs.toArray ∧ ∀ x ∈ vs, x.oneCell' = true := fun hs e => by
    subst e
    obtain ⟨e1, e2⟩ := scalar_oneCell hs hv
    exact ⟨[v], denL_cons'.2 ⟨hv, by simp⟩, by rw [e2], fun x hx => by simp at hx; subst hx; exact e1⟩
  cases s with
  | agg m =>
    simp only [cellsOf] at h
    split at h
    · rename_i e
      injection h with h; subst h
      simp only [SV.Den] at hv
      obtain ⟨vs, h1, rfl⟩ := hv
      exact ⟨vs, h1, rfl, allScalar_den e h1⟩
    · cases h
  | any => simp [cellsOf] at h
  | tup _ => simp [cellsOf] at h
  | _ => exact key rfl (by simpa [cellsOf] using h.symm)
def objCells : SObj → Option (List SV)
  | .cells l _ => some l
  | .row l _ _ _ => some l
  | _ => none
theorem objCells_den [Val] {ρ : Env} {o : SObj} {obj : Obj} {l : List SV} (h : objCells o = some l) (hd : ObjDen ρ o obj) : o.isAbs = false ∧ ∃ vs ex T, SV.DenL ρ l vs ∧ obj = .cells (vs ++ ex).toArray T := by
  cases o with
  | cells m T =>
    simp only [objCells, Option.some.injEq] at h; subst h
    obtain ⟨vs, h1, rfl⟩ := hd
    exact ⟨rfl, vs, [], T, h1, by simp⟩
  | row m c e T =>
    simp only [objCells, Option.some.injEq] at h; subst h
    obtain ⟨vs, ex, κ, h1, _, _, rfl⟩ := hd
    exact ⟨rfl, vs, ex, T, h1, rfl⟩
  | _ => cases h
theorem objCells_abs [Val] {o : SObj} {l : List SV} (h : objCells o = some l) : o.isAbs = false := by
  cases o <;> first | rfl | cases h
/-- The object with cells laid over. -/
def objOver : SObj → Nat → List SV → Option SObj
  | .cells l T, o, vs => match Nat.ble (o + vs.length) l.length with
    | true => some (.cells (over l o vs) T)
    | false => none
  | .row l c e T, o, vs => match Nat.ble (o + vs.length) l.length with
    | true => some (.row (over l o vs) c e T)
    | false => none
  | _, _, _ => none
theorem spl_append [Val] (xs ex ys : List Value) (o : Nat) (h : o + ys.length ≤ xs.length) : spl (xs ++ ex).toArray o ys = ((spl xs.toArray o ys).toList ++ ex).toArray := by
  apply Array.ext_getElem?
  intro i
  rw [spl_get _ _ _ _ (by simp; omega)]
  have hs := spl_get ys xs.toArray o i (by simpa using h)
  rw [← Array.getElem?_toList] at hs
  have hz : (spl xs.toArray o ys).toList.length = xs.length := by simp [spl_size]
  rw [List.getElem?_toArray, List.getElem?_toArray, List.getElem?_append, List.getElem?_append, hz]
  rw [List.getElem?_toArray] at hs
  by_cases hc : o ≤ i ∧ i < o + ys.length
  · rw [if_pos hc, if_pos (by omega), hs, if_pos hc]
  · rw [if_neg hc]
    by_cases hi : i < xs.length
    · rw [if_pos hi, if_pos hi, hs, if_neg hc]
    · rw [if_neg hi, if_neg hi]
theorem objOver_den [Val] {ρ : Env} {o o' : SObj} {obj : Obj} {i : Nat} {l : List SV} {ys : List Value} (h : objOver o i l = some o') (hd : ObjDen ρ o obj) (hl : SV.DenL ρ l ys) :
    o.isAbs = false ∧ o'.isAbs = false ∧ ∃ c T, obj = .cells c T ∧ i + ys.length ≤ c.size ∧ ObjDen ρ o' (.cells (spl c i ys) T) := by
  have e2 := denL_length hl
  cases o with
  | cells m T =>
    simp only [objOver] at h
    split at h
    · rename_i hb
      injection h with h; subst h
      have hb := Nat.le_of_ble_eq_true hb
      obtain ⟨vs, h1, rfl⟩ := hd
      have e1 := denL_length h1
      exact ⟨rfl, rfl, vs.toArray, T, rfl, by simp; omega, (spl vs.toArray i ys).toList, denL_over h1 hl hb, by simp⟩
    · cases h
  | row m c e T =>
    simp only [objOver] at h
    split at h
    · rename_i hb
      injection h with h; subst h
      have hb := Nat.le_of_ble_eq_true hb
      obtain ⟨vs, ex, κ, h1, h2, h3, rfl⟩ := hd
      have e1 := denL_length h1
      refine ⟨rfl, rfl, (vs ++ ex).toArray, T, rfl, by simp; omega, (spl vs.toArray i ys).toList, ex, κ, denL_over h1 hl hb, h2, by simpa [spl_size] using h3, ?_⟩
      rw [spl_append _ _ _ _ (by omega)]
    · cases h
  | _ => cases h
theorem rangeAt_of_cells [Val] {w : World} {b o : Nat} {c : Array Value} {T : TypeId} {cs : List Value} (hw : w.heap[b]? = some (.cells c T)) (h : ∀ j v, cs[j]? = some v → c[o + j]? = some v) : w.rangeAt b o cs := fun j v e => cell_of_heap hw (h j v e)

/-! Memory. -/
/-- The whole numbers that lie at o, o + s, ..: n of them. -/
def gather (k : IntKind) (l : List SV) (o s : Nat) : Nat → Option Tms
  | 0 => some .nil
  | n + 1 => match nth l o with
    | some (.int k' x) => match decide (k' = k) with
      | true => match gather k l (o + s) s n with
        | some r => some (.cons x.tm r)
        | none => none
      | false => none
    | _ => none
theorem gather_spec [Val] {k : IntKind} {l : List SV} : ∀ {n o s : Nat} {r : Tms}, gather k l o s n = some r → r.v.length = n ∧ ∀ j, j < n → ∃ x : SI, l[o + s * j]? = some (.int k x) ∧ r.v[j]? = some x.v
  | 0, _, _, _, h => by simp [gather] at h; subst h; simp [Tms.v]
  | n + 1, o, s, r, h => by
    unfold gather at h
    split at h
    · rename_i k' x hx
      split at h
      · rename_i hk
        have hk := of_decide_eq_true hk; subst hk
        split at h
        · rename_i r' hr
          injection h with h; subst h
          obtain ⟨h1, h2⟩ := gather_spec hr
          refine ⟨by simp [Tms.v, h1], fun j hj => ?_⟩
          cases j with
          | zero => exact ⟨x, by rw [nth_eq] at hx; simpa using hx, by simp [Tms.v]⟩
          | succ j =>
            obtain ⟨y, e1, e2⟩ := h2 j (by omega)
            exact ⟨y, by rw [← e1]; congr 1; rw [Nat.mul_succ]; omega, by simpa [Tms.v] using e2⟩
        · cases h
      · cases h
    · cases h
def sLoad (P : Program) (look : Look) (t : TypeId) (p : SV) : R :=
  match p with
  | .ptr h off => match tyOf P t with
    | none => none
    | some ti => match look h with
      | none => none
      | some o => match objCells o with
        | none => none
        | some l => match off with
          | .lit m => match ti.desc.isRow with
            | true => match takeN ti.size (dropN m l) with
              | some xs => some (.agg xs, [], [h])
              | none => none
            | false => match nth l m with
              | some x => some (x, [], [h])
              | none => none
          | .idx b s n i => match ti.desc.isRow with
            | true => none
            | false => match nth l b with
              | some (.int k _) => match gather k l b s n with
                | some r => some (.int k (.sym (.sel r i)), [], [h])
                | none => none
              | _ => none
          | .any => none
  | _ => none
section
variable {P : Program} {ρ : Env} {X : Nat → Prop} {w0 w : World} {look : Look} {fresh : Nat → Prop} {id : Nat} {r : SV × List Upd × List Nat}
theorem run_loadAt_cell [Val] {t : TypeId} {ti : TypeDesc} {b m : Nat} {v : Value} (hu : P.underlying t = some ti) (hd : ti.isRow = false) (hc : w.cell? ⟨b, m, none⟩ = some v) : (Instr.loadAt t (.pointer (some ⟨b, m, none⟩))).run P w = .ok v w := by
  have hagg : (isAgg t).run P w = .ok false w := by
    unfold isAgg
    rw [Sem.run_bind, run_underlying hu w]
    cases ti <;> simp_all [TypeDesc.isRow]
  simp [Instr.loadAt, Instr.sureAddr, loadVar, hagg, run_load, hc]
theorem sLoad_den [Val] {t : TypeId} {p : SV} {pv : Value} {s : SV} {us : List Upd} {ts : List Nat} (d : DenH ρ X w0 look fresh w) (hp : p.Den ρ pv) (h : sLoad P look t p = some (s, us, ts)) : ∃ v, (Instr.loadAt t pv).run P w = .ok v w ∧ s.Den ρ v ∧ us = [] := by
  unfold sLoad at h
  split at h <;> try cases h
  rename_i hh off
  split at h <;> try cases h
  rename_i ti hti
  obtain ⟨i, hi, hu, hsz, _, _⟩ := tyOf_spec hti
  split at h <;> try cases h
  rename_i o ho
  split at h <;> try cases h
  rename_i l hl
  simp only [SV.Den] at hp
  obtain ⟨b, m, hb, hm, rfl⟩ := hp
  obtain ⟨b', obj, hb', hobj, hden⟩ := d.at ho (objCells_abs hl)
  obtain rfl : b' = b := by rw [hb] at hb'; injection hb' with e; exact e.symm
  obtain ⟨_, vs, ex, T, hvs, rfl⟩ := objCells_den hl hden
  split at h
  · rename_i m'
    simp only [SOff.Den] at hm; subst hm
    split at h
    · rename_i hrow
      split at h <;> try (cases h; done)
      rename_i xs hxs
      obtain ⟨e1, e2⟩ := takeN_eq hxs
      rw [dropN_eq] at e1 e2
      have hlen := denL_length hvs
      have hys := denL_take ti.size (denL_drop m hvs)
      rw [← e1] at hys
      cases h
      refine ⟨.agg ((vs.drop m).take ti.size).toArray, run_loadAt_mid w b' m t _ ti.desc (rangeAt_of_cells hobj fun j v hj => ?_) hu hrow ?_, ?_, rfl⟩
      · rw [List.getElem?_take] at hj
        split at hj
        · rw [List.getElem?_drop] at hj
          simp only [List.getElem?_toArray, List.getElem?_append]
          have := (List.getElem?_eq_some_iff.1 hj).1
          rw [if_pos this]; exact hj
        · cases hj
      · rw [hi]
        simp at e2
        simp [hsz]; omega
      · simp only [SV.Den]; exact ⟨_, hys, rfl⟩
    · rename_i hrow
      split at h <;> try (cases h; done)
      rename_i x hx
      rw [nth_eq] at hx
      obtain ⟨v, hv, hxv⟩ := denL_get hvs hx
      cases h
      refine ⟨v, run_loadAt_cell hu hrow (cell_of_heap hobj (v := v) ?_), hxv, rfl⟩
      have := (List.getElem?_eq_some_iff.1 hv).1
      simp only [List.getElem?_toArray, List.getElem?_append, if_pos this]; exact hv
  · rename_i bb s n ii
    obtain ⟨rfl, h0i, hlt⟩ := hm
    split at h <;> try cases h
    rename_i hrow
    split at h <;> try cases h
    rename_i k x0 hx0
    split at h <;> try (cases h; done)
    rename_i g hg
    obtain ⟨h1, h2⟩ := gather_spec hg
    obtain ⟨y, e1, e2⟩ := h2 ii.v.toNat hlt
    obtain ⟨v, hv, hyv⟩ := denL_get hvs e1
    simp only [SV.Den] at hyv; subst hyv
    cases h
    refine ⟨.int k y.v, run_loadAt_cell hu hrow (cell_of_heap hobj (v := .int k y.v) ?_), ?_, rfl⟩
    · have := (List.getElem?_eq_some_iff.1 hv).1
      simp only [List.getElem?_toArray, List.getElem?_append, if_pos this]; exact hv
    · simp only [SV.Den, SI.v, Tm.v]
      rw [List.getD_eq_getElem?_getD, e2]; rfl
  · cases h
theorem sLoad_ok [Val] {t : TypeId} {p : SV} {pv : Value} (d : DenH ρ X w0 look fresh w) (hp : p.Den ρ pv) (h : sLoad P look t p = some r) : Good P ρ X w0 look fresh id r (do pure (.value (← Instr.loadAt t pv))) w := by
  obtain ⟨s, us, ts⟩ := r
  obtain ⟨v, h1, h2, rfl⟩ := sLoad_den d hp h
  exact Good.value d h1 h2
end
end Go.Sx
