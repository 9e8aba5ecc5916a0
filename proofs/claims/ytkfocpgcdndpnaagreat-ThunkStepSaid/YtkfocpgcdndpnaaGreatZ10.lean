/- Parts of the proof: Sx21, Sx22, Sx20, Sx23, SxRed. -/
import Derived.Test.YtkfocpgcdndpnaaGreatZ9
import Derived.Test.YtkfocpgcdndpnaaGreatZ8
import Derived.Test.YtkfocpgcdndpnaaGreatProg
import Derived.Test.YtkfocpgcdndpnaaGreatZ1
/- Regions that draw their order: the whole region; calls within it. -/
namespace Go.Sx
set_option linter.unusedSimpArgs false
set_option linter.unusedVariables false
open Go Go.RowKit Go.Cd Go.Proofs.YtkfocpgcdndpnaaGreat Go.MapKept

def dAll (P : Program) (ax : Ax) (cal : Callee) (as' : List (Bm × Bool)) (ops : Array Oper) (hi : Nat) : List Oper → St → Option (List Foot × List St)
  | [], _ => some ([], [])
  | o :: l, s => match dOne P ax cal as' ops hi o s with
    | some (s', f) => match dAll P ax cal as' ops hi l s' with
      | some (fs, ss) => some (f :: fs, s' :: ss)
      | none => none
    | none => none
def mem (n : Nat) : List Nat → Bool
  | [] => false
  | x :: l => match Nat.beq x n with
    | true => true
    | false => mem n l
theorem mem_iff [Val] {n : Nat} : ∀ {l : List Nat}, mem n l = true ↔ n ∈ l
  | [] => by simp [mem]
  | x :: l => by
    unfold mem
    split
    · rename_i h; have := Nat.eq_of_beq_eq_true h; simp [this]
    · rename_i h; have := Nat.ne_of_beq_eq_false h; rw [mem_iff (l := l)]; simp [Ne.symm this]
theorem mem_false [Val] {n : Nat} {l : List Nat} (h : mem n l = false) : n ∉ l := fun hh => by rw [mem_iff.2 hh] at h; cases h
/-- None of the first list's are in the second. -/
def none' : List Nat → List Nat → Bool
  | [], _ => true
  | x :: l, m => match mem x m with
    | true => false
    | false => none' l m
theorem none'_ok [Val] : ∀ {l m : List Nat}, none' l m = true → ∀ x ∈ l, x ∉ m
  | [], _, _, x, hx => by simp at hx
  | y :: l, m, h, x, hx => by
    unfold none' at h
    split at h
    · cases h
    · rename_i e
      rcases List.mem_cons.1 hx with rfl | hx
      · exact mem_false e
      · exact none'_ok h x hx
def isNil : List Nat → Bool
  | [] => true
  | _ => false
def noConfB (a b : Foot) : Bool :=
  (match a.wt with
    | some t => !(mem t b.rt) && (match b.wt with
      | some u => !(Nat.beq u t)
      | none => true)
    | none => true) &&
  (match b.wt with
    | some t => !(mem t a.rt)
    | none => true) &&
  (isNil a.wh || (!b.all && none' a.wh b.rh && none' a.wh b.wh)) &&
  (isNil b.wh || (!a.all && none' b.wh a.rh))
theorem noConfB_ok [Val] {a b : Foot} (h : noConfB a b = true) : NoConf a b := by
  unfold noConfB at h
  rw [Bool.and_eq_true, Bool.and_eq_true, Bool.and_eq_true] at h
  obtain ⟨⟨⟨h1, h2⟩, h3⟩, h4⟩ := h
  refine ⟨fun t ht => ?_, fun t ht => ?_, fun x hx => ?_, fun x hx => ?_⟩
  · rw [ht] at h1
    simp only [Bool.and_eq_true, Bool.not_eq_true'] at h1
    refine ⟨mem_false h1.1, fun e => ?_⟩
    rw [e] at h1
    have := h1.2
    simp at this
  · rw [ht] at h2
    simp only [Bool.not_eq_true'] at h2
    exact mem_false h2
  · rw [Bool.or_eq_true] at h3
    rcases h3 with h3 | h3
    · cases hw : a.wh with
      | nil => rw [hw] at hx; simp at hx
      | cons y l => rw [hw] at h3; cases h3
    · rw [Bool.and_eq_true, Bool.and_eq_true, Bool.not_eq_true'] at h3
      exact ⟨h3.1.1, none'_ok h3.1.2 x hx, none'_ok h3.2 x hx⟩
  · rw [Bool.or_eq_true] at h4
    rcases h4 with h4 | h4
    · cases hw : b.wh with
      | nil => rw [hw] at hx; simp at hx
      | cons y l => rw [hw] at h4; cases h4
    · rw [Bool.and_eq_true, Bool.not_eq_true'] at h4
      exact ⟨h4.1, none'_ok h4.2 x hx⟩
def bindsB (e : Edge) : Bool := Region.binds .any e
def nthN : List Nat → Nat → Nat
  | [], _ => 0
  | x :: _, 0 => x
  | _ :: l, n + 1 => nthN l n
theorem nthN_eq [Val] : ∀ (l : List Nat) (i : Nat), nthN l i = (l[i]?).getD 0
  | [], _ => by simp [nthN]
  | _ :: _, 0 => by simp [nthN]
  | _ :: l, i + 1 => by simp [nthN, nthN_eq l i]
def maskE (ms : List Nat) : List Edge → Nat
  | [] => 0
  | e :: es => match bindsB e with
    | true => Nat.lor (Nat.lor (2 ^ e.on) (nthN ms e.on)) (maskE ms es)
    | false => maskE ms es
def masks : List Nat → List Oper → List Nat
  | ms, [] => ms
  | ms, o :: l => masks (ms ++ [maskE ms o.after.toList]) l
theorem maskE_ok [Val] {ms : List Nat} : ∀ {es : List Edge} {i : Nat}, (maskE ms es).testBit i = true → ∃ e ∈ es, Region.binds .any e = true ∧ (i = e.on ∨ ((ms[e.on]?).getD 0).testBit i = true)
  | [], i, h => by simp [maskE] at h
  | e :: es, i, h => by
    unfold maskE at h
    split at h
    · rename_i hb
      have h' : ((2 ^ e.on ||| nthN ms e.on) ||| maskE ms es).testBit i = true := h
      rw [Nat.testBit_or, Nat.testBit_or, Bool.or_eq_true, Bool.or_eq_true] at h'
      rcases h' with (h' | h') | h'
      · rw [Nat.testBit_two_pow] at h'
        exact ⟨e, by simp, hb, .inl (by simpa using (of_decide_eq_true h').symm)⟩
      · rw [nthN_eq] at h'
        exact ⟨e, by simp, hb, .inr h'⟩
      · obtain ⟨e', h1, h2⟩ := maskE_ok h'
        exact ⟨e', by simp [h1], h2⟩
    · obtain ⟨e', h1, h2⟩ := maskE_ok h
      exact ⟨e', by simp [h1], h2⟩
theorem masks_ok [Val] {ops : Array Oper} : ∀ {l : List Oper} {ms : List Nat}, (∀ i, l[i]? = ops[ms.length + i]?) → (∀ j m i, ms[j]? = some m → m.testBit i = true → Bef ops i j) →
    (masks ms l).length = ms.length + l.length ∧ ∀ j m i, (masks ms l)[j]? = some m → m.testBit i = true → Bef ops i j
  | [], ms, _, h => ⟨by simp [masks], h⟩
  | o :: l, ms, hl, h => by
    unfold masks
    have ho : ops[ms.length]? = some o := by have := hl 0; simpa using this.symm
    obtain ⟨h1, h2⟩ := masks_ok (ops := ops) (l := l) (ms := ms ++ [maskE ms o.after.toList]) (fun i => by
      have := hl (i + 1)
      simp at this ⊢
      rw [this]; congr 1; omega) (fun j m i hj hm => by
      rw [List.getElem?_append] at hj
      split at hj
      · exact h j m i hj hm
      · rename_i hge
        have hj0 : j - ms.length = 0 := by
          have := (List.getElem?_eq_some_iff.1 hj).1
          simpa using this
        have hjj : j = ms.length := by omega
        subst hjj
        simp at hj; subst hj
        obtain ⟨e, he, hb, hc⟩ := maskE_ok hm
        have he' : e ∈ o.after := by simpa using he
        rcases hc with rfl | hc
        · exact .edge ho he' hb
        · cases hx : ms[e.on]? with
          | none => rw [hx] at hc; simp at hc
          | some m' =>
            rw [hx] at hc
            exact .step ho he' hb (h e.on m' i hx hc))
    exact ⟨by rw [h1]; simp; omega, h2⟩
def edgesB (i : Nat) : List Edge → Bool
  | [] => true
  | e :: es => match bindsB e with
    | true => match Nat.blt e.on i with
      | true => edgesB i es
      | false => false
    | false => edgesB i es
theorem edgesB_ok [Val] {i : Nat} : ∀ {es : List Edge}, edgesB i es = true → ∀ e ∈ es, Region.binds .any e = true → e.on < i
  | [], _, e, he, _ => by simp at he
  | x :: es, h, e, he, hb => by
    unfold edgesB at h
    split at h
    · split at h
      · rename_i hx hlt
        rcases List.mem_cons.1 he with rfl | he
        · exact Nat.le_of_ble_eq_true hlt
        · exact edgesB_ok h e he hb
      · cases h
    · rename_i hx
      rcases List.mem_cons.1 he with rfl | he
      · rw [bindsB, hb] at hx; cases hx
      · exact edgesB_ok h e he hb
def edgesAll : Nat → List Oper → Bool
  | _, [] => true
  | i, o :: l => match edgesB i o.after.toList with
    | true => edgesAll (i + 1) l
    | false => false
theorem edgesAll_ok [Val] : ∀ {l : List Oper} {k : Nat}, edgesAll k l = true → ∀ i o, l[i]? = some o → ∀ e ∈ o.after, Region.binds .any e = true → e.on < k + i
  | [], _, _, i, o, ho, _, _, _ => by simp at ho
  | x :: l, k, h, i, o, ho, e, he, hb => by
    unfold edgesAll at h
    split at h
    · rename_i h1
      cases i with
      | zero =>
        simp at ho; subst ho
        exact edgesB_ok h1 e (by simpa using he) hb
      | succ i =>
        have := edgesAll_ok h i o (by simpa using ho) e he hb
        omega
    · cases h
def pairOk (m : Nat) (fj : Foot) : Nat → List Foot → Bool
  | _, [] => true
  | i, f :: fs => match Nat.testBit m i with
    | true => pairOk m fj (i + 1) fs
    | false => match noConfB f fj with
      | true => pairOk m fj (i + 1) fs
      | false => false
theorem pairOk_ok [Val] {m : Nat} {fj : Foot} : ∀ {fs : List Foot} {k : Nat}, pairOk m fj k fs = true → ∀ i f, fs[i]? = some f → m.testBit (k + i) = true ∨ NoConf f fj
  | [], _, _, i, f, hf => by simp at hf
  | g :: fs, k, h, i, f, hf => by
    unfold pairOk at h
    have rest : pairOk m fj (k + 1) fs = true → ∀ i, fs[i]? = some f → m.testBit (k + (i + 1)) = true ∨ NoConf f fj := fun h i hf => by
      have := pairOk_ok h i f hf
      rwa [show k + 1 + i = k + (i + 1) by omega] at this
    split at h
    · rename_i hb
      cases i with
      | zero => exact .inl hb
      | succ i => exact rest h i (by simpa using hf)
    · split at h
      · rename_i hc
        cases i with
        | zero => simp at hf; subst hf; exact .inr (noConfB_ok hc)
        | succ i => exact rest h i (by simpa using hf)
      · cases h
def pairsAll : List Foot → List Foot → List Nat → Bool
  | _, [], _ => true
  | pre, f :: fs, m :: ms => match pairOk m f 0 pre with
    | true => pairsAll (pre ++ [f]) fs ms
    | false => false
  | _, _ :: _, [] => false
theorem pairsAll_ok [Val] : ∀ {fs pre : List Foot} {ms : List Nat}, pairsAll pre fs ms = true → ∀ i j f g m, i < pre.length + j → (pre ++ fs)[i]? = some f → fs[j]? = some g → ms[j]? = some m → m.testBit i = true ∨ NoConf f g
  | [], _, _, _, i, j, f, g, m, _, _, hg, _ => by simp at hg
  | x :: fs, pre, [], h, _, _, _, _, _, _, _, _, _ => by simp [pairsAll] at h
  | x :: fs, pre, y :: ms, h, i, j, f, g, m, hij, hf, hg, hm => by
    unfold pairsAll at h
    split at h
    · rename_i h1
      cases j with
      | zero =>
        simp at hg hm hij; subst hg hm
        rw [List.getElem?_append_left hij] at hf
        have := pairOk_ok h1 i f hf
        simpa using this
      | succ j =>
        exact pairsAll_ok h i j f g m (by simp; omega) (by simpa using hf) (by simpa using hg) (by simpa using hm)
    · cases h
def lastS : St → List St → St
  | s, [] => s
  | _, s :: l => lastS s l
/-- How many operations stand ahead of the end, in which each waits for all ahead of it. -/
def preLen : List Nat → Nat → Nat → Nat
  | [], _, z => z
  | m :: ms, i, z => match Nat.beq (m % 2 ^ i) (2 ^ i - 1) with
    | true => preLen ms (i + 1) z
    | false => preLen ms (i + 1) (i + 1)
theorem preLen_ok [Val] : ∀ {ms : List Nat} {i z : Nat}, z ≤ i → z ≤ preLen ms i z ∧ preLen ms i z ≤ i + ms.length ∧ ∀ j m, ms[j]? = some m → preLen ms i z ≤ i + j → ∀ q, q < i + j → m.testBit q = true
  | [], i, z, h => ⟨Nat.le_refl _, by simpa [preLen] using h, fun j m hj => by simp at hj⟩
  | x :: ms, i, z, h => by
    unfold preLen
    split
    · rename_i hb
      have hb := Nat.eq_of_beq_eq_true hb
      obtain ⟨h1, h2, h3⟩ := preLen_ok (ms := ms) (i := i + 1) (z := z) (by omega)
      refine ⟨h1, by simp; omega, fun j m hj hle q hq => ?_⟩
      cases j with
      | zero =>
        simp at hj; subst hj
        have : (x % 2 ^ i).testBit q = true := by
          rw [hb, Nat.testBit_two_pow_sub_one]; simpa using hq
        rw [Nat.testBit_mod_two_pow] at this
        simp at this
        exact this.2
      | succ j => exact h3 j m (by simpa using hj) (by omega) q (by omega)
    · obtain ⟨h1, h2, h3⟩ := preLen_ok (ms := ms) (i := i + 1) (z := i + 1) (Nat.le_refl _)
      refine ⟨by omega, by simp; omega, fun j m hj hle q hq => ?_⟩
      cases j with
      | zero => omega
      | succ j => exact h3 j m (by simpa using hj) (by omega) q (by omega)
def pre : List Oper → Nat → List Oper
  | o :: l, n + 1 => o :: pre l n
  | _, _ => []
theorem pre_get [Val] : ∀ {l : List Oper} {n i : Nat}, i < n → (pre l n)[i]? = l[i]?
  | [], 0, _, h => by omega
  | [], _ + 1, _, _ => by simp [pre]
  | _ :: _, 0, _, h => by omega
  | _ :: l, n + 1, 0, _ => by simp [pre]
  | _ :: l, n + 1, i + 1, h => by simp [pre, pre_get (l := l) (n := n) (i := i) (by omega)]
theorem pre_length [Val] : ∀ {l : List Oper} {n : Nat}, n ≤ l.length → (pre l n).length = n
  | [], 0, _ => rfl
  | [], _ + 1, h => by simp at h
  | _ :: _, 0, _ => rfl
  | _ :: l, n + 1, h => by simp [pre, pre_length (l := l) (n := n) (by simpa using h)]
def rangeF : Nat → Nat → List Nat
  | _, 0 => []
  | i, n + 1 => i :: rangeF (i + 1) n
theorem rangeF_eq [Val] : ∀ {n i : Nat}, rangeF i n = List.range' i n
  | 0, _ => rfl
  | n + 1, i => by rw [rangeF, List.range'_succ, rangeF_eq]
def needsOf : List Foot → List Bm
  | [] => []
  | f :: l => f.need ++ needsOf l
theorem needsOf_mem {p : Bm} : ∀ {l : List Foot} {i : Nat} {f : Foot}, l[i]? = some f → p ∈ f.need → p ∈ needsOf l
  | [], i, f, h, _ => by simp at h
  | g :: l, 0, f, h, hp => by
    simp at h; subst h
    exact List.mem_append_left _ hp
  | g :: l, i + 1, f, h, hp => List.mem_append_right _ (needsOf_mem (by simpa using h) hp)
/-- A region that draws, by the order of its text; none: its parts may meet. -/
def sDraw (P : Program) (ax : Ax) (cal : Callee) : Dr := fun as' ops tmps ents next hi log =>
  match masks [] ops.toList with
  | ms => match preLen ms 0 0 with
    | z => match Nat.ble next hi, dAll P ax cal as' ops hi (pre ops.toList z) ⟨tmps, ents, next, log⟩ with
      | true, some (fs, ss) => match edgesAll 0 ops.toList, pairsAll [] fs ms with
        | true, true => match lastS ⟨tmps, ents, next, log⟩ ss with
          | ⟨t, e, n, l⟩ => some (needsOf fs, t, e, n, l, rangeF z (ops.size - z))
        | _, _ => none
      | _, _ => none
/-- The first test that has to be known. -/
abbrev CalAsk := List (Bm × Bool) → FuncId → List SV → Ents → Nat → Nat → Option Bm
def dAsk (P : Program) (ax : Ax) (cal : Callee) (cask : CalAsk) (as' : List (Bm × Bool)) (ops : Array Oper) (hi : Nat) : List Oper → St → Option Bm
  | [], _ => none
  | o :: l, s => match dOne P ax cal as' ops hi o s with
    | some (s', _) => dAsk P ax cal cask as' ops hi l s'
    | none => match wantAs as' (wantS ops s.tmps o), wantS ops s.tmps o with
      | (.yes, _), _ => match ax (find s.ents) s.next o.op (evs (evalS s.tmps) o.op.operands.toList) with
        | some out => outAsk as' out
        | none => match sop P (find s.ents) s.next (evalS s.tmps) o.op with
          | .enter f args => cask as' f args s.ents s.next hi
          | out => outAsk as' out
      | (.unk, _), .ask b _ => some b
      | _, _ => none
def sAsk (P : Program) (ax : Ax) (cal : Callee) (cask : CalAsk) : Ask := fun as' ops tmps ents next hi => dAsk P ax cal cask as' ops hi (pre ops.toList (preLen (masks [] ops.toList) 0 0)) ⟨tmps, ents, next, []⟩
section
variable {P : Program}
theorem dAll_spec [Val] {ax : Ax} {cal : Callee} {as' : List (Bm × Bool)} {ops : Array Oper} {hi : Nat} : ∀ {l : List Oper} {s : St} {fs : List Foot} {ss : List St}, dAll P ax cal as' ops hi l s = some (fs, ss) → fs.length = l.length ∧ ss.length = l.length ∧
    ∀ (i : Nat) (o : Oper), l[i]? = some o → ∃ si s' f, (s :: ss)[i]? = some si ∧ ss[i]? = some s' ∧ fs[i]? = some f ∧ dOne P ax cal as' ops hi o si = some (s', f)
  | [], s, _, _, h => by simp only [dAll, Option.some.injEq, Prod.mk.injEq] at h; obtain ⟨rfl, rfl⟩ := h; simp
  | o :: l, s, _, _, h => by
    unfold dAll at h
    split at h <;> try cases h
    rename_i s' f hs
    split at h <;> cases h
    rename_i fs ss hl
    obtain ⟨h1, h2, h3⟩ := dAll_spec hl
    refine ⟨by simp [h1], by simp [h2], fun i o' ho => ?_⟩
    cases i with
    | zero => simp at ho; subst ho; exact ⟨s, s', f, rfl, rfl, rfl, hs⟩
    | succ i =>
      obtain ⟨si, s2, f2, e1, e2, e3, e4⟩ := h3 i o' (by simpa using ho)
      exact ⟨si, s2, f2, by simpa using e1, by simpa using e2, by simpa using e3, e4⟩
theorem lastS_eq [Val] : ∀ (ss : List St) (s : St), lastS s ss = ((s :: ss)[ss.length]?).getD s
  | [], s => by simp [lastS]
  | x :: ss, s => by rw [lastS, lastS_eq ss x]; simp
/-- What a region leaves: names that it did not touch stand. -/
def DrLog (dr : Dr) : Prop := ∀ as' ops tmps ents next hi log ps tmps' ents' next' log' rest, dr as' ops tmps ents next hi log = some (ps, tmps', ents', next', log', rest) → ∀ h, h ∉ log' → h ∉ log ∧ find ents' h = find ents h
theorem sDraw_ok [Val] (hok : FnOk P) (hm : P.follows .mixedOrders = true) {ax : Ax} (hax : AxOk P ax) (hs : AxSafe ax) {cal : Callee} (hcal : CalleeOk P cal) : DrOk P (sDraw P ax cal) ∧ DrLog (sDraw P ax cal) := by
  have key : ∀ as' ops tmps ents next hi log ps tmps' ents' next' log' rest, sDraw P ax cal as' ops tmps ents next hi log = some (ps, tmps', ents', next', log', rest) → ∃ st ft z, ((∀ p ∈ ps, p.v = true) → Plan P ops st ft hi z) ∧ st 0 = ⟨tmps, ents, next, log⟩ ∧ st z = ⟨tmps', ents', next', log'⟩ ∧ rest = List.range' z (ops.size - z) ∧
      ∀ i, i < z → ∀ h, h ∉ (st (i + 1)).log → h ∉ (st i).log ∧ find (st (i + 1)).ents h = find (st i).ents h := by
    intro as' ops tmps ents next hi log ps tmps' ents' next' log' rest h
    unfold sDraw at h
    dsimp only at h
    generalize hz : preLen (masks [] ops.toList) 0 0 = z at h
    have hmk := masks_ok (ops := ops) (l := ops.toList) (ms := []) (fun i => by simp) (fun j m i hj => by simp at hj)
    obtain ⟨z1, z2, z3⟩ := preLen_ok (ms := masks [] ops.toList) (Nat.le_refl 0)
    rw [hz] at z1 z2 z3
    have hmlen : (masks [] ops.toList).length = ops.size := by rw [hmk.1]; simp
    have hzle : z ≤ ops.size := by omega
    split at h <;> try (cases h; done)
    rename_i fs ss hble hd
    have hble := Nat.le_of_ble_eq_true hble
    split at h <;> try (cases h; done)
    rename_i hed hpa
    generalize hlast : lastS ⟨tmps, ents, next, log⟩ ss = L at h
    obtain ⟨t, e, n, l⟩ := L
    cases h
    obtain ⟨g1, g2, g3⟩ := dAll_spec hd
    generalize hs0 : (⟨tmps, ents, next, log⟩ : St) = s0 at *
    have hsz : (pre ops.toList z).length = z := pre_length (by simpa using hzle)
    rw [hsz] at g1 g2
    let st : Nat → St := fun i => ((s0 :: ss)[i]?).getD s0
    let ft : Nat → Foot := fun i => (fs[i]?).getD ⟨[], none, false, [], [], []⟩
    have each : ∀ i, i < z → ∃ o, ops[i]? = some o ∧ dOne P ax cal as' ops hi o (st i) = some (st (i + 1), ft i) := fun i hi' => by
      have hi2 : i < ops.size := by omega
      have ho : (pre ops.toList z)[i]? = some ops[i] := by rw [pre_get hi']; simp [hi2]
      obtain ⟨si, s', f, e1, e2, e3, e4⟩ := g3 i _ ho
      refine ⟨ops[i], by simp [hi2], ?_⟩
      have f1 : st i = si := by simp only [st, e1, Option.getD_some]
      have f2 : st (i + 1) = s' := by simp only [st, List.getElem?_cons_succ, e2, Option.getD_some]
      have f3 : ft i = f := by simp only [ft, e3, Option.getD_some]
      rw [f1, f2, f3]; exact e4
    have good : ∀ i, i < z → ∃ o, ops[i]? = some o ∧ ((∀ p ∈ (ft i).need, p.v = true) → OpSem P ops i (st i) (st (i + 1)) (ft i)) ∧ Next1 (st i) (st (i + 1)) (ft i) o hi := fun i hi' => by
      obtain ⟨o, ho, hd1⟩ := each i hi'
      obtain ⟨q1, q2⟩ := dOne_ok hok hax hs hcal ho hd1
      exact ⟨o, ho, q1, q2⟩
    have hle : ∀ k, k ≤ z → (st k).next ≤ hi := fun k => by
      induction k with
      | zero => intro _; simp only [st, List.getElem?_cons_zero, Option.getD_some]; rw [← hs0]; exact hble
      | succ k ih =>
        intro hk
        obtain ⟨o, _, _, n1⟩ := good k (by omega)
        have := n1.le
        have := ih (by omega)
        omega
    have hmj : ∀ j, j < ops.size → ∃ m, (masks [] ops.toList)[j]? = some m := fun j hj => by
      have : j < (masks [] ops.toList).length := by omega
      exact ⟨_, List.getElem?_eq_getElem this⟩
    refine ⟨st, ft, z, fun hps => ⟨fun i hi' => ?_, fun i hi' => ?_, hle _ (Nat.le_refl _), fun i hi' => ?_, fun i hi' => ?_, fun i hi' => ?_, fun i o ho e he hb => ?_, fun i j hij hj => ?_, hzle, fun j hj1 hj2 i hij => ?_⟩, ?_, ?_, rangeF_eq, fun i hi' h hh => ?_⟩
    · obtain ⟨o, _, q, _⟩ := good i hi'
      have hfi : fs[i]? = some (ft i) := by
        have : i < fs.length := by omega
        simp only [ft, List.getElem?_eq_getElem this, Option.getD_some]
      exact q fun p hp => hps p (needsOf_mem hfi hp)
    · obtain ⟨o, _, _, q⟩ := good i hi'; exact q.next
    · obtain ⟨o, _, _, q⟩ := good i hi'; exact q.len
    · obtain ⟨o, _, _, q⟩ := good i hi'; exact q.tmp
    · obtain ⟨o, _, _, q⟩ := good i hi'; exact q.heap
    · have := edgesAll_ok hed i o (by simpa using ho) e he hb
      simpa using this
    · have hfi : fs[i]? = some (ft i) := by
        have : i < fs.length := by omega
        simp only [ft, List.getElem?_eq_getElem this, Option.getD_some]
      have hfj : fs[j]? = some (ft j) := by
        have : j < fs.length := by omega
        simp only [ft, List.getElem?_eq_getElem this, Option.getD_some]
      obtain ⟨m, hmj⟩ := hmj j (by omega)
      rcases pairsAll_ok hpa i j (ft i) (ft j) m (by simpa using hij) (by simpa using hfi) hfj hmj with hb | hc
      · exact .inl (hmk.2 j m i hmj hb)
      · exact .inr hc
    · obtain ⟨m, hm⟩ := hmj j hj2
      exact hmk.2 j m i hm (z3 j m hm (by omega) i (by omega))
    · simp only [st, List.getElem?_cons_zero, Option.getD_some]
    · rw [← hlast, lastS_eq, g2]
    · obtain ⟨o, _, _, q⟩ := good i hi'
      obtain ⟨r1, r2⟩ := q.log h hh
      exact ⟨r1, q.heap h r2⟩
  refine ⟨?_, ?_⟩
  · intro as' ops tmps ents next hi log ps tmps' ents' next' log' rest h hps ρ X w0 F lo cs fn tm k ds kd ro w t htm hd hF
    obtain ⟨st, ft, z, p, h0, hn, rfl, _⟩ := key _ _ _ _ _ _ _ _ _ _ _ _ _ h
    have p := p hps
    have hF0 : FrOk F lo (st 0).next hi := by rw [h0]; exact hF
    have hsch : Region.schedule (P.follows .mixedOrders) ops t = Region.linearise.go .any ops ops.size t (Array.replicate ops.size false) [] := by
      simp only [Region.schedule, hm, Bool.true_or, if_true, Region.linearise]
    rw [hsch]
    have hD0 : ∀ i, (Array.replicate ops.size false).getD i false = false := fun i => by
      simp only [Array.getD_eq_getD_getElem?, Array.getElem?_replicate]
      split <;> rfl
    have m0T : ∀ k t, mixT (fun i => (Array.replicate ops.size false).getD i false) st ft k t = nth (st 0).tmps t := fun k t => by
      induction k with
      | zero => rfl
      | succ k ih => rw [mixT, if_neg (by simp [hD0]), ih]
    have m0H : ∀ k t, mixH (fun i => (Array.replicate ops.size false).getD i false) st ft k t = find (st 0).ents t := fun k t => by
      induction k with
      | zero => rfl
      | succ k ih => rw [mixH, if_neg (by simp [hD0]), ih]
    obtain ⟨ρ', tm', w', g1, g2, g3, g4⟩ := p.all hF0 (X := X) (w0 := w0) cs fn k ds kd ro ops.size t (Array.replicate ops.size false) ρ tm w (by simp) (cnt_le _ _) (fun j o e hj => by rw [show (fun i => (Array.replicate ops.size false).getD i false) j = false from hD0 j] at hj; cases hj) (fun i _ => hD0 i)
      ⟨by rw [h0]; have := denL_length htm; simpa using this, fun t x hx => by
        rw [m0T, h0] at hx
        rw [nth_eq] at hx
        obtain ⟨v, q1, q2⟩ := denL_get htm hx
        exact ⟨v, by simpa using q1, q2⟩, (hd.congr fun h => by rw [m0H, h0]).fresh_mono fun q hq => ⟨hq.1, by have := hq.2.1; rw [h0] at this; exact this⟩⟩
    rw [hn] at g3 g4
    have hnext := p.next_mono (Nat.zero_le z) (Nat.le_refl _)
    rw [h0, hn] at hnext
    exact ⟨ρ', tm', w', g1, g2, g3, g4, hnext⟩
  · intro as' ops tmps ents next hi log ps tmps' ents' next' log' rest h x hx
    obtain ⟨st, ft, z, p, h0, hn, _, hl⟩ := key _ _ _ _ _ _ _ _ _ _ _ _ _ h
    have down : ∀ k, k ≤ z → x ∉ (st (z - k)).log ∧ find (st z).ents x = find (st (z - k)).ents x := fun k => by
      induction k with
      | zero => intro _; rw [Nat.sub_zero, hn]; exact ⟨hx, rfl⟩
      | succ k ih =>
        intro hk
        obtain ⟨i1, i2⟩ := ih (by omega)
        have := hl (z - (k + 1)) (by omega) x (by rw [show z - (k + 1) + 1 = z - k by omega]; exact i1)
        rw [show z - (k + 1) + 1 = z - k by omega] at this
        exact ⟨this.1, i2.trans this.2⟩
    obtain ⟨d1, d2⟩ := down z (Nat.le_refl _)
    rw [Nat.sub_self, h0] at d1 d2
    rw [hn] at d2
    exact ⟨d1, d2⟩
end
end Go.Sx
/- Symbolic runs keep a log of the names that they touch; calls within regions that draw. -/
namespace Go.Sx
set_option linter.unusedSimpArgs false
set_option linter.unusedVariables false
open Go Go.RowKit Go.Cd Go.Proofs.YtkfocpgcdndpnaaGreat Go.MapKept

def ExtLog (x : Ext) : Prop := DrLog x.dr ∧ ConLog x.con
/-- What the log leaves out stands as at the start. -/
def LogInv (E0 : Look) (S : SState) : Prop := ∀ h, h ∉ S.log → find S.ents h = E0 h
section
variable {P : Program} {E0 : Look}
theorem LogInv.same [Val] {S S' : SState} (h : LogInv E0 S) (he : S'.ents = S.ents) (hl : S'.log = S.log) : LogInv E0 S' := fun x hx => by rw [he]; exact h x (by rw [← hl]; exact hx)
theorem LogInv.upd [Val] {S S' : SState} (h : LogInv E0 S) {k : Nat} {o : SObj} (he : S'.ents = upd S.ents k o) (hl : S'.log = k :: S.log) : LogInv E0 S' := fun x hx => by
  rw [hl, List.mem_cons, not_or] at hx
  rw [he, find_upd, if_neg hx.1]
  exact h x hx.2
theorem LogInv.app [Val] {S S' : SState} (h : LogInv E0 S) {us : List Upd} (he : S'.ents = appUs us S.ents) (hl : S'.log = logUs us S.log) : LogInv E0 S' := fun x hx => by
  rw [hl] at hx
  obtain ⟨h1, h2⟩ := logUs_mem hx
  rw [he, find_appUs, (looks_split us (find S.ents) (find S.ents) x).2 h2]
  exact h x h1
theorem sOut_log [Val] {e : Ext} (hcon : ConLog e.con) {S : SState} (hS : LogInv E0 S) {td : List SItem} {dst : Option Tmp} : ∀ {x : OOut}, (sOut P e S td dst x).all (LogInv E0)
  | .val v us ts => hS.app rfl rfl
  | .enter f args => by
    simp only [sOut]; split
    · split
      · exact hS.same rfl rfl
      · trivial
    split
    · rename_i next' t hct
      split
      · refine Tree.all_bind (fun r hr => ?_) (hcon _ _ _ _ _ _ hct)
        intro x hx
        dsimp only at hx ⊢
        rw [List.mem_append, not_or] at hx
        rw [hr x hx.1]
        exact hS x hx.2
      · trivial
    · exact hS.same rfl rfl
  | .yield h args => by
    simp only [sOut]; split
    · split
      · exact hS.same rfl rfl
      · trivial
    · trivial
  | .dfr f c a => hS.same rfl rfl
  | .pan v => hS.same rfl rfl
  | .rcv => by
    simp only [sOut]; split
    · split
      · exact hS.same rfl rfl
      · exact hS.same rfl rfl
    · trivial
  | .split b x y => ⟨sOut_log hcon hS, sOut_log hcon hS⟩
  | .need p x => sOut_log hcon hS (x := x)
  | .stuck n => trivial
theorem sSkip_log [Val] {S : SState} (hS : LogInv E0 S) {td : List SItem} {dst : Option Tmp} : (sSkip S td dst).all (LogInv E0) := hS.same rfl rfl
theorem sDo_log [Val] {e : Ext} (hcon : ConLog e.con) {S : SState} (hS : LogInv E0 S) {td : List SItem} {o : Oper} : (sDo P e S td o).all (LogInv E0) := by
  unfold sDo
  split
  · trivial
  · split
    · exact sOut_log hcon hS
    · trivial
theorem sOp_log [Val] {e : Ext} (hcon : ConLog e.con) {S : SState} (hS : LogInv E0 S) {ops : Array Oper} {i : Nat} {rest : List Nat} {k : List SItem} : (sOp P e S ops i rest k).all (LogInv E0) := by
  unfold sOp
  split
  · exact sSkip_log hS
  · split
    · exact sDo_log hcon hS
    · exact sSkip_log hS
    · split
      · exact ⟨sDo_log hcon hS, sSkip_log hS⟩
      · exact ⟨sSkip_log hS, sDo_log hcon hS⟩
    · trivial
theorem sUnwind_log [Val] {S : SState} (hS : LogInv E0 S) : (sUnwind P S).all (LogInv E0) := by
  unfold sUnwind
  split
  · split
    · exact hS.upd rfl rfl
    · trivial
  · split
    · exact hS.same rfl rfl
    · trivial
  · split
    · trivial
    · split
      · trivial
      · split
        · exact hS.same rfl rfl
        · split
          · trivial
          · split
            · split
              · exact hS.same rfl rfl
              · trivial
            · exact hS.same rfl rfl
            · trivial
        · trivial
theorem sLeave_log [Val] {S : SState} (hS : LogInv E0 S) {jump : Option Code} {ret : Bool} : (sLeave S jump ret).all (LogInv E0) := by
  unfold sLeave
  split
  · split
    · exact hS.same rfl rfl
    · trivial
  · unfold sRoundEnd
    split
    · split
      · split
        · exact hS.upd rfl rfl
        · trivial
      · trivial
    · trivial
theorem sRangeFunc_log [Val] {S : SState} (hS : LogInv E0 S) {f : Operand} {params : Array Tmp} {a b : Code} {k : List SItem} : (sRangeFunc P S f params a b k).all (LogInv E0) := by
  unfold sRangeFunc
  split
  · split
    · split
      · intro x hx
        dsimp only at hx ⊢
        rw [List.mem_cons, List.mem_cons, not_or, not_or] at hx
        rw [find_cons, find_cons, if_neg hx.1, if_neg hx.2.1]
        exact hS x hx.2.2
      · split
        · intro x hx
          dsimp only at hx ⊢
          rw [List.mem_cons, not_or] at hx
          rw [find_cons, if_neg hx.1]
          exact hS x hx.2
        · trivial
    · trivial
  · trivial
theorem sCode_log [Val] {dr : Ext} (hdr : ExtLog dr) {S : SState} (hS : LogInv E0 S) {c : Code} {k : List SItem} : (sCode P dr S c k).all (LogInv E0) := by
  cases c <;> simp only [sCode]
  case skip => exact hS.same rfl rfl
  case label => exact hS.same rfl rfl
  case seq => exact hS.same rfl rfl
  case block => exact hS.same rfl rfl
  case loop => exact hS.same rfl rfl
  case scope => exact hS.same rfl rfl
  case cond =>
    split
    · exact hS.same rfl rfl
    · exact hS.same rfl rfl
    · split
      · exact hS.same rfl rfl
      · exact ⟨hS.same rfl rfl, hS.same rfl rfl⟩
    · trivial
  case exit =>
    split
    · exact hS.same rfl rfl
    · exact sLeave_log hS
  case goto =>
    split
    · exact hS.same rfl rfl
    · exact sLeave_log hS
  case ret => exact sLeave_log hS
  case region id ops draw =>
    split
    · exact hS.same rfl rfl
    · have key : ∀ (n : Nat) (as' : List (Bm × Bool)), (drTree dr S ops k n as').all (LogInv E0) := by
        intro n
        induction n with
        | zero => exact fun _ => trivial
        | succ n ih =>
          intro as'
          unfold drTree
          split
          · rename_i h
            refine needAll_all ?_
            intro x hx
            obtain ⟨h1, h2⟩ := hdr.1 _ _ _ _ _ _ _ _ _ _ _ _ _ h x hx
            dsimp only
            rw [h2]
            exact hS x h1
          · split
            · exact ⟨ih _, ih _⟩
            · trivial
      exact key 60 []
  case rangeFunc => exact sRangeFunc_log hS
  case refuse => trivial
theorem sstep_log [Val] {dr : Ext} (hdr : ExtLog dr) {S : SState} (hS : LogInv E0 S) : (sstep P dr S).all (LogInv E0) := by
  unfold sstep
  split
  · split
    · exact sLeave_log hS
    · rename_i it k
      unfold sItem
      split
      · exact sCode_log hdr hS
      · exact hS.same rfl rfl
      · exact hS.same rfl rfl
      · exact hS.same rfl rfl
      · split
        · exact hS.same rfl rfl
        · exact sOp_log hdr.2 hS
      · trivial
      · split
        · split
          · trivial
          · exact hS.upd rfl rfl
        · trivial
      · split
        · split
          · split
            · exact hS.upd rfl rfl
            · trivial
          · trivial
        · trivial
  · exact sUnwind_log hS
theorem Tree.all_go {α β : Type} {Q : α → Prop} {Q' : β → Prop} {f : Facts → α → Tree β} (hf : ∀ fs a, Q a → (f fs a).all Q') : ∀ {t : Tree α} {fs : Facts}, t.all Q → (Tree.go fs f t).all Q'
  | .leaf a, fs, h => hf fs a h
  | .split _ x y, fs, h => by
    simp only [Tree.go]; split
    · exact Tree.all_go hf h.1
    · exact Tree.all_go hf h.2
    · exact ⟨Tree.all_go hf h.1, Tree.all_go hf h.2⟩
  | .need _ x, fs, h => by
    have h : x.all Q := h
    simp only [Tree.go]; split
    · exact Tree.all_go hf h
    · trivial
    · exact Tree.all_go (t := x) hf h
  | .stuck _, _, _ => trivial
theorem srun_log [Val] {dr : Ext} (hdr : ExtLog dr) : ∀ {n : Nat} {fs : Facts} {S : SState}, LogInv E0 S → (srun P dr n fs S).all (LogInv E0)
  | 0, _, _, _ => trivial
  | n + 1, fs, S, hS => by
    unfold srun
    split
    · exact hS
    · exact Tree.all_go (Q := LogInv E0) (fun fs a ha => srun_log hdr ha) (sstep_log hdr hS)
end
/-- One way, with what has to hold. -/
def Tree.oneWay {α : Type} : Tree α → Option (List Bm × α)
  | .leaf a => some ([], a)
  | .need p x => match x.oneWay with
    | some (l, a) => some (p :: l, a)
    | none => none
  | _ => none
theorem Tree.oneWay_sat [Val] {α : Type} {Q : α → Prop} : ∀ {t : Tree α} {l : List Bm} {a : α}, t.oneWay = some (l, a) → (∀ p ∈ l, p.v = true) → Q a → t.sat Q
  | .leaf x, l, a, h, _, hq => by cases h; exact hq
  | .need p x, l, a, h, hl, hq => by
    unfold Tree.oneWay at h
    split at h <;> cases h
    rename_i l' hx
    exact ⟨hl p (by simp), Tree.oneWay_sat hx (fun q hq => hl q (List.mem_cons_of_mem _ hq)) hq⟩
  | .split _ _ _, _, _, h, _, _ => by cases h
  | .stuck _, _, _, h, _, _ => by cases h
theorem Tree.oneWay_all [Val] {α : Type} {Q : α → Prop} : ∀ {t : Tree α} {l : List Bm} {a : α}, t.oneWay = some (l, a) → t.all Q → Q a
  | .leaf x, l, a, h, hq => by cases h; exact hq
  | .need p x, l, a, h, hq => by
    unfold Tree.oneWay at h
    split at h <;> cases h
    rename_i l' hx
    exact Tree.oneWay_all hx hq
  | .split _ _ _, _, _, h, _ => by cases h
  | .stuck _, _, _, h, _ => by cases h
def Tree.askFirst {α : Type} : Tree α → Option Bm
  | .split b _ _ => some b
  | .need _ x => x.askFirst
  | _ => none
def soAll : List (Bm × Bool) → List Bm
  | [] => []
  | p :: l => isSo p.1 p.2 :: soAll l
def fsAll : List (Bm × Bool) → Facts
  | [] => []
  | p :: l => addF (fsAll l) p.1 p.2
theorem fsAll_ok [Val] : ∀ {l : List (Bm × Bool)}, (∀ p ∈ soAll l, p.v = true) → FactsOk (fsAll l)
  | [], _ => fun p hp => by cases hp
  | (b, t) :: l, h => by
    refine addF_ok (fsAll_ok fun p hp => h p (List.mem_cons_of_mem _ hp)) ?_
    have := h _ (List.mem_cons_self ..)
    cases t with
    | true => exact this
    | false =>
      have this : (!b.v) = true := this
      simpa using this
def leafT {α : Type} (_ : Facts) (a : α) : Tree α := .leaf a
/-- A call within a region that draws: a run of its own, with names of its own; or a contract; by what tests are taken to say. -/
def runCallee (P : Program) (dr : Ext) (fuel chunk : Nat) : Callee := fun as' f args ents next hi =>
  match dr.con f args ents next with
  | some (next', t) => match Tree.oneWay (Tree.go (fsAll as') leafT t) with
    | some (ps, r) => match Nat.ble next' hi with
      | true => some (soAll as' ++ ps, r.val, r.ents, next', r.log)
      | false => none
    | none => none
  | none => match Nat.ble (next + chunk) hi, fnOf P f with
    | true, some i => match Tree.oneWay (srun P dr fuel (fsAll as') (sStart i f args ents next (next + chunk))) with
      | some (ps, S) => match sValue P f S, Nat.ble S.next (next + chunk) with
        | some v, true => some (soAll as' ++ ps, v, S.ents, next + chunk, S.log)
        | _, _ => none
      | _ => none
    | _, _ => none
/-- The first test of a call that has to be known. -/
def askCallee (P : Program) (dr : Ext) (fuel chunk : Nat) : CalAsk := fun as' f args ents next hi =>
  match dr.con f args ents next with
  | some (_, t) => Tree.askFirst (Tree.go (fsAll as') leafT t)
  | none => match fnOf P f with
    | some i => Tree.askFirst (srun P dr fuel (fsAll as') (sStart i f args ents next (next + chunk)))
    | none => none
theorem runCallee_ok [Val] {P : Program} (hok : FnOk P) {dr : Ext} (hdr : ExtOk P dr) (hlog : ExtLog dr) (fuel chunk : Nat) : CalleeOk P (runCallee P dr fuel chunk) := by
  intro as' f args ents next hi ps v ents' next' log' h
  unfold runCallee at h
  split at h
  · rename_i n t hct
    split at h <;> try (cases h; done)
    rename_i ps' r hone
    split at h <;> cases h
    have hle := Nat.le_of_ble_eq_true (by assumption)
    obtain ⟨c1, c2⟩ := hdr.con _ _ _ _ _ _ hct
    refine ⟨by omega, hle, ?_, fun hps => ?_⟩
    · have hall := hlog.2 _ _ _ _ _ _ hct
      have : (Tree.go (fsAll as') leafT t).all fun r => ∀ h, h ∉ r.log → find r.ents h = find ents h := Tree.all_go (f := leafT) (fun fs a ha => ha) hall
      exact Tree.oneWay_all hone this
    · intro vs w ρ X w0 F ha hd hF
      have hfs := fsAll_ok fun p hp => hps p (List.mem_append_left _ hp)
      have hsat : (Tree.go (fsAll as') leafT t).sat fun x => x = r := Tree.oneWay_sat hone (fun p hp => hps p (List.mem_append_right _ hp)) rfl
      have hsat2 := Tree.sat_go hfs hsat
      have hsat3 : t.sat fun x => x = r := Tree.sat_mono (fun a ⟨fs', _, h⟩ => h) hsat2
      refine (c2 _ hsat3 vs w ρ X w0 F ha hd hF).mono ?_
      rintro e w' ⟨ρ', x, r', rfl, rfl, g1, g2, g3⟩
      exact ⟨ρ', x, rfl, g1, g2, g3⟩
  split at h <;> try (cases h; done)
  rename_i i hb hi'
  have hb := Nat.le_of_ble_eq_true hb
  split at h <;> try (cases h; done)
  rename_i ps' S hS
  split at h <;> try (cases h; done)
  rename_i v' hv hle
  cases h
  have hle := Nat.le_of_ble_eq_true hle
  refine ⟨by omega, hb, fun x hx => ?_, fun hps => ?_⟩
  · have := srun_log (P := P) (E0 := find ents) hlog (n := fuel) (fs := fsAll as') (S := sStart i f args ents next (next + chunk)) (fun x _ => rfl)
    exact Tree.oneWay_all hS this x hx
  · intro vs w ρ X w0 F ha hd hF
    have hfs := fsAll_ok fun p hp => hps p (List.mem_append_left _ hp)
    refine calls_of_runF (F := F) (lo := next) hok hdr hfs (n := fuel) hi' ha (hd.fresh_mono fun j hj => hj.1) ⟨Nat.le_refl _, hF⟩ ?_
    refine Tree.oneWay_sat hS (fun p hp => hps p (List.mem_append_right _ hp)) ?_
    refine ⟨v, hv, fun ρ' x w' h1 h2 h3 => ⟨ρ', x, rfl, h1, h2, h3.fresh_mono fun j hj => ⟨hj.1, ?_⟩⟩⟩
    have := hj.2
    omega
def noCal : Callee := fun _ _ _ _ _ _ => none
theorem noCal_ok [Val] (P : Program) : CalleeOk P noCal := fun _ _ _ _ _ _ _ _ _ _ _ h => by cases h
def noAsk : CalAsk := fun _ _ _ _ _ _ => none
/-- Regions that draw; calls in them are run, so deep. -/
def drawN (P : Program) (con : Con) (xt : FuncId → List SV → Option SV) (ax : Ax) (fuel : Nat) : Nat → Dr × Ask
  | 0 => (sDraw P ax noCal, sAsk P ax noCal noAsk)
  | n + 1 => (sDraw P ax (runCallee P ⟨(drawN P con xt ax fuel n).1, (drawN P con xt ax fuel n).2, con, xt, ax⟩ fuel (2 ^ (16 * (n + 1)))),
    sAsk P ax (runCallee P ⟨(drawN P con xt ax fuel n).1, (drawN P con xt ax fuel n).2, con, xt, ax⟩ fuel (2 ^ (16 * (n + 1)))) (askCallee P ⟨(drawN P con xt ax fuel n).1, (drawN P con xt ax fuel n).2, con, xt, ax⟩ fuel (2 ^ (16 * (n + 1)))))
theorem drawN_ok [Val] {P : Program} (hok : FnOk P) (hm : P.follows .mixedOrders = true) {con : Con} (hcon : ConOk P con) (hcl : ConLog con) {xt : FuncId → List SV → Option SV} (hxt : XtOk P xt) {ax : Ax} (hax : AxOk P ax) (hs : AxSafe ax) (fuel : Nat) : ∀ n, DrOk P (drawN P con xt ax fuel n).1 ∧ DrLog (drawN P con xt ax fuel n).1
  | 0 => sDraw_ok hok hm hax hs (noCal_ok P)
  | n + 1 => by
    obtain ⟨h1, h2⟩ := drawN_ok hok hm hcon hcl hxt hax hs fuel n
    exact sDraw_ok hok hm hax hs (runCallee_ok hok ⟨h1, hcon, hxt, hax, hs⟩ ⟨h2, hcl⟩ fuel _)
/-- The usual run. -/
def ext (P : Program) (con : Con) (xt : FuncId → List SV → Option SV) (ax : Ax) : Ext := ⟨(drawN P con xt ax 10000 4).1, (drawN P con xt ax 10000 4).2, con, xt, ax⟩
theorem ext_ok [Val] {P : Program} (hok : FnOk P) (hm : P.follows .mixedOrders = true) {con : Con} (hcon : ConOk P con) (hcl : ConLog con) {xt : FuncId → List SV → Option SV} (hxt : XtOk P xt) {ax : Ax} (hax : AxOk P ax) (hs : AxSafe ax) : ExtOk P (ext P con xt ax) := ⟨(drawN_ok hok hm hcon hcl hxt hax hs 10000 4).1, hcon, hxt, hax, hs⟩
theorem noAx_safe : AxSafe noAx := fun _ _ _ => rfl
end Go.Sx
/- The program at hand: what the symbolic runs ask of it. -/
namespace Go.Proofs.YtkfocpgcdndpnaaGreat
open Go Go.Sx
theorem fnOkB : (Tryz.prog.funcs.toList.all fun F => !F.body.isSome || !(F.name == "runtime.NumGoroutine")) = true := by kernel_rfl
theorem fnOk : FnOk Tryz.prog := fun f F hF hb => by
  have h := List.all_eq_true.1 fnOkB F (by
    rw [Array.mem_toList_iff]
    exact Array.mem_of_getElem? hF)
  rw [hb] at h
  simpa using h
end Go.Proofs.YtkfocpgcdndpnaaGreat
/- A law's call, run; contracts without memory. -/
namespace Go.Sx
set_option linter.unusedVariables false
open Go Go.RowKit Go.Cd Go.Proofs.YtkfocpgcdndpnaaGreat Go.MapKept
/-- What a contract without memory says: a call's value, by its arguments alone. -/
abbrev Pure := FuncId → List SV → Option SV
def pureCon (g : Pure) : Con := fun f args ents next => match g f args with
  | some v => some (next + 2, .leaf ⟨v, ents, []⟩)
  | none => none
def PureOk [Val] (P : Program) (g : Pure) : Prop :=
  ∀ f args v, g f args = some v → ∀ (ρ : Env) (vs : List Value) (w : World), SV.DenL ρ args vs → Calls P f vs.toArray w fun e w' => ∃ x, e = .returned x ∧ v.Den ρ x ∧ New w w'
theorem pureCon_ok [Val] {P : Program} {g : Pure} (h : PureOk P g) : ConOk P (pureCon g) := by
  intro f args ents next next' t hc
  unfold pureCon at hc
  split at hc <;> cases hc
  rename_i v hv
  refine ⟨Nat.le_refl _, fun Q hQ vs w ρ X w0 F ha hd hF => ?_⟩
  refine (h f args v hv ρ vs w ha).mono ?_
  rintro e w' ⟨x, rfl, hx, hn⟩
  exact ⟨ρ, x, _, hQ, rfl, Env.le_refl _, hx, (hd.junk hn).fresh_mono fun j hj => hj.1⟩
theorem pureCon_log (g : Pure) : ConLog (pureCon g) := by
  intro f args ents next next' t hc
  unfold pureCon at hc
  split at hc <;> cases hc
  exact fun h _ => rfl
def noPure : Pure := fun _ _ => none
theorem noPure_ok [Val] (P : Program) : PureOk P noPure := fun _ _ _ h => by cases h
/-- What a law's run leaves to be shown. -/
def lawTreeF (P : Program) (g : Pure) (xt : FuncId → List SV → Option SV) (fs : Facts) (f : FuncId) (args : List SV) (n : Nat) : Tree SB :=
  match fnOf P f with
  | some i => (srun P (ext P (pureCon g) xt noAx) n fs (sStart i f args [] 0 (2 ^ 200))).bind fun S => match sValue P f S with
    | some (.bool b) => .leaf b
    | _ => .stuck 200
  | none => .stuck 201
def lawTree (P : Program) (g : Pure) (xt : FuncId → List SV → Option SV) (f : FuncId) (args : List SV) (n : Nat) : Tree SB := lawTreeF P g xt [] f args n
theorem law_callsF [Val] {P : Program} (hok : FnOk P) (hm : P.follows .mixedOrders = true) {g : Pure} (hg : PureOk P g) {xt : FuncId → List SV → Option SV} (hxt : XtOk P xt) {fs : Facts} (hfs : FactsOk fs) {f : FuncId} {args : List SV} {n : Nat} (h : (lawTreeF P g xt fs f args n).sat fun b => b.v = true) {vs : List Value} (hv : SV.DenL (fun _ => none) args vs) (w : World) :
    Calls P f vs.toArray w fun e w' => e = .returned (.bool true) ∧ New w w' := by
  unfold lawTreeF at h
  split at h
  · rename_i i hi
    refine calls_of_runF (X := fun _ => False) (w0 := w) (F := fun _ => True) (lo := 0) (ρ := fun _ => none) hok (ext_ok hok hm (pureCon_ok hg) (pureCon_log g) hxt (noAx_ok P) noAx_safe) hfs (n := n) hi hv ((DenH.start w _).fresh_mono fun j _ => trivial) ⟨Nat.le_refl _, fun _ _ _ => trivial⟩ (Tree.sat_mono (fun S hS => ?_) (Tree.sat_bind h))
    split at hS
    · rename_i b hb
      refine ⟨_, hb, fun ρ' v w' _ hd h => ⟨?_, new_of_den h⟩⟩
      simp only [SV.Den] at hd
      rw [hd]
      simp only [Tree.sat] at hS
      rw [hS]
    · exact hS.elim
  · exact h.elim
theorem law_calls [Val] {P : Program} (hok : FnOk P) (hm : P.follows .mixedOrders = true) {g : Pure} (hg : PureOk P g) {xt : FuncId → List SV → Option SV} (hxt : XtOk P xt) {f : FuncId} {args : List SV} {n : Nat} (h : (lawTree P g xt f args n).sat fun b => b.v = true) {vs : List Value} (hv : SV.DenL (fun _ => none) args vs) (w : World) :
    Calls P f vs.toArray w fun e w' => e = .returned (.bool true) ∧ New w w' :=
  law_callsF hok hm hg hxt (fs := []) (fun p hp => absurd hp (by simp)) h hv w
/-- Is every end true? -/
def Tree.allTrue : Tree SB → Bool
  | .leaf (.lit true) => true
  | .split _ x y => match Tree.allTrue x with
    | true => Tree.allTrue y
    | false => false
  | _ => false
theorem Tree.sat_allTrue [Val] : ∀ {t : Tree SB}, t.allTrue = true → t.sat fun b => b.v = true
  | .leaf (.lit true), _ => rfl
  | .leaf (.lit false), h => by cases h
  | .leaf (.sym _), h => by cases h
  | .split _ x y, h => by
    unfold Tree.allTrue at h
    split at h
    · rename_i hx
      exact ⟨fun _ => Tree.sat_allTrue hx, fun _ => Tree.sat_allTrue h⟩
    · cases h
  | .need _ _, h => by cases h
  | .stuck _, h => by cases h
/-- Letters that stand for nothing. -/
@[reducible] def noVal : Val := ⟨fun _ => 0, fun _ => false, fun _ _ => 0, fun _ _ => false, fun _ _ _ => Abs.no, fun _ _ _ _ _ _ _ _ h => h⟩
end Go.Sx
/- Terms made simple by what tests have said; a law's run with contracts, operations of one's own, and parts of memory. -/
namespace Go.Sx
set_option linter.unusedSimpArgs false
set_option linter.unusedVariables false
open Go Go.RowKit Go.Cd Go.Proofs.YtkfocpgcdndpnaaGreat Go.MapKept
/-- A run to the end of a law: what is left to be shown. -/
def lawRun (P : Program) (e : Ext) (f : FuncId) : Nat → Facts → SState → Tree SB
  | 0, _, _ => .stuck 110
  | n + 1, fs, S => match sDone S with
    | true => match sValue P f S with
      | some (.bool (.lit b)) => .leaf (.lit b)
      | some (.bool (.sym b)) => match knownR fs b with
        | some t => .leaf (.lit t)
        | none => .leaf (.sym b)
      | _ => .stuck 200
    | false => Tree.go fs (lawRun P e f n) (sstep P e S)
theorem lawRun_ok [Val] {P : Program} {f : FuncId} {e : Ext} : ∀ {n : Nat} {fs : Facts} {S : SState}, FactsOk fs → (lawRun P e f n fs S).sat (fun b => b.v = true) → (srun P e n fs S).sat fun S => ∃ b : SB, sValue P f S = some (.bool b) ∧ b.v = true
  | 0, _, _, _, h => h
  | n + 1, fs, S, hf, h => by
    unfold lawRun at h
    unfold srun
    split at h
    · rename_i hd
      rw [hd]
      split at h
      · rename_i b hv; exact ⟨_, hv, h⟩
      · rename_i b hv
        split at h
        · rename_i t ht
          refine ⟨_, hv, ?_⟩
          have h : t = true := h
          rw [SB.v, knownR_ok hf ht, h]
        · exact ⟨_, hv, h⟩
      · exact h.elim
    · rename_i hd
      rw [hd]
      have go : ∀ {t : Tree SState} {fs : Facts}, FactsOk fs → (Tree.go fs (lawRun P e f n) t).sat (fun b => b.v = true) → (Tree.go fs (srun P e n) t).sat fun S => ∃ b : SB, sValue P f S = some (.bool b) ∧ b.v = true := by
        intro t
        induction t with
        | leaf a => intro fs hf h; exact lawRun_ok hf h
        | split b x y ihx ihy =>
          intro fs hf h
          unfold Tree.go at h ⊢
          split at h
          · rename_i hk; exact ihx hf h
          · rename_i hk; exact ihy hf h
          · rename_i hk; exact ⟨fun hb => ihx (addF_ok hf hb) (h.1 hb), fun hb => ihy (addF_ok hf hb) (h.2 hb)⟩
        | need p x ih =>
          intro fs hf h
          unfold Tree.go at h ⊢
          split at h
          · rename_i hk; exact ih hf h
          · exact h.elim
          · rename_i hk; exact ⟨h.1, ih (addF_ok hf h.1) h.2⟩
        | stuck n => intro fs hf h; exact h.elim
      exact go hf h
/-- What is left of a law. -/
def lawTreeG (P : Program) (con : Con) (xt : FuncId → List SV → Option SV) (ax : Ax) (fs : Facts) (f : FuncId) (args : List SV) (ents : Ents) (next n : Nat) : Tree SB :=
  match fnOf P f with
  | some i => lawRun P (ext P con xt ax) f n fs (sStart i f args ents next (2 ^ 200))
  | none => .stuck 201
theorem law_callsG [Val] {P : Program} (hok : FnOk P) (hm : P.follows .mixedOrders = true) {con : Con} (hcon : ConOk P con) (hcl : ConLog con) {xt : FuncId → List SV → Option SV} (hxt : XtOk P xt) {ax : Ax} (hax : AxOk P ax) (hs : AxSafe ax)
    {fs : Facts} (hfs : FactsOk fs) {f : FuncId} {args : List SV} {ents : Ents} {next n : Nat} (h : (lawTreeG P con xt ax fs f args ents next n).sat fun b => b.v = true) {ρ : Env} {vs : List Value} (hv : SV.DenL ρ args vs) {w : World}
    (hd : DenH ρ (fun _ => False) w (find ents) (Fr (fun _ => True) 0 next) w) (hnext : next ≤ 2 ^ 200) : Calls P f vs.toArray w fun e w' => e = .returned (.bool true) ∧ New w w' := by
  unfold lawTreeG at h
  split at h
  · rename_i i hi
    refine calls_of_runF (X := fun _ => False) (w0 := w) (F := fun _ => True) (lo := 0) (hi := 2 ^ 200) hok (ext_ok hok hm hcon hcl hxt hax hs) hfs (n := n) hi hv hd ⟨Nat.zero_le _, fun _ _ _ => trivial⟩ ?_
    refine Tree.sat_mono ?_ (lawRun_ok hfs h)
    rintro S ⟨b, hb, hbv⟩
    refine ⟨_, hb, fun ρ' v w' _ hv' hd' => ⟨?_, new_of_den hd'⟩⟩
    simp only [SV.Den] at hv'
    rw [hv', hbv]
  · exact h.elim
end Go.Sx
