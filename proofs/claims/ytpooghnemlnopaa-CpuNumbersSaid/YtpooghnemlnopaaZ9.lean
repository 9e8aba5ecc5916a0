/- Parts of the proof: Sx21, Sx22, Sx20, Sx23, SxSaneR, SxSane, Num, PlainArith, WArith, CNum1. -/
import Derived.Test.YtpooghnemlnopaaZ8
import Derived.Test.YtpooghnemlnopaaZ7
import Derived.Test.YtpooghnemlnopaaProg
import Derived.Test.YtpooghnemlnopaaZ0
import Derived.Laws.BitsLemmas
import Derived.Laws.BitsAllLaws
import Derived.Test.YtpooghnemlnopaaRows
import Derived.Test.YtpooghnemlnopaaZ1
/- Regions that draw their order: the whole region; calls within it. -/
namespace Go.Sx
set_option linter.unusedSimpArgs false
set_option linter.unusedVariables false
open Go Go.RowKit Go.Cd Go.Proofs.Ytpooghnemlnopaa Go.MapKept

def dAll (P : Program) (cal : Callee) (ops : Array Oper) (hi : Nat) : List Oper → St → Option (List Foot × List St)
  | [], _ => some ([], [])
  | o :: l, s => match dOne P cal ops hi o s with
    | some (s', f) => match dAll P cal ops hi l s' with
      | some (fs, ss) => some (f :: fs, s' :: ss)
      | none => none
    | none => none
def mem (n : Nat) : List Nat → Bool
  | [] => false
  | x :: l => match Nat.beq x n with
    | true => true
    | false => mem n l
theorem mem_iff [Val] {n : Nat} : ∀ {l : List Nat}, mem n l = true ↔ n ∈ l
  | [] => by simp [mem]
  | x :: l => by
    unfold mem
    split
    · rename_i h; have := Nat.eq_of_beq_eq_true h; simp [this]
    · rename_i h; have := Nat.ne_of_beq_eq_false h; rw [mem_iff (l := l)]; simp [Ne.symm this]
theorem mem_false [Val] {n : Nat} {l : List Nat} (h : mem n l = false) : n ∉ l := fun hh => by rw [mem_iff.2 hh] at h; cases h
/-- None of the first list's are in the second. -/
def none' : List Nat → List Nat → Bool
  | [], _ => true
  | x :: l, m => match mem x m with
    | true => false
    | false => none' l m
theorem none'_ok [Val] : ∀ {l m : List Nat}, none' l m = true → ∀ x ∈ l, x ∉ m
  | [], _, _, x, hx => by simp at hx
  | y :: l, m, h, x, hx => by
    unfold none' at h
    split at h
    · cases h
    · rename_i e
      rcases List.mem_cons.1 hx with rfl | hx
      · exact mem_false e
      · exact none'_ok h x hx
def isNil : List Nat → Bool
  | [] => true
  | _ => false
def noConfB (a b : Foot) : Bool :=
  (match a.wt with
    | some t => !(mem t b.rt) && (match b.wt with
      | some u => !(Nat.beq u t)
      | none => true)
    | none => true) &&
  (match b.wt with
    | some t => !(mem t a.rt)
    | none => true) &&
  (isNil a.wh || (!b.all && none' a.wh b.rh && none' a.wh b.wh)) &&
  (isNil b.wh || (!a.all && none' b.wh a.rh))
theorem noConfB_ok [Val] {a b : Foot} (h : noConfB a b = true) : NoConf a b := by
  unfold noConfB at h
  rw [Bool.and_eq_true, Bool.and_eq_true, Bool.and_eq_true] at h
  obtain ⟨⟨⟨h1, h2⟩, h3⟩, h4⟩ := h
  refine ⟨fun t ht => ?_, fun t ht => ?_, fun x hx => ?_, fun x hx => ?_⟩
  · rw [ht] at h1
    simp only [Bool.and_eq_true, Bool.not_eq_true'] at h1
    refine ⟨mem_false h1.1, fun e => ?_⟩
    rw [e] at h1
    have := h1.2
    simp at this
  · rw [ht] at h2
    simp only [Bool.not_eq_true'] at h2
    exact mem_false h2
  · rw [Bool.or_eq_true] at h3
    rcases h3 with h3 | h3
    · cases hw : a.wh with
      | nil => rw [hw] at hx; simp at hx
      | cons y l => rw [hw] at h3; cases h3
    · rw [Bool.and_eq_true, Bool.and_eq_true, Bool.not_eq_true'] at h3
      exact ⟨h3.1.1, none'_ok h3.1.2 x hx, none'_ok h3.2 x hx⟩
  · rw [Bool.or_eq_true] at h4
    rcases h4 with h4 | h4
    · cases hw : b.wh with
      | nil => rw [hw] at hx; simp at hx
      | cons y l => rw [hw] at h4; cases h4
    · rw [Bool.and_eq_true, Bool.not_eq_true'] at h4
      exact ⟨h4.1, none'_ok h4.2 x hx⟩
def bindsB (e : Edge) : Bool := Region.binds .any e
def nthN : List Nat → Nat → Nat
  | [], _ => 0
  | x :: _, 0 => x
  | _ :: l, n + 1 => nthN l n
theorem nthN_eq [Val] : ∀ (l : List Nat) (i : Nat), nthN l i = (l[i]?).getD 0
  | [], _ => by simp [nthN]
  | _ :: _, 0 => by simp [nthN]
  | _ :: l, i + 1 => by simp [nthN, nthN_eq l i]
def maskE (ms : List Nat) : List Edge → Nat
  | [] => 0
  | e :: es => match bindsB e with
    | true => Nat.lor (Nat.lor (2 ^ e.on) (nthN ms e.on)) (maskE ms es)
    | false => maskE ms es
def masks : List Nat → List Oper → List Nat
  | ms, [] => ms
  | ms, o :: l => masks (ms ++ [maskE ms o.after.toList]) l
theorem maskE_ok [Val] {ms : List Nat} : ∀ {es : List Edge} {i : Nat}, (maskE ms es).testBit i = true → ∃ e ∈ es, Region.binds .any e = true ∧ (i = e.on ∨ ((ms[e.on]?).getD 0).testBit i = true)
  | [], i, h => by simp [maskE] at h
  | e :: es, i, h => by
    unfold maskE at h
    split at h
    · rename_i hb
      have h' : ((2 ^ e.on ||| nthN ms e.on) ||| maskE ms es).testBit i = true := h
      rw [Nat.testBit_or, Nat.testBit_or, Bool.or_eq_true, Bool.or_eq_true] at h'
      rcases h' with (h' | h') | h'
      · rw [Nat.testBit_two_pow] at h'
        exact ⟨e, by simp, hb, .inl (by simpa using (of_decide_eq_true h').symm)⟩
      · rw [nthN_eq] at h'
        exact ⟨e, by simp, hb, .inr h'⟩
      · obtain ⟨e', h1, h2⟩ := maskE_ok h'
        exact ⟨e', by simp [h1], h2⟩
    · obtain ⟨e', h1, h2⟩ := maskE_ok h
      exact ⟨e', by simp [h1], h2⟩
theorem masks_ok [Val] {ops : Array Oper} : ∀ {l : List Oper} {ms : List Nat}, (∀ i, l[i]? = ops[ms.length + i]?) → (∀ j m i, ms[j]? = some m → m.testBit i = true → Bef ops i j) →
    (masks ms l).length = ms.length + l.length ∧ ∀ j m i, (masks ms l)[j]? = some m → m.testBit i = true → Bef ops i j
  | [], ms, _, h => ⟨by simp [masks], h⟩
  | o :: l, ms, hl, h => by
    unfold masks
    have ho : ops[ms.length]? = some o := by have := hl 0; simpa using this.symm
    obtain ⟨h1, h2⟩ := masks_ok (ops := ops) (l := l) (ms := ms ++ [maskE ms o.after.toList]) (fun i => by
      have := hl (i + 1)
      simp at this ⊢
      rw [this]; congr 1; omega) (fun j m i hj hm => by
      rw [List.getElem?_append] at hj
      split at hj
      · exact h j m i hj hm
      · rename_i hge
        have hj0 : j - ms.length = 0 := by
          have := (List.getElem?_eq_some_iff.1 hj).1
          simpa using this
        have hjj : j = ms.length := by omega
        subst hjj
        simp at hj; subst hj
        obtain ⟨e, he, hb, hc⟩ := maskE_ok hm
        have he' : e ∈ o.after := by simpa using he
        rcases hc with rfl | hc
        · exact .edge ho he' hb
        · cases hx : ms[e.on]? with
          | none => rw [hx] at hc; simp at hc
          | some m' =>
            rw [hx] at hc
            exact .step ho he' hb (h e.on m' i hx hc))
    exact ⟨by rw [h1]; simp; omega, h2⟩
def edgesB (i : Nat) : List Edge → Bool
  | [] => true
  | e :: es => match bindsB e with
    | true => match Nat.blt e.on i with
      | true => edgesB i es
      | false => false
    | false => edgesB i es
theorem edgesB_ok [Val] {i : Nat} : ∀ {es : List Edge}, edgesB i es = true → ∀ e ∈ es, Region.binds .any e = true → e.on < i
  | [], _, e, he, _ => by simp at he
  | x :: es, h, e, he, hb => by
    unfold edgesB at h
    split at h
    · split at h
      · rename_i hx hlt
        rcases List.mem_cons.1 he with rfl | he
        · exact Nat.le_of_ble_eq_true hlt
        · exact edgesB_ok h e he hb
      · cases h
    · rename_i hx
      rcases List.mem_cons.1 he with rfl | he
      · rw [bindsB, hb] at hx; cases hx
      · exact edgesB_ok h e he hb
def edgesAll : Nat → List Oper → Bool
  | _, [] => true
  | i, o :: l => match edgesB i o.after.toList with
    | true => edgesAll (i + 1) l
    | false => false
theorem edgesAll_ok [Val] : ∀ {l : List Oper} {k : Nat}, edgesAll k l = true → ∀ i o, l[i]? = some o → ∀ e ∈ o.after, Region.binds .any e = true → e.on < k + i
  | [], _, _, i, o, ho, _, _, _ => by simp at ho
  | x :: l, k, h, i, o, ho, e, he, hb => by
    unfold edgesAll at h
    split at h
    · rename_i h1
      cases i with
      | zero =>
        simp at ho; subst ho
        exact edgesB_ok h1 e (by simpa using he) hb
      | succ i =>
        have := edgesAll_ok h i o (by simpa using ho) e he hb
        omega
    · cases h
def pairOk (m : Nat) (fj : Foot) : Nat → List Foot → Bool
  | _, [] => true
  | i, f :: fs => match Nat.testBit m i with
    | true => pairOk m fj (i + 1) fs
    | false => match noConfB f fj with
      | true => pairOk m fj (i + 1) fs
      | false => false
theorem pairOk_ok [Val] {m : Nat} {fj : Foot} : ∀ {fs : List Foot} {k : Nat}, pairOk m fj k fs = true → ∀ i f, fs[i]? = some f → m.testBit (k + i) = true ∨ NoConf f fj
  | [], _, _, i, f, hf => by simp at hf
  | g :: fs, k, h, i, f, hf => by
    unfold pairOk at h
    have rest : pairOk m fj (k + 1) fs = true → ∀ i, fs[i]? = some f → m.testBit (k + (i + 1)) = true ∨ NoConf f fj := fun h i hf => by
      have := pairOk_ok h i f hf
      rwa [show k + 1 + i = k + (i + 1) by omega] at this
    split at h
    · rename_i hb
      cases i with
      | zero => exact .inl hb
      | succ i => exact rest h i (by simpa using hf)
    · split at h
      · rename_i hc
        cases i with
        | zero => simp at hf; subst hf; exact .inr (noConfB_ok hc)
        | succ i => exact rest h i (by simpa using hf)
      · cases h
def pairsAll : List Foot → List Foot → List Nat → Bool
  | _, [], _ => true
  | pre, f :: fs, m :: ms => match pairOk m f 0 pre with
    | true => pairsAll (pre ++ [f]) fs ms
    | false => false
  | _, _ :: _, [] => false
theorem pairsAll_ok [Val] : ∀ {fs pre : List Foot} {ms : List Nat}, pairsAll pre fs ms = true → ∀ i j f g m, i < pre.length + j → (pre ++ fs)[i]? = some f → fs[j]? = some g → ms[j]? = some m → m.testBit i = true ∨ NoConf f g
  | [], _, _, _, i, j, f, g, m, _, _, hg, _ => by simp at hg
  | x :: fs, pre, [], h, _, _, _, _, _, _, _, _, _ => by simp [pairsAll] at h
  | x :: fs, pre, y :: ms, h, i, j, f, g, m, hij, hf, hg, hm => by
    unfold pairsAll at h
    split at h
    · rename_i h1
      cases j with
      | zero =>
        simp at hg hm hij; subst hg hm
        rw [List.getElem?_append_left hij] at hf
        have := pairOk_ok h1 i f hf
        simpa using this
      | succ j =>
        exact pairsAll_ok h i j f g m (by simp; omega) (by simpa using hf) (by simpa using hg) (by simpa using hm)
    · cases h
def lastS : St → List St → St
  | s, [] => s
  | _, s :: l => lastS s l
/-- How many operations stand ahead of the end, in which each waits for all ahead of it. -/
def preLen : List Nat → Nat → Nat → Nat
  | [], _, z => z
  | m :: ms, i, z => match Nat.beq (m % 2 ^ i) (2 ^ i - 1) with
    | true => preLen ms (i + 1) z
    | false => preLen ms (i + 1) (i + 1)
theorem preLen_ok [Val] : ∀ {ms : List Nat} {i z : Nat}, z ≤ i → z ≤ preLen ms i z ∧ preLen ms i z ≤ i + ms.length ∧ ∀ j m, ms[j]? = some m → preLen ms i z ≤ i + j → ∀ q, q < i + j → m.testBit q = true
  | [], i, z, h => ⟨Nat.le_refl _, by simpa [preLen] using h, fun j m hj => by simp at hj⟩
  | x :: ms, i, z, h => by
    unfold preLen
    split
    · rename_i hb
      have hb := Nat.eq_of_beq_eq_true hb
      obtain ⟨h1, h2, h3⟩ := preLen_ok (ms := ms) (i := i + 1) (z := z) (by omega)
      refine ⟨h1, by simp; omega, fun j m hj hle q hq => ?_⟩
      cases j with
      | zero =>
        simp at hj; subst hj
        have : (x % 2 ^ i).testBit q = true := by
          rw [hb, Nat.testBit_two_pow_sub_one]; simpa using hq
        rw [Nat.testBit_mod_two_pow] at this
        simp at this
        exact this.2
      | succ j => exact h3 j m (by simpa using hj) (by omega) q (by omega)
    · obtain ⟨h1, h2, h3⟩ := preLen_ok (ms := ms) (i := i + 1) (z := i + 1) (Nat.le_refl _)
      refine ⟨by omega, by simp; omega, fun j m hj hle q hq => ?_⟩
      cases j with
      | zero => omega
      | succ j => exact h3 j m (by simpa using hj) (by omega) q (by omega)
def pre : List Oper → Nat → List Oper
  | o :: l, n + 1 => o :: pre l n
  | _, _ => []
theorem pre_get [Val] : ∀ {l : List Oper} {n i : Nat}, i < n → (pre l n)[i]? = l[i]?
  | [], 0, _, h => by omega
  | [], _ + 1, _, _ => by simp [pre]
  | _ :: _, 0, _, h => by omega
  | _ :: l, n + 1, 0, _ => by simp [pre]
  | _ :: l, n + 1, i + 1, h => by simp [pre, pre_get (l := l) (n := n) (i := i) (by omega)]
theorem pre_length [Val] : ∀ {l : List Oper} {n : Nat}, n ≤ l.length → (pre l n).length = n
  | [], 0, _ => rfl
  | [], _ + 1, h => by simp at h
  | _ :: _, 0, _ => rfl
  | _ :: l, n + 1, h => by simp [pre, pre_length (l := l) (n := n) (by simpa using h)]
def rangeF : Nat → Nat → List Nat
  | _, 0 => []
  | i, n + 1 => i :: rangeF (i + 1) n
theorem rangeF_eq [Val] : ∀ {n i : Nat}, rangeF i n = List.range' i n
  | 0, _ => rfl
  | n + 1, i => by rw [rangeF, List.range'_succ, rangeF_eq]
/-- A region that draws, by the order of its text; none: its parts may meet. -/
def sDraw (P : Program) (cal : Callee) : Dr := fun ops tmps ents next hi log =>
  match masks [] ops.toList with
  | ms => match preLen ms 0 0 with
    | z => match Nat.ble next hi, dAll P cal ops hi (pre ops.toList z) ⟨tmps, ents, next, log⟩ with
      | true, some (fs, ss) => match edgesAll 0 ops.toList, pairsAll [] fs ms with
        | true, true => match lastS ⟨tmps, ents, next, log⟩ ss with
          | ⟨t, e, n, l⟩ => some (t, e, n, l, rangeF z (ops.size - z))
        | _, _ => none
      | _, _ => none
section
variable {P : Program}
theorem dAll_spec [Val] {cal : Callee} {ops : Array Oper} {hi : Nat} : ∀ {l : List Oper} {s : St} {fs : List Foot} {ss : List St}, dAll P cal ops hi l s = some (fs, ss) → fs.length = l.length ∧ ss.length = l.length ∧
    ∀ (i : Nat) (o : Oper), l[i]? = some o → ∃ si s' f, (s :: ss)[i]? = some si ∧ ss[i]? = some s' ∧ fs[i]? = some f ∧ dOne P cal ops hi o si = some (s', f)
  | [], s, _, _, h => by simp only [dAll, Option.some.injEq, Prod.mk.injEq] at h; obtain ⟨rfl, rfl⟩ := h; simp
  | o :: l, s, _, _, h => by
    unfold dAll at h
    split at h <;> try cases h
    rename_i s' f hs
    split at h <;> cases h
    rename_i fs ss hl
    obtain ⟨h1, h2, h3⟩ := dAll_spec hl
    refine ⟨by simp [h1], by simp [h2], fun i o' ho => ?_⟩
    cases i with
    | zero => simp at ho; subst ho; exact ⟨s, s', f, rfl, rfl, rfl, hs⟩
    | succ i =>
      obtain ⟨si, s2, f2, e1, e2, e3, e4⟩ := h3 i o' (by simpa using ho)
      exact ⟨si, s2, f2, by simpa using e1, by simpa using e2, by simpa using e3, e4⟩
theorem lastS_eq [Val] : ∀ (ss : List St) (s : St), lastS s ss = ((s :: ss)[ss.length]?).getD s
  | [], s => by simp [lastS]
  | x :: ss, s => by rw [lastS, lastS_eq ss x]; simp
/-- What a region leaves: names that it did not touch stand. -/
def DrLog (dr : Dr) : Prop := ∀ ops tmps ents next hi log tmps' ents' next' log' rest, dr ops tmps ents next hi log = some (tmps', ents', next', log', rest) → ∀ h, h ∉ log' → h ∉ log ∧ find ents' h = find ents h
theorem sDraw_ok [Val] (hok : FnOk P) (hm : P.follows .mixedOrders = true) {cal : Callee} (hcal : CalleeOk P cal) : DrOk P (sDraw P cal) ∧ DrLog (sDraw P cal) := by
  have key : ∀ ops tmps ents next hi log tmps' ents' next' log' rest, sDraw P cal ops tmps ents next hi log = some (tmps', ents', next', log', rest) → ∃ st ft z, Plan P ops st ft hi z ∧ st 0 = ⟨tmps, ents, next, log⟩ ∧ st z = ⟨tmps', ents', next', log'⟩ ∧ rest = List.range' z (ops.size - z) ∧
      ∀ i, i < z → ∀ h, h ∉ (st (i + 1)).log → h ∉ (st i).log ∧ find (st (i + 1)).ents h = find (st i).ents h := by
    intro ops tmps ents next hi log tmps' ents' next' log' rest h
    unfold sDraw at h
    dsimp only at h
    generalize hz : preLen (masks [] ops.toList) 0 0 = z at h
    have hmk := masks_ok (ops := ops) (l := ops.toList) (ms := []) (fun i => by simp) (fun j m i hj => by simp at hj)
    obtain ⟨z1, z2, z3⟩ := preLen_ok (ms := masks [] ops.toList) (Nat.le_refl 0)
    rw [hz] at z1 z2 z3
    have hmlen : (masks [] ops.toList).length = ops.size := by rw [hmk.1]; simp
    have hzle : z ≤ ops.size := by omega
    split at h <;> try (cases h; done)
    rename_i fs ss hble hd
    have hble := Nat.le_of_ble_eq_true hble
    split at h <;> try (cases h; done)
    rename_i hed hpa
    generalize hlast : lastS ⟨tmps, ents, next, log⟩ ss = L at h
    obtain ⟨t, e, n, l⟩ := L
    cases h
    obtain ⟨g1, g2, g3⟩ := dAll_spec hd
    generalize hs0 : (⟨tmps, ents, next, log⟩ : St) = s0 at *
    have hsz : (pre ops.toList z).length = z := pre_length (by simpa using hzle)
    rw [hsz] at g1 g2
    let st : Nat → St := fun i => ((s0 :: ss)[i]?).getD s0
    let ft : Nat → Foot := fun i => (fs[i]?).getD ⟨[], none, false, [], []⟩
    have each : ∀ i, i < z → ∃ o, ops[i]? = some o ∧ dOne P cal ops hi o (st i) = some (st (i + 1), ft i) := fun i hi' => by
      have hi2 : i < ops.size := by omega
      have ho : (pre ops.toList z)[i]? = some ops[i] := by rw [pre_get hi']; simp [hi2]
      obtain ⟨si, s', f, e1, e2, e3, e4⟩ := g3 i _ ho
      refine ⟨ops[i], by simp [hi2], ?_⟩
      have f1 : st i = si := by simp only [st, e1, Option.getD_some]
      have f2 : st (i + 1) = s' := by simp only [st, List.getElem?_cons_succ, e2, Option.getD_some]
      have f3 : ft i = f := by simp only [ft, e3, Option.getD_some]
      rw [f1, f2, f3]; exact e4
    have good : ∀ i, i < z → ∃ o, ops[i]? = some o ∧ OpSem P ops i (st i) (st (i + 1)) (ft i) ∧ Next1 (st i) (st (i + 1)) (ft i) o hi := fun i hi' => by
      obtain ⟨o, ho, hd1⟩ := each i hi'
      obtain ⟨q1, q2⟩ := dOne_ok hok hcal ho hd1
      exact ⟨o, ho, q1, q2⟩
    have hle : ∀ k, k ≤ z → (st k).next ≤ hi := fun k => by
      induction k with
      | zero => intro _; simp only [st, List.getElem?_cons_zero, Option.getD_some]; rw [← hs0]; exact hble
      | succ k ih =>
        intro hk
        obtain ⟨o, _, _, n1⟩ := good k (by omega)
        have := n1.le
        have := ih (by omega)
        omega
    have hmj : ∀ j, j < ops.size → ∃ m, (masks [] ops.toList)[j]? = some m := fun j hj => by
      have : j < (masks [] ops.toList).length := by omega
      exact ⟨_, List.getElem?_eq_getElem this⟩
    refine ⟨st, ft, z, ⟨fun i hi' => ?_, fun i hi' => ?_, hle _ (Nat.le_refl _), fun i hi' => ?_, fun i hi' => ?_, fun i hi' => ?_, fun i o ho e he hb => ?_, fun i j hij hj => ?_, hzle, fun j hj1 hj2 i hij => ?_⟩, ?_, ?_, rangeF_eq, fun i hi' h hh => ?_⟩
    · obtain ⟨o, _, q, _⟩ := good i hi'; exact q
    · obtain ⟨o, _, _, q⟩ := good i hi'; exact q.next
    · obtain ⟨o, _, _, q⟩ := good i hi'; exact q.len
    · obtain ⟨o, _, _, q⟩ := good i hi'; exact q.tmp
    · obtain ⟨o, _, _, q⟩ := good i hi'; exact q.heap
    · have := edgesAll_ok hed i o (by simpa using ho) e he hb
      simpa using this
    · have hfi : fs[i]? = some (ft i) := by
        have : i < fs.length := by omega
        simp only [ft, List.getElem?_eq_getElem this, Option.getD_some]
      have hfj : fs[j]? = some (ft j) := by
        have : j < fs.length := by omega
        simp only [ft, List.getElem?_eq_getElem this, Option.getD_some]
      obtain ⟨m, hmj⟩ := hmj j (by omega)
      rcases pairsAll_ok hpa i j (ft i) (ft j) m (by simpa using hij) (by simpa using hfi) hfj hmj with hb | hc
      · exact .inl (hmk.2 j m i hmj hb)
      · exact .inr hc
    · obtain ⟨m, hm⟩ := hmj j hj2
      exact hmk.2 j m i hm (z3 j m hm (by omega) i (by omega))
    · simp only [st, List.getElem?_cons_zero, Option.getD_some]
    · rw [← hlast, lastS_eq, g2]
    · obtain ⟨o, _, _, q⟩ := good i hi'
      obtain ⟨r1, r2⟩ := q.log h hh
      exact ⟨r1, q.heap h r2⟩
  refine ⟨?_, ?_⟩
  · intro ops tmps ents next hi log tmps' ents' next' log' rest h ρ X w0 F lo cs fn tm k ds kd ro w t htm hd hF
    obtain ⟨st, ft, z, p, h0, hn, rfl, _⟩ := key _ _ _ _ _ _ _ _ _ _ _ h
    have hF0 : FrOk F lo (st 0).next hi := by rw [h0]; exact hF
    have hsch : Region.schedule (P.follows .mixedOrders) ops t = Region.linearise.go .any ops ops.size t (Array.replicate ops.size false) [] := by
      simp only [Region.schedule, hm, Bool.true_or, if_true, Region.linearise]
    rw [hsch]
    have hD0 : ∀ i, (Array.replicate ops.size false).getD i false = false := fun i => by
      simp only [Array.getD_eq_getD_getElem?, Array.getElem?_replicate]
      split <;> rfl
    have m0T : ∀ k t, mixT (fun i => (Array.replicate ops.size false).getD i false) st ft k t = nth (st 0).tmps t := fun k t => by
      induction k with
      | zero => rfl
      | succ k ih => rw [mixT, if_neg (by simp [hD0]), ih]
    have m0H : ∀ k t, mixH (fun i => (Array.replicate ops.size false).getD i false) st ft k t = find (st 0).ents t := fun k t => by
      induction k with
      | zero => rfl
      | succ k ih => rw [mixH, if_neg (by simp [hD0]), ih]
    obtain ⟨ρ', tm', w', g1, g2, g3, g4⟩ := p.all hF0 (X := X) (w0 := w0) cs fn k ds kd ro ops.size t (Array.replicate ops.size false) ρ tm w (by simp) (cnt_le _ _) (fun j o e hj => by rw [show (fun i => (Array.replicate ops.size false).getD i false) j = false from hD0 j] at hj; cases hj) (fun i _ => hD0 i)
      ⟨by rw [h0]; have := denL_length htm; simpa using this, fun t x hx => by
        rw [m0T, h0] at hx
        rw [nth_eq] at hx
        obtain ⟨v, q1, q2⟩ := denL_get htm hx
        exact ⟨v, by simpa using q1, q2⟩, (hd.congr fun h => by rw [m0H, h0]).fresh_mono fun q hq => ⟨hq.1, by have := hq.2.1; rw [h0] at this; exact this⟩⟩
    rw [hn] at g3 g4
    have hnext := p.next_mono (Nat.zero_le z) (Nat.le_refl _)
    rw [h0, hn] at hnext
    exact ⟨ρ', tm', w', g1, g2, g3, g4, hnext⟩
  · intro ops tmps ents next hi log tmps' ents' next' log' rest h x hx
    obtain ⟨st, ft, z, p, h0, hn, _, hl⟩ := key _ _ _ _ _ _ _ _ _ _ _ h
    have down : ∀ k, k ≤ z → x ∉ (st (z - k)).log ∧ find (st z).ents x = find (st (z - k)).ents x := fun k => by
      induction k with
      | zero => intro _; rw [Nat.sub_zero, hn]; exact ⟨hx, rfl⟩
      | succ k ih =>
        intro hk
        obtain ⟨i1, i2⟩ := ih (by omega)
        have := hl (z - (k + 1)) (by omega) x (by rw [show z - (k + 1) + 1 = z - k by omega]; exact i1)
        rw [show z - (k + 1) + 1 = z - k by omega] at this
        exact ⟨this.1, i2.trans this.2⟩
    obtain ⟨d1, d2⟩ := down z (Nat.le_refl _)
    rw [Nat.sub_self, h0] at d1 d2
    rw [hn] at d2
    exact ⟨d1, d2⟩
end
end Go.Sx
/- Symbolic runs keep a log of the names that they touch; calls within regions that draw. -/
namespace Go.Sx
set_option linter.unusedSimpArgs false
set_option linter.unusedVariables false
open Go Go.RowKit Go.Cd Go.Proofs.Ytpooghnemlnopaa Go.MapKept

def ExtLog (x : Ext) : Prop := DrLog x.dr ∧ ConLog x.con
/-- What the log leaves out stands as at the start. -/
def LogInv (E0 : Look) (S : SState) : Prop := ∀ h, h ∉ S.log → find S.ents h = E0 h
section
variable {P : Program} {E0 : Look}
theorem LogInv.same [Val] {S S' : SState} (h : LogInv E0 S) (he : S'.ents = S.ents) (hl : S'.log = S.log) : LogInv E0 S' := fun x hx => by rw [he]; exact h x (by rw [← hl]; exact hx)
theorem LogInv.upd [Val] {S S' : SState} (h : LogInv E0 S) {k : Nat} {o : SObj} (he : S'.ents = upd S.ents k o) (hl : S'.log = k :: S.log) : LogInv E0 S' := fun x hx => by
  rw [hl, List.mem_cons, not_or] at hx
  rw [he, find_upd, if_neg hx.1]
  exact h x hx.2
theorem LogInv.app [Val] {S S' : SState} (h : LogInv E0 S) {us : List Upd} (he : S'.ents = appUs us S.ents) (hl : S'.log = logUs us S.log) : LogInv E0 S' := fun x hx => by
  rw [hl] at hx
  obtain ⟨h1, h2⟩ := logUs_mem hx
  rw [he, find_appUs, (looks_split us (find S.ents) (find S.ents) x).2 h2]
  exact h x h1
theorem sOut_log [Val] {e : Ext} (hcon : ConLog e.con) {S : SState} (hS : LogInv E0 S) {td : List SItem} {dst : Option Tmp} : ∀ {x : OOut}, (sOut P e S td dst x).all (LogInv E0)
  | .val v us ts => hS.app rfl rfl
  | .enter f args => by
    simp only [sOut]; split
    · split
      · exact hS.same rfl rfl
      · trivial
    split
    · rename_i next' t hct
      split
      · refine Tree.all_bind (fun r hr => ?_) (hcon _ _ _ _ _ _ hct)
        intro x hx
        dsimp only at hx ⊢
        rw [List.mem_append, not_or] at hx
        rw [hr x hx.1]
        exact hS x hx.2
      · trivial
    · exact hS.same rfl rfl
  | .yield h args => by
    simp only [sOut]; split
    · split
      · exact hS.same rfl rfl
      · trivial
    · trivial
  | .dfr f c a => hS.same rfl rfl
  | .pan v => hS.same rfl rfl
  | .rcv => by
    simp only [sOut]; split
    · split
      · exact hS.same rfl rfl
      · exact hS.same rfl rfl
    · trivial
  | .split b x y => ⟨sOut_log hcon hS, sOut_log hcon hS⟩
  | .need p x => sOut_log hcon hS (x := x)
  | .stuck n => trivial
theorem sSkip_log [Val] {S : SState} (hS : LogInv E0 S) {td : List SItem} {dst : Option Tmp} : (sSkip S td dst).all (LogInv E0) := hS.same rfl rfl
theorem sDo_log [Val] {e : Ext} (hcon : ConLog e.con) {S : SState} (hS : LogInv E0 S) {td : List SItem} {o : Oper} : (sDo P e S td o).all (LogInv E0) := by
  unfold sDo
  split
  · trivial
  · split
    · exact sOut_log hcon hS
    · trivial
theorem sOp_log [Val] {e : Ext} (hcon : ConLog e.con) {S : SState} (hS : LogInv E0 S) {ops : Array Oper} {i : Nat} {rest : List Nat} {k : List SItem} : (sOp P e S ops i rest k).all (LogInv E0) := by
  unfold sOp
  split
  · exact sSkip_log hS
  · split
    · exact sDo_log hcon hS
    · exact sSkip_log hS
    · split
      · exact ⟨sDo_log hcon hS, sSkip_log hS⟩
      · exact ⟨sSkip_log hS, sDo_log hcon hS⟩
    · trivial
theorem sUnwind_log [Val] {S : SState} (hS : LogInv E0 S) : (sUnwind P S).all (LogInv E0) := by
  unfold sUnwind
  split
  · split
    · exact hS.upd rfl rfl
    · trivial
  · split
    · exact hS.same rfl rfl
    · trivial
  · split
    · trivial
    · split
      · trivial
      · split
        · exact hS.same rfl rfl
        · split
          · trivial
          · split
            · split
              · exact hS.same rfl rfl
              · trivial
            · exact hS.same rfl rfl
            · trivial
        · trivial
theorem sLeave_log [Val] {S : SState} (hS : LogInv E0 S) {jump : Option Code} {ret : Bool} : (sLeave S jump ret).all (LogInv E0) := by
  unfold sLeave
  split
  · split
    · exact hS.same rfl rfl
    · trivial
  · unfold sRoundEnd
    split
    · split
      · split
        · exact hS.upd rfl rfl
        · trivial
      · trivial
    · trivial
theorem sRangeFunc_log [Val] {S : SState} (hS : LogInv E0 S) {f : Operand} {params : Array Tmp} {a b : Code} {k : List SItem} : (sRangeFunc P S f params a b k).all (LogInv E0) := by
  unfold sRangeFunc
  split
  · split
    · split
      · intro x hx
        dsimp only at hx ⊢
        rw [List.mem_cons, List.mem_cons, not_or, not_or] at hx
        rw [find_cons, find_cons, if_neg hx.1, if_neg hx.2.1]
        exact hS x hx.2.2
      · split
        · intro x hx
          dsimp only at hx ⊢
          rw [List.mem_cons, not_or] at hx
          rw [find_cons, if_neg hx.1]
          exact hS x hx.2
        · trivial
    · trivial
  · trivial
theorem sCode_log [Val] {dr : Ext} (hdr : ExtLog dr) {S : SState} (hS : LogInv E0 S) {c : Code} {k : List SItem} : (sCode P dr S c k).all (LogInv E0) := by
  cases c <;> simp only [sCode]
  case skip => exact hS.same rfl rfl
  case label => exact hS.same rfl rfl
  case seq => exact hS.same rfl rfl
  case block => exact hS.same rfl rfl
  case loop => exact hS.same rfl rfl
  case scope => exact hS.same rfl rfl
  case cond =>
    split
    · exact hS.same rfl rfl
    · exact hS.same rfl rfl
    · split
      · exact hS.same rfl rfl
      · exact ⟨hS.same rfl rfl, hS.same rfl rfl⟩
    · trivial
  case exit =>
    split
    · exact hS.same rfl rfl
    · exact sLeave_log hS
  case goto =>
    split
    · exact hS.same rfl rfl
    · exact sLeave_log hS
  case ret => exact sLeave_log hS
  case region n ops draw =>
    split
    · exact hS.same rfl rfl
    · split
      · rename_i h
        intro x hx
        obtain ⟨h1, h2⟩ := hdr.1 _ _ _ _ _ _ _ _ _ _ _ h x hx
        dsimp only
        rw [h2]
        exact hS x h1
      · trivial
  case rangeFunc => exact sRangeFunc_log hS
  case refuse => trivial
theorem sstep_log [Val] {dr : Ext} (hdr : ExtLog dr) {S : SState} (hS : LogInv E0 S) : (sstep P dr S).all (LogInv E0) := by
  unfold sstep
  split
  · split
    · exact sLeave_log hS
    · rename_i it k
      unfold sItem
      split
      · exact sCode_log hdr hS
      · exact hS.same rfl rfl
      · exact hS.same rfl rfl
      · exact hS.same rfl rfl
      · split
        · exact hS.same rfl rfl
        · exact sOp_log hdr.2 hS
      · trivial
      · split
        · split
          · trivial
          · exact hS.upd rfl rfl
        · trivial
      · split
        · split
          · split
            · exact hS.upd rfl rfl
            · trivial
          · trivial
        · trivial
  · exact sUnwind_log hS
theorem Tree.all_go {α β : Type} {Q : α → Prop} {Q' : β → Prop} {f : Facts → α → Tree β} (hf : ∀ fs a, Q a → (f fs a).all Q') : ∀ {t : Tree α} {fs : Facts}, t.all Q → (Tree.go fs f t).all Q'
  | .leaf a, fs, h => hf fs a h
  | .split _ x y, fs, h => by
    simp only [Tree.go]; split
    · exact Tree.all_go hf h.1
    · exact Tree.all_go hf h.2
    · exact ⟨Tree.all_go hf h.1, Tree.all_go hf h.2⟩
  | .need _ x, fs, h => by
    have h : x.all Q := h
    simp only [Tree.go]; split
    · exact Tree.all_go hf h
    · trivial
    · exact Tree.all_go (t := x) hf h
  | .stuck _, _, _ => trivial
theorem srun_log [Val] {dr : Ext} (hdr : ExtLog dr) : ∀ {n : Nat} {fs : Facts} {S : SState}, LogInv E0 S → (srun P dr n fs S).all (LogInv E0)
  | 0, _, _, _ => trivial
  | n + 1, fs, S, hS => by
    unfold srun
    split
    · exact hS
    · exact Tree.all_go (Q := LogInv E0) (fun fs a ha => srun_log hdr ha) (sstep_log hdr hS)
end
/-- A call within a region that draws: a run of its own, with names of its own; or a contract that knows one answer. -/
def runCallee (P : Program) (dr : Ext) (fuel chunk : Nat) : Callee := fun f args ents next hi =>
  match dr.con f args ents next with
  | some (next', .leaf r) => match Nat.ble next' hi with
    | true => some (r.val, r.ents, next', r.log)
    | false => none
  | some _ => none
  | none => match Nat.ble (next + chunk) hi, fnOf P f with
    | true, some i => match srun P dr fuel [] (sStart i f args ents next (next + chunk)) with
      | .leaf S => match sValue P f S, Nat.ble S.next (next + chunk) with
        | some v, true => some (v, S.ents, next + chunk, S.log)
        | _, _ => none
      | _ => none
    | _, _ => none
theorem runCallee_ok [Val] {P : Program} (hok : FnOk P) {dr : Ext} (hdr : ExtOk P dr) (hlog : ExtLog dr) (fuel chunk : Nat) : CalleeOk P (runCallee P dr fuel chunk) := by
  intro f args ents next hi v ents' next' log' h
  unfold runCallee at h
  split at h
  · rename_i n t hct
    split at h <;> cases h
    have hle := Nat.le_of_ble_eq_true (by assumption)
    obtain ⟨c1, c2⟩ := hdr.con _ _ _ _ _ _ hct
    refine ⟨by omega, hle, hlog.2 _ _ _ _ _ _ hct, ?_⟩
    intro vs w ρ X w0 F ha hd hF
    refine (c2 (fun r => r = t) rfl vs w ρ X w0 F ha hd hF).mono ?_
    rintro e w' ⟨ρ', x, r, rfl, rfl, g1, g2, g3⟩
    exact ⟨ρ', x, rfl, g1, g2, g3⟩
  · cases h
  split at h <;> try (cases h; done)
  rename_i i hb hi'
  have hb := Nat.le_of_ble_eq_true hb
  split at h <;> try (cases h; done)
  rename_i S hS
  split at h <;> try (cases h; done)
  rename_i v' hv hle
  cases h
  have hle := Nat.le_of_ble_eq_true hle
  refine ⟨by omega, hb, fun x hx => ?_, ?_⟩
  · have := srun_log (P := P) (E0 := find ents) hlog (n := fuel) (fs := []) (S := sStart i f args ents next (next + chunk)) (fun x _ => rfl)
    rw [hS] at this
    exact this x hx
  · intro vs w ρ X w0 F ha hd hF
    refine calls_of_run (F := F) (lo := next) hok hdr (n := fuel) hi' ha (hd.fresh_mono fun j hj => hj.1) ⟨Nat.le_refl _, hF⟩ ?_
    rw [hS]
    refine ⟨v, hv, fun ρ' x w' h1 h2 h3 => ⟨ρ', x, rfl, h1, h2, h3.fresh_mono fun j hj => ⟨hj.1, ?_⟩⟩⟩
    have := hj.2
    omega
def noCal : Callee := fun _ _ _ _ _ => none
theorem noCal_ok [Val] (P : Program) : CalleeOk P noCal := fun _ _ _ _ _ _ _ _ _ h => by cases h
/-- Regions that draw; calls in them are run, so deep. -/
def drawN (P : Program) (con : Con) (xt : FuncId → List SV → Option SV) (fuel : Nat) : Nat → Dr
  | 0 => sDraw P noCal
  | n + 1 => sDraw P (runCallee P ⟨drawN P con xt fuel n, con, xt⟩ fuel (2 ^ (16 * (n + 1))))
theorem drawN_ok [Val] {P : Program} (hok : FnOk P) (hm : P.follows .mixedOrders = true) {con : Con} (hcon : ConOk P con) (hcl : ConLog con) {xt : FuncId → List SV → Option SV} (hxt : XtOk P xt) (fuel : Nat) : ∀ n, DrOk P (drawN P con xt fuel n) ∧ DrLog (drawN P con xt fuel n)
  | 0 => sDraw_ok hok hm (noCal_ok P)
  | n + 1 => by
    obtain ⟨h1, h2⟩ := drawN_ok hok hm hcon hcl hxt fuel n
    exact sDraw_ok hok hm (runCallee_ok hok ⟨h1, hcon, hxt⟩ ⟨h2, hcl⟩ fuel _)
/-- The usual run. -/
def ext (P : Program) (con : Con) (xt : FuncId → List SV → Option SV) : Ext := ⟨drawN P con xt 10000 4, con, xt⟩
theorem ext_ok [Val] {P : Program} (hok : FnOk P) (hm : P.follows .mixedOrders = true) {con : Con} (hcon : ConOk P con) (hcl : ConLog con) {xt : FuncId → List SV → Option SV} (hxt : XtOk P xt) : ExtOk P (ext P con xt) := ⟨(drawN_ok hok hm hcon hcl hxt 10000 4).1, hcon, hxt⟩
end Go.Sx
/- The program at hand: what the symbolic runs ask of it. -/
namespace Go.Proofs.Ytpooghnemlnopaa
open Go Go.Sx
theorem fnOkB : (Try.prog.funcs.toList.all fun F => !F.body.isSome || !(F.name == "runtime.NumGoroutine")) = true := by kernel_rfl
theorem fnOk : FnOk Try.prog := fun f F hF hb => by
  have h := List.all_eq_true.1 fnOkB F (by
    rw [Array.mem_toList_iff]
    exact Array.mem_of_getElem? hF)
  rw [hb] at h
  simpa using h
end Go.Proofs.Ytpooghnemlnopaa
/- A law's call, run; contracts without memory. -/
namespace Go.Sx
set_option linter.unusedVariables false
open Go Go.RowKit Go.Cd Go.Proofs.Ytpooghnemlnopaa Go.MapKept
/-- What a contract without memory says: a call's value, by its arguments alone. -/
abbrev Pure := FuncId → List SV → Option SV
def pureCon (g : Pure) : Con := fun f args ents next => match g f args with
  | some v => some (next + 2, .leaf ⟨v, ents, []⟩)
  | none => none
def PureOk [Val] (P : Program) (g : Pure) : Prop :=
  ∀ f args v, g f args = some v → ∀ (ρ : Env) (vs : List Value) (w : World), SV.DenL ρ args vs → Calls P f vs.toArray w fun e w' => ∃ x, e = .returned x ∧ v.Den ρ x ∧ New w w'
theorem pureCon_ok [Val] {P : Program} {g : Pure} (h : PureOk P g) : ConOk P (pureCon g) := by
  intro f args ents next next' t hc
  unfold pureCon at hc
  split at hc <;> cases hc
  rename_i v hv
  refine ⟨Nat.le_refl _, fun Q hQ vs w ρ X w0 F ha hd hF => ?_⟩
  refine (h f args v hv ρ vs w ha).mono ?_
  rintro e w' ⟨x, rfl, hx, hn⟩
  exact ⟨ρ, x, _, hQ, rfl, Env.le_refl _, hx, (hd.junk hn).fresh_mono fun j hj => hj.1⟩
theorem pureCon_log (g : Pure) : ConLog (pureCon g) := by
  intro f args ents next next' t hc
  unfold pureCon at hc
  split at hc <;> cases hc
  exact fun h _ => rfl
def noPure : Pure := fun _ _ => none
theorem noPure_ok [Val] (P : Program) : PureOk P noPure := fun _ _ _ h => by cases h
/-- What a law's run leaves to be shown. -/
def lawTreeF (P : Program) (g : Pure) (xt : FuncId → List SV → Option SV) (fs : Facts) (f : FuncId) (args : List SV) (n : Nat) : Tree SB :=
  match fnOf P f with
  | some i => (srun P (ext P (pureCon g) xt) n fs (sStart i f args [] 0 (2 ^ 200))).bind fun S => match sValue P f S with
    | some (.bool b) => .leaf b
    | _ => .stuck 200
  | none => .stuck 201
def lawTree (P : Program) (g : Pure) (xt : FuncId → List SV → Option SV) (f : FuncId) (args : List SV) (n : Nat) : Tree SB := lawTreeF P g xt [] f args n
theorem law_callsF [Val] {P : Program} (hok : FnOk P) (hm : P.follows .mixedOrders = true) {g : Pure} (hg : PureOk P g) {xt : FuncId → List SV → Option SV} (hxt : XtOk P xt) {fs : Facts} (hfs : FactsOk fs) {f : FuncId} {args : List SV} {n : Nat} (h : (lawTreeF P g xt fs f args n).sat fun b => b.v = true) {vs : List Value} (hv : SV.DenL (fun _ => none) args vs) (w : World) :
    Calls P f vs.toArray w fun e w' => e = .returned (.bool true) ∧ New w w' := by
  unfold lawTreeF at h
  split at h
  · rename_i i hi
    refine calls_of_runF (X := fun _ => False) (w0 := w) (F := fun _ => True) (lo := 0) (ρ := fun _ => none) hok (ext_ok hok hm (pureCon_ok hg) (pureCon_log g) hxt) hfs (n := n) hi hv ((DenH.start w _).fresh_mono fun j _ => trivial) ⟨Nat.le_refl _, fun _ _ _ => trivial⟩ (Tree.sat_mono (fun S hS => ?_) (Tree.sat_bind h))
    split at hS
    · rename_i b hb
      refine ⟨_, hb, fun ρ' v w' _ hd h => ⟨?_, new_of_den h⟩⟩
      simp only [SV.Den] at hd
      rw [hd]
      simp only [Tree.sat] at hS
      rw [hS]
    · exact hS.elim
  · exact h.elim
theorem law_calls [Val] {P : Program} (hok : FnOk P) (hm : P.follows .mixedOrders = true) {g : Pure} (hg : PureOk P g) {xt : FuncId → List SV → Option SV} (hxt : XtOk P xt) {f : FuncId} {args : List SV} {n : Nat} (h : (lawTree P g xt f args n).sat fun b => b.v = true) {vs : List Value} (hv : SV.DenL (fun _ => none) args vs) (w : World) :
    Calls P f vs.toArray w fun e w' => e = .returned (.bool true) ∧ New w w' :=
  law_callsF hok hm hg hxt (fs := []) (fun p hp => absurd hp (by simp)) h hv w
/-- Is every end true? -/
def Tree.allTrue : Tree SB → Bool
  | .leaf (.lit true) => true
  | .split _ x y => match Tree.allTrue x with
    | true => Tree.allTrue y
    | false => false
  | _ => false
theorem Tree.sat_allTrue [Val] : ∀ {t : Tree SB}, t.allTrue = true → t.sat fun b => b.v = true
  | .leaf (.lit true), _ => rfl
  | .leaf (.lit false), h => by cases h
  | .leaf (.sym _), h => by cases h
  | .split _ x y, h => by
    unfold Tree.allTrue at h
    split at h
    · rename_i hx
      exact ⟨fun _ => Tree.sat_allTrue hx, fun _ => Tree.sat_allTrue h⟩
    · cases h
  | .need _ _, h => by cases h
  | .stuck _, h => by cases h
/-- Letters that stand for nothing. -/
@[reducible] def noVal : Val := ⟨fun _ => 0, fun _ => false, fun _ _ => 0, fun _ _ => false⟩
end Go.Sx
/- The seat's sane, run. -/
namespace Go.Proofs.Ytpooghnemlnopaa
open Go Go.Sx Go.RowKit Go.Cd Go.MapKept
theorem mixed_ok : Try.prog.follows .mixedOrders = true := by kernel_rfl
theorem sane_runs : lawTree Try.prog noPure noXt 9 [] 20000 = .leaf (.lit true) := by kernel_rfl
end Go.Proofs.Ytpooghnemlnopaa
/- The seat's sane. -/
namespace Go.Proofs.Ytpooghnemlnopaa
open Go Go.Sx Go.RowKit Go.Cd Go.MapKept
theorem sane_c (w : World) : Calls Try.prog 9 #[] w fun e w' => e = .returned (.bool true) ∧ New w w' := by
  letI := noVal
  have hv : SV.DenL (fun _ => none) [] [] := by simp
  exact law_calls fnOk mixed_ok (noPure_ok _) (noXt_ok _) (by rw [sane_runs]; rfl) hv w
end Go.Proofs.Ytpooghnemlnopaa
/- Plain lemmas on words: the bits of 32-bit numbers, as whole numbers. No Go, no memory. -/
namespace Go.Cd
open Go

/-- A word as a signed number. -/
def sg (a : Int) : Int := if 2147483648 ≤ a then a - 4294967296 else a

theorem ofInt_toNat (x : Int) (h0 : 0 ≤ x) (h1 : x < 4294967296) : (BitVec.ofInt 32 x).toNat = x.toNat := by
  rw [BitVec.toNat_ofInt]
  congr 1
  exact Int.emod_eq_of_lt h0 (by omega)

theorem and32 (x y : Int) (hx : 0 ≤ x) (hx' : x < 4294967296) (hy : 0 ≤ y) (hy' : y < 4294967296) : bits .and .u32 x y = ((x.toNat &&& y.toNat : Nat) : Int) := by
  have hlt : x.toNat &&& y.toNat < 2 ^ 32 := Nat.and_lt_two_pow _ (by omega)
  have e : bits .and .u32 x y = (((BitVec.ofInt 32 x &&& BitVec.ofInt 32 y).toNat : Nat) : Int) % 4294967296 := by simp only [bits, IntKind.wrap_u32]; rfl
  rw [e, BitVec.toNat_and, ofInt_toNat x hx hx', ofInt_toNat y hy hy']
  omega
theorem or32 (x y : Int) (hx : 0 ≤ x) (hx' : x < 4294967296) (hy : 0 ≤ y) (hy' : y < 4294967296) : bits .or .u32 x y = ((x.toNat ||| y.toNat : Nat) : Int) := by
  have hlt : x.toNat ||| y.toNat < 2 ^ 32 := Nat.or_lt_two_pow (by omega) (by omega)
  have e : bits .or .u32 x y = (((BitVec.ofInt 32 x ||| BitVec.ofInt 32 y).toNat : Nat) : Int) % 4294967296 := by simp only [bits, IntKind.wrap_u32]; rfl
  rw [e, BitVec.toNat_or, ofInt_toNat x hx hx', ofInt_toNat y hy hy']
  omega
theorem xor32 (x y : Int) (hx : 0 ≤ x) (hx' : x < 4294967296) (hy : 0 ≤ y) (hy' : y < 4294967296) : bits .xor .u32 x y = ((x.toNat ^^^ y.toNat : Nat) : Int) := by
  have hlt : x.toNat ^^^ y.toNat < 2 ^ 32 := Nat.xor_lt_two_pow (by omega) (by omega)
  have e : bits .xor .u32 x y = (((BitVec.ofInt 32 x ^^^ BitVec.ofInt 32 y).toNat : Nat) : Int) % 4294967296 := by simp only [bits, IntKind.wrap_u32]; rfl
  rw [e, BitVec.toNat_xor, ofInt_toNat x hx hx', ofInt_toNat y hy hy']
  omega

theorem bits_nonneg (op : BinOp) (x y : Int) : 0 ≤ bits op .u32 x y := by
  cases op <;> simp only [bits, IntKind.wrap_u32] <;> omega
theorem bits_lt (op : BinOp) (x y : Int) : bits op .u32 x y < 4294967296 := by
  cases op <;> simp only [bits, IntKind.wrap_u32] <;> omega

/-- The top bit. -/
theorem div_top (n : Nat) (h : n < 4294967296) : n / 2147483648 = if n.testBit 31 then 1 else 0 := by
  rw [Nat.testBit_eq_decide_div_mod_eq]
  by_cases h' : n / 2 ^ 31 % 2 = 1
  · rw [decide_eq_true h', if_pos rfl]; omega
  · rw [decide_eq_false h', if_neg (by simp)]; omega
theorem top_int (x : Int) (h0 : 0 ≤ x) (h1 : x < 4294967296) : x / 2147483648 = if x.toNat.testBit 31 then 1 else 0 := by
  have h := div_top x.toNat (by omega)
  by_cases ht : x.toNat.testBit 31 = true
  · rw [if_pos ht] at h ⊢; omega
  · rw [if_neg ht] at h ⊢; omega
theorem and_top (x y : Int) (hx : 0 ≤ x) (hx' : x < 4294967296) (hy : 0 ≤ y) (hy' : y < 4294967296) :
    bits .and .u32 x y / 2147483648 = if x / 2147483648 = 1 ∧ y / 2147483648 = 1 then 1 else 0 := by
  rw [top_int _ (bits_nonneg _ _ _) (bits_lt _ _ _), top_int x hx hx', top_int y hy hy', and32 x y hx hx' hy hy', Int.toNat_natCast, Nat.testBit_and]
  cases x.toNat.testBit 31 <;> cases y.toNat.testBit 31 <;> simp
theorem or_top (x y : Int) (hx : 0 ≤ x) (hx' : x < 4294967296) (hy : 0 ≤ y) (hy' : y < 4294967296) :
    bits .or .u32 x y / 2147483648 = if x / 2147483648 = 1 ∨ y / 2147483648 = 1 then 1 else 0 := by
  rw [top_int _ (bits_nonneg _ _ _) (bits_lt _ _ _), top_int x hx hx', top_int y hy hy', or32 x y hx hx' hy hy', Int.toNat_natCast, Nat.testBit_or]
  cases x.toNat.testBit 31 <;> cases y.toNat.testBit 31 <;> simp
theorem xor_top (x y : Int) (hx : 0 ≤ x) (hx' : x < 4294967296) (hy : 0 ≤ y) (hy' : y < 4294967296) :
    bits .xor .u32 x y / 2147483648 = if x / 2147483648 = y / 2147483648 then 0 else 1 := by
  rw [top_int _ (bits_nonneg _ _ _) (bits_lt _ _ _), top_int x hx hx', top_int y hy hy', xor32 x y hx hx' hy hy', Int.toNat_natCast, Nat.testBit_xor]
  cases x.toNat.testBit 31 <;> cases y.toNat.testBit 31 <;> simp

/-- 'x & (2^i - 1)' of a word. -/
theorem and_mask (x : Int) (hx : 0 ≤ x) (hx' : x < 4294967296) (i : Nat) (hi : i ≤ 32) : bits .and .u32 x ((2 : Int) ^ i - 1) = x % (2 : Int) ^ i := by
  have hp : (2 : Int) ^ i = ((2 ^ i : Nat) : Int) := by simp
  have hp0 : 0 < 2 ^ i := Nat.two_pow_pos i
  have hp1 : 2 ^ i ≤ 2 ^ 32 := Nat.pow_le_pow_right (by decide) hi
  rw [hp, and32 x _ hx hx' (by omega) (by omega)]
  have e : (((2 ^ i : Nat) : Int) - 1).toNat = 2 ^ i - 1 := by omega
  rw [e, Nat.and_two_pow_sub_one_eq_mod]
  obtain ⟨n, rfl⟩ := Int.eq_ofNat_of_zero_le hx
  rw [Int.toNat_natCast]
  omega
theorem and_1 (x : Int) (hx : 0 ≤ x) (hx' : x < 4294967296) : bits .and .u32 x 1 = x % 2 := and_mask x hx hx' 1 (by decide)
theorem and_15 (x : Int) (hx : 0 ≤ x) (hx' : x < 4294967296) : bits .and .u32 x 15 = x % 16 := and_mask x hx hx' 4 (by decide)
theorem and_31 (x : Int) (hx : 0 ≤ x) (hx' : x < 4294967296) : bits .and .u32 x 31 = x % 32 := and_mask x hx hx' 5 (by decide)
theorem and_255 (x : Int) (hx : 0 ≤ x) (hx' : x < 4294967296) : bits .and .u32 x 255 = x % 256 := and_mask x hx hx' 8 (by decide)

/-- math/bits.Sub32's borrow. -/
theorem borrow_bits (x y c : Int) (hx : 0 ≤ x) (hx' : x < 4294967296) (hy : 0 ≤ y) (hy' : y < 4294967296) (hc : 0 ≤ c) (hc' : c ≤ 1) :
    bits .or .u32 (bits .and .u32 (bits .xor .u32 4294967295 x) y) (bits .and .u32 (bits .xor .u32 4294967295 (bits .xor .u32 x y)) ((x - y - c) % 4294967296)) / 2147483648 = if x < y + c then 1 else 0 := by
  have n1 := bits_nonneg .xor 4294967295 x; have n1' := bits_lt .xor 4294967295 x
  have n2 := bits_nonneg .and (bits .xor .u32 4294967295 x) y; have n2' := bits_lt .and (bits .xor .u32 4294967295 x) y
  have n3 := bits_nonneg .xor x y; have n3' := bits_lt .xor x y
  have n4 := bits_nonneg .xor 4294967295 (bits .xor .u32 x y); have n4' := bits_lt .xor 4294967295 (bits .xor .u32 x y)
  have n5 := bits_nonneg .and (bits .xor .u32 4294967295 (bits .xor .u32 x y)) ((x - y - c) % 4294967296)
  have n5' := bits_lt .and (bits .xor .u32 4294967295 (bits .xor .u32 x y)) ((x - y - c) % 4294967296)
  rw [or_top _ _ n2 n2' n5 n5', and_top _ _ n1 n1' hy hy', and_top _ _ n4 n4' (by omega) (by omega), xor_top _ _ (by decide) (by decide) hx hx', xor_top _ _ (by decide) (by decide) n3 n3', xor_top _ _ hx hx' hy hy']
  generalize hr : (x - y - c) % 4294967296 = r
  clear n1 n1' n2 n2' n3 n3' n4 n4' n5 n5'
  by_cases a : x / 2147483648 = 1 <;> by_cases b : y / 2147483648 = 1 <;> by_cases d : r / 2147483648 = 1 <;> simp [a, b, d] <;> omega

/-- The overflow of a sum, and of a difference. -/
theorem over_sum (a b c : Int) (ha : 0 ≤ a) (ha' : a < 4294967296) (hb : 0 ≤ b) (hb' : b < 4294967296) (hc : 0 ≤ c) (hc' : c ≤ 1) :
    (bits .and .u32 (bits .xor .u32 a ((a + b + c) % 4294967296)) (bits .xor .u32 b ((a + b + c) % 4294967296)) / 2147483648 == 1) = decide (sg a + sg b + c ≠ sg ((a + b + c) % 4294967296)) := by
  generalize hr : (a + b + c) % 4294967296 = r
  rw [and_top _ _ (bits_nonneg _ _ _) (bits_lt _ _ _) (bits_nonneg _ _ _) (bits_lt _ _ _), xor_top a r ha ha' (by omega) (by omega), xor_top b r hb hb' (by omega) (by omega)]
  unfold sg
  rw [Bool.eq_iff_iff, beq_iff_eq, decide_eq_true_iff]
  repeat' split
  all_goals omega
theorem over_diff (a b c : Int) (ha : 0 ≤ a) (ha' : a < 4294967296) (hb : 0 ≤ b) (hb' : b < 4294967296) (hc : 0 ≤ c) (hc' : c ≤ 1) :
    (bits .and .u32 (bits .xor .u32 a b) (bits .xor .u32 a ((a - b - c) % 4294967296)) / 2147483648 == 1) = decide (sg a - sg b - c ≠ sg ((a - b - c) % 4294967296)) := by
  generalize hr : (a - b - c) % 4294967296 = r
  rw [and_top _ _ (bits_nonneg _ _ _) (bits_lt _ _ _) (bits_nonneg _ _ _) (bits_lt _ _ _), xor_top a b ha ha' hb hb', xor_top a r ha ha' (by omega) (by omega)]
  unfold sg
  rw [Bool.eq_iff_iff, beq_iff_eq, decide_eq_true_iff]
  repeat' split
  all_goals omega
end Go.Cd
/- Plain: sums, differences, shifts of words, their carries, and flags. -/
namespace Go.Proofs.Ytpooghnemlnopaa
open Go Go.RowKit Go.Cd
set_option linter.unusedVariables false

def sumR (a b c : Int) : Int := (a + b + c) % 4294967296
def sumC (a b c : Int) : Bool := (a + b + c) / 4294967296 == 1
def sumV (a b c : Int) : Bool := decide (sg a + sg b + c ≠ sg ((a + b + c) % 4294967296))
def difR (a b c : Int) : Int := (a - b - c) % 4294967296
def difC (a b c : Int) : Bool := decide (a < b + c)
def difV (a b c : Int) : Bool := decide (sg a - sg b - c ≠ sg ((a - b - c) % 4294967296))
def shlR (a n : Int) : Int := a * 2 ^ n.toNat % 4294967296
def shrR (a n : Int) : Int := a / 2 ^ n.toNat
def sarR (a n : Int) : Int := wrap32 a / 2 ^ n.toNat % 4294967296
/-- The bit that goes out. -/
def outB (a n last : Int) : Bool := decide (0 < n) && (a / 2 ^ (last % 32).toNat % 2 == 1)
theorem and_1_div (a : Int) (ha : 0 ≤ a) (ha' : a < 4294967296) (k : Nat) : bits .and .u32 (a / 2 ^ k) 1 = a / 2 ^ k % 2 := by
  have hp : (0 : Int) < 2 ^ k := Int.pow_pos (by decide)
  refine and_1 _ (Int.ediv_nonneg ha (by omega)) ?_
  exact Int.lt_of_le_of_lt (Int.ediv_le_self _ ha) ha'
/-- Four flags as a number. -/
def flagNum (z n c v : Bool) : Int := (if z then 1 else 0) + (if n then 2 else 0) + (if c then 4 else 0) + (if v then 8 else 0)
theorem pow_pos' (k : Nat) : (0 : Int) < 2 ^ k := Int.pow_pos (by decide)
end Go.Proofs.Ytpooghnemlnopaa
/- Contracts of math/bits.Add32 and Sub32. -/
namespace Go.Proofs.Ytpooghnemlnopaa
open Go Go.RowKit Go.Cd

theorem add32_c (x y c : Int) (w : World) (hx : 0 ≤ x) (hx' : x < 4294967296) (hy : 0 ≤ y) (hy' : y < 4294967296) (hc : 0 ≤ c) (hc' : c ≤ 1) :
    Calls Try.prog 82 #[.int .u32 x, .int .u32 y, .int .u32 c] w fun e w' => e = .returned (.tuple #[.int .u32 ((x + y + c) % 4294967296), .int .u32 ((x + y + c) / 4294967296)]) ∧ w = w' := by
  go_enter Try.func82, Try.ntmps82
  go_wp2
  go_ret2
  exact ⟨rfl, rfl⟩
theorem sub32_c (x y c : Int) (w : World) (hx : 0 ≤ x) (hx' : x < 4294967296) (hy : 0 ≤ y) (hy' : y < 4294967296) (hc : 0 ≤ c) (hc' : c ≤ 1) :
    Calls Try.prog 50 #[.int .u32 x, .int .u32 y, .int .u32 c] w fun e w' => e = .returned (.tuple #[.int .u32 ((x - y - c) % 4294967296), .int .u32 (((difC x y c).toNat : Nat) : Int)]) ∧ w = w' := by
  have hb := Lib.hid (borrow_bits x y c hx hx' hy hy' hc hc')
  go_enter Try.func50, Try.ntmps50
  go_wp2
  go_ret2
  refine ⟨?_, rfl⟩
  simp only [Array.getD_eq_getD_getElem?, List.getElem?_toArray, List.getElem?_cons_succ, List.getElem?_cons_zero, Option.getD_some]
  rw [show IntKind.u32.max = 4294967295 from rfl, hb.out]
  unfold difC
  by_cases h : x < y + c <;> simp [h]
end Go.Proofs.Ytpooghnemlnopaa
/- Contracts of cpu.flagged, sum, difference, logic, shifted, quotient. -/
namespace Go.Proofs.Ytpooghnemlnopaa
open Go Go.RowKit Go.Cd
set_option linter.unusedVariables false

theorem set_t (f x : Int) (a : Addr) (w : World) (h : w.cell? a = some (.int .i64 x)) (h' : w.frozen? a = false) :
    Calls Try.prog 81 #[.int .i64 f, .bool true, .pointer (some a)] w fun e w' => e = .returned (.tuple #[]) ∧ w' = w.setCell a (.int .i64 (bits .or .i64 x f)) := by
  go_enter Try.func81, Try.ntmps81
  go_wp2
  go_end0
  exact ⟨rfl, rfl⟩
theorem set_f (f : Int) (a : Addr) (w : World) :
    Calls Try.prog 81 #[.int .i64 f, .bool false, .pointer (some a)] w fun e w' => e = .returned (.tuple #[]) ∧ w' = w := by
  go_enter Try.func81, Try.ntmps81
  go_wp2
  go_end0
  exact ⟨rfl, rfl⟩
set_option maxHeartbeats 1000000 in
theorem flagged_c (r : Int) (c v : Bool) (w : World) (h : 0 ≤ r) (h' : r < 4294967296) :
    Calls Try.prog 51 #[.int .u32 r, .bool c, .bool v] w fun e w' => e = .returned (.int .i64 (flagNum (r == 0) (r / 2147483648 == 1) c v)) ∧ New w w' := by
  obtain ⟨z, hz⟩ : ∃ z, (r == 0) = z := ⟨_, rfl⟩
  obtain ⟨n, hn⟩ : ∃ n, (r / 2147483648 == 1) = n := ⟨_, rfl⟩
  rw [hz, hn]
  cases z <;> cases n <;> cases c <;> cases v
  all_goals
    go_enter Try.func51, Try.ntmps51
    go_wp2_with (go_at_call 81; (first | ((with_reducible refine (set_f _ _ _).mono ?_); rintro e w' ⟨rfl, rfl⟩) | (refine (set_t _ _ _ _ (cell_of_heap (heap_alloc_at _ _ _ rfl) rfl) (by simp)).mono ?_; rintro e w' ⟨rfl, rfl⟩)))
    go_ret
    exact ⟨rfl, by go_grown⟩
/-- Sum and difference with their flags. -/
def sumFl (a b c : Int) : Int := flagNum (sumR a b c == 0) (sumR a b c / 2147483648 == 1) (sumC a b c) (sumV a b c)
def difFl (a b c : Int) : Int := flagNum (difR a b c == 0) (difR a b c / 2147483648 == 1) (difC a b c) (difV a b c)
def logFl (r : Int) : Int := flagNum (r == 0) (r / 2147483648 == 1) false false
theorem csum_c (x y c : Int) (w : World) (hx : 0 ≤ x) (hx' : x < 4294967296) (hy : 0 ≤ y) (hy' : y < 4294967296) (hc : 0 ≤ c) (hc' : c ≤ 1) :
    Calls Try.prog 53 #[.int .u32 x, .int .u32 y, .int .u32 c] w fun e w' => e = .returned (.tuple #[.int .u32 (sumR x y c), .int .i64 (sumFl x y c)]) ∧ New w w' := by
  have hb := Lib.hid (over_sum x y c hx hx' hy hy' hc hc')
  go_enter Try.func53, Try.ntmps53
  go_wp2_with (first
    | (go_at_call 82; refine (add32_c _ _ _ _ (by omega) (by omega) (by omega) (by omega) (by omega) (by omega)).mono ?_; rintro e w' ⟨rfl, rfl⟩)
    | (go_at_call 51; refine (flagged_c _ _ _ _ (by omega) (by omega)).mono ?_; rintro e w1 ⟨rfl, hb1⟩))
  go_ret2
  refine ⟨?_, hb1⟩
  simp only [Array.getD_eq_getD_getElem?, List.getElem?_toArray, List.getElem?_cons_succ, List.getElem?_cons_zero, Option.getD_some]
  rw [hb.out]
  rfl
theorem cdif_c (x y c : Int) (w : World) (hx : 0 ≤ x) (hx' : x < 4294967296) (hy : 0 ≤ y) (hy' : y < 4294967296) (hc : 0 ≤ c) (hc' : c ≤ 1) :
    Calls Try.prog 33 #[.int .u32 x, .int .u32 y, .int .u32 c] w fun e w' => e = .returned (.tuple #[.int .u32 (difR x y c), .int .i64 (difFl x y c)]) ∧ New w w' := by
  have hb := Lib.hid (over_diff x y c hx hx' hy hy' hc hc')
  go_enter Try.func33, Try.ntmps33
  go_wp2_with (first
    | (go_at_call 50; refine (sub32_c _ _ _ _ (by omega) (by omega) (by omega) (by omega) (by omega) (by omega)).mono ?_; rintro e w' ⟨rfl, rfl⟩)
    | (go_at_call 51; refine (flagged_c _ _ _ _ (by omega) (by omega)).mono ?_; rintro e w1 ⟨rfl, hb1⟩))
  go_ret2
  refine ⟨?_, hb1⟩
  simp only [Array.getD_eq_getD_getElem?, List.getElem?_toArray, List.getElem?_cons_succ, List.getElem?_cons_zero, Option.getD_some]
  rw [hb.out]
  unfold difFl difR difV
  cases difC x y c <;> rfl
theorem clogic_c (r : Int) (w : World) (h : 0 ≤ r) (h' : r < 4294967296) :
    Calls Try.prog 56 #[.int .u32 r] w fun e w' => e = .returned (.tuple #[.int .u32 r, .int .i64 (logFl r)]) ∧ New w w' := by
  go_enter Try.func56, Try.ntmps56
  go_wp2_with (go_at_call 51; refine (flagged_c _ _ _ _ (by omega) (by omega)).mono ?_; rintro e w1 ⟨rfl, hb1⟩)
  go_ret2
  exact ⟨rfl, hb1⟩
/-- The last bit that goes out of a shift. -/
def outS (a n : Int) (left : Bool) : Bool := if n = 0 then false else a / 2 ^ (if left = true then 32 - n else n - 1).toNat % 2 == 1
def shFl (r a n : Int) (left : Bool) : Int := flagNum (r == 0) (r / 2147483648 == 1) (outS a n left) false
theorem cshifted_c (r a n : Int) (left : Bool) (w : World) (h : 0 ≤ r) (h' : r < 4294967296) (ha : 0 ≤ a) (ha' : a < 4294967296) (hn : 0 ≤ n) (hn' : n < 32) :
    Calls Try.prog 60 #[.int .u32 r, .int .u32 a, .int .u32 n, .bool left] w fun e w' => e = .returned (.tuple #[.int .u32 r, .int .i64 (shFl r a n left)]) ∧ New w w' := by
  by_cases h0 : n = 0
  · subst h0
    go_enter Try.func60, Try.ntmps60
    go_wp2_with (go_at_call 51; refine (flagged_c _ _ _ _ (by omega) (by omega)).mono ?_; rintro e w1 ⟨rfl, hb1⟩)
    go_ret2
    exact ⟨rfl, hb1⟩
  · cases left
    · have hm := Lib.hid (and_1_div a ha ha' (n.toNat - 1))
      have e0 : (n == 0) = false := by simp [h0]
      have h1 : 1 ≤ n := by omega
      go_enter Try.func60, Try.ntmps60
      go_wp2_with (go_at_call 51; refine (flagged_c _ _ _ _ (by omega) (by omega)).mono ?_; rintro e w1 ⟨rfl, hb1⟩)
      go_ret2
      refine ⟨?_, hb1⟩
      simp only [Array.getD_eq_getD_getElem?, List.getElem?_toArray, List.getElem?_cons_succ, List.getElem?_cons_zero, Option.getD_some]
      rw [hm.out]
      unfold shFl outS
      rw [if_neg h0, show n.toNat - 1 = (n - 1).toNat by omega]
      rfl
    · have hm := Lib.hid (and_1_div a ha ha' (32 - n).toNat)
      have e0 : (n == 0) = false := by simp [h0]
      have h1 : 1 ≤ n := by omega
      go_enter Try.func60, Try.ntmps60
      go_wp2_with (go_at_call 51; refine (flagged_c _ _ _ _ (by omega) (by omega)).mono ?_; rintro e w1 ⟨rfl, hb1⟩)
      go_ret2
      refine ⟨?_, hb1⟩
      simp only [Array.getD_eq_getD_getElem?, List.getElem?_toArray, List.getElem?_cons_succ, List.getElem?_cons_zero, Option.getD_some]
      rw [hm.out]
      unfold shFl outS
      rw [if_neg h0]
      rfl
def divS (a b : Int) : Int := (sg a).tdiv (sg b) % 4294967296
theorem wrap_sg (a : Int) (h : 0 ≤ a) (h' : a < 4294967296) : wrap32 a = sg a := by
  unfold wrap32 sg
  split <;> omega
theorem wrap_mod (a : Int) : wrap32 a % 4294967296 = a % 4294967296 := by
  unfold wrap32
  omega
theorem sg_ne (b : Int) (h : 0 < b) (h' : b < 4294967296) : sg b ≠ 0 := by
  unfold sg
  split <;> omega
theorem cquot_c (a b : Int) (w : World) (ha : 0 ≤ a) (ha' : a < 4294967296) (hb : 0 < b) (hb' : b < 4294967296) :
    Calls Try.prog 68 #[.int .u32 a, .int .u32 b] w fun e w' => e = .returned (.int .u32 (divS a b)) ∧ New w w' := by
  by_cases h1 : b = 4294967295
  · subst h1
    go_enter Try.func68, Try.ntmps68
    go_wp2
    go_ret
    refine ⟨ret_int ?_, New.refl _⟩
    unfold divS
    rw [show sg 4294967295 = -1 from rfl, Int.tdiv_neg, Int.tdiv_one]
    unfold sg
    split <;> omega
  · have e0 : (b == 4294967295) = false := by simp [h1]
    have hnz : ¬ wrap32 b = 0 := by rw [wrap_sg b (by omega) hb']; exact sg_ne b hb hb'
    go_enter Try.func68, Try.ntmps68
    go_wp2
    go_ret
    refine ⟨ret_int ?_, New.refl _⟩
    unfold divS
    rw [wrap_mod, wrap_sg a ha ha', wrap_sg b (by omega) hb']
end Go.Proofs.Ytpooghnemlnopaa
