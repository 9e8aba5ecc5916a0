/- Regions that draw their order: the whole region; calls within it. -/
import Derived.Test.YtpooghnemlnopaaSx19
namespace Go.Sx
set_option linter.unusedSimpArgs false
set_option linter.unusedVariables false
open Go Go.RowKit Go.Cd Go.Proofs.Ytpooghnemlnopaa Go.MapKept

def dAll (P : Program) (cal : Callee) (ops : Array Oper) (hi : Nat) : List Oper → St → Option (List Foot × List St)
  | [], _ => some ([], [])
  | o :: l, s => match dOne P cal ops hi o s with
    | some (s', f) => match dAll P cal ops hi l s' with
      | some (fs, ss) => some (f :: fs, s' :: ss)
      | none => none
    | none => none
def mem (n : Nat) : List Nat → Bool
  | [] => false
  | x :: l => match Nat.beq x n with
    | true => true
    | false => mem n l
theorem mem_iff [Val] {n : Nat} : ∀ {l : List Nat}, mem n l = true ↔ n ∈ l
  | [] => by simp [mem]
  | x :: l => by
    unfold mem
    split
    · rename_i h; have := Nat.eq_of_beq_eq_true h; simp [this]
    · rename_i h; have := Nat.ne_of_beq_eq_false h; rw [mem_iff (l := l)]; simp [Ne.symm this]
theorem mem_false [Val] {n : Nat} {l : List Nat} (h : mem n l = false) : n ∉ l := fun hh => by rw [mem_iff.2 hh] at h; cases h
/-- None of the first list's are in the second. -/
def none' : List Nat → List Nat → Bool
  | [], _ => true
  | x :: l, m => match mem x m with
    | true => false
    | false => none' l m
theorem none'_ok [Val] : ∀ {l m : List Nat}, none' l m = true → ∀ x ∈ l, x ∉ m
  | [], _, _, x, hx => by simp at hx
  | y :: l, m, h, x, hx => by
    unfold none' at h
    split at h
    · cases h
    · rename_i e
      rcases List.mem_cons.1 hx with rfl | hx
      · exact mem_false e
      · exact none'_ok h x hx
def isNil : List Nat → Bool
  | [] => true
  | _ => false
def noConfB (a b : Foot) : Bool :=
  (match a.wt with
    | some t => !(mem t b.rt) && (match b.wt with
      | some u => !(Nat.beq u t)
      | none => true)
    | none => true) &&
  (match b.wt with
    | some t => !(mem t a.rt)
    | none => true) &&
  (isNil a.wh || (!b.all && none' a.wh b.rh && none' a.wh b.wh)) &&
  (isNil b.wh || (!a.all && none' b.wh a.rh))
theorem noConfB_ok [Val] {a b : Foot} (h : noConfB a b = true) : NoConf a b := by
  unfold noConfB at h
  rw [Bool.and_eq_true, Bool.and_eq_true, Bool.and_eq_true] at h
  obtain ⟨⟨⟨h1, h2⟩, h3⟩, h4⟩ := h
  refine ⟨fun t ht => ?_, fun t ht => ?_, fun x hx => ?_, fun x hx => ?_⟩
  · rw [ht] at h1
    simp only [Bool.and_eq_true, Bool.not_eq_true'] at h1
    refine ⟨mem_false h1.1, fun e => ?_⟩
    rw [e] at h1
    have := h1.2
    simp at this
  · rw [ht] at h2
    simp only [Bool.not_eq_true'] at h2
    exact mem_false h2
  · rw [Bool.or_eq_true] at h3
    rcases h3 with h3 | h3
    · cases hw : a.wh with
      | nil => rw [hw] at hx; simp at hx
      | cons y l => rw [hw] at h3; cases h3
    · rw [Bool.and_eq_true, Bool.and_eq_true, Bool.not_eq_true'] at h3
      exact ⟨h3.1.1, none'_ok h3.1.2 x hx, none'_ok h3.2 x hx⟩
  · rw [Bool.or_eq_true] at h4
    rcases h4 with h4 | h4
    · cases hw : b.wh with
      | nil => rw [hw] at hx; simp at hx
      | cons y l => rw [hw] at h4; cases h4
    · rw [Bool.and_eq_true, Bool.not_eq_true'] at h4
      exact ⟨h4.1, none'_ok h4.2 x hx⟩
def bindsB (e : Edge) : Bool := Region.binds .any e
def nthN : List Nat → Nat → Nat
  | [], _ => 0
  | x :: _, 0 => x
  | _ :: l, n + 1 => nthN l n
theorem nthN_eq [Val] : ∀ (l : List Nat) (i : Nat), nthN l i = (l[i]?).getD 0
  | [], _ => by simp [nthN]
  | _ :: _, 0 => by simp [nthN]
  | _ :: l, i + 1 => by simp [nthN, nthN_eq l i]
def maskE (ms : List Nat) : List Edge → Nat
  | [] => 0
  | e :: es => match bindsB e with
    | true => Nat.lor (Nat.lor (2 ^ e.on) (nthN ms e.on)) (maskE ms es)
    | false => maskE ms es
def masks : List Nat → List Oper → List Nat
  | ms, [] => ms
  | ms, o :: l => masks (ms ++ [maskE ms o.after.toList]) l
theorem maskE_ok [Val] {ms : List Nat} : ∀ {es : List Edge} {i : Nat}, (maskE ms es).testBit i = true → ∃ e ∈ es, Region.binds .any e = true ∧ (i = e.on ∨ ((ms[e.on]?).getD 0).testBit i = true)
  | [], i, h => by simp [maskE] at h
  | e :: es, i, h => by
    unfold maskE at h
    split at h
    · rename_i hb
      have h' : ((2 ^ e.on ||| nthN ms e.on) ||| maskE ms es).testBit i = true := h
      rw [Nat.testBit_or, Nat.testBit_or, Bool.or_eq_true, Bool.or_eq_true] at h'
      rcases h' with (h' | h') | h'
      · rw [Nat.testBit_two_pow] at h'
        exact ⟨e, by simp, hb, .inl (by simpa using (of_decide_eq_true h').symm)⟩
      · rw [nthN_eq] at h'
        exact ⟨e, by simp, hb, .inr h'⟩
      · obtain ⟨e', h1, h2⟩ := maskE_ok h'
        exact ⟨e', by simp [h1], h2⟩
    · obtain ⟨e', h1, h2⟩ := maskE_ok h
      exact ⟨e', by simp [h1], h2⟩
theorem masks_ok [Val] {ops : Array Oper} : ∀ {l : List Oper} {ms : List Nat}, (∀ i, l[i]? = ops[ms.length + i]?) → (∀ j m i, ms[j]? = some m → m.testBit i = true → Bef ops i j) →
    (masks ms l).length = ms.length + l.length ∧ ∀ j m i, (masks ms l)[j]? = some m → m.testBit i = true → Bef ops i j
  | [], ms, _, h => ⟨by simp [masks], h⟩
  | o :: l, ms, hl, h => by
    unfold masks
    have ho : ops[ms.length]? = some o := by have := hl 0; simpa using this.symm
    obtain ⟨h1, h2⟩ := masks_ok (ops := ops) (l := l) (ms := ms ++ [maskE ms o.after.toList]) (fun i => by
      have := hl (i + 1)
      simp at this ⊢
      rw [this]; congr 1; omega) (fun j m i hj hm => by
      rw [List.getElem?_append] at hj
      split at hj
      · exact h j m i hj hm
      · rename_i hge
        have hj0 : j - ms.length = 0 := by
          have := (List.getElem?_eq_some_iff.1 hj).1
          simpa using this
        have hjj : j = ms.length := by omega
        subst hjj
        simp at hj; subst hj
        obtain ⟨e, he, hb, hc⟩ := maskE_ok hm
        have he' : e ∈ o.after := by simpa using he
        rcases hc with rfl | hc
        · exact .edge ho he' hb
        · cases hx : ms[e.on]? with
          | none => rw [hx] at hc; simp at hc
          | some m' =>
            rw [hx] at hc
            exact .step ho he' hb (h e.on m' i hx hc))
    exact ⟨by rw [h1]; simp; omega, h2⟩
def edgesB (i : Nat) : List Edge → Bool
  | [] => true
  | e :: es => match bindsB e with
    | true => match Nat.blt e.on i with
      | true => edgesB i es
      | false => false
    | false => edgesB i es
theorem edgesB_ok [Val] {i : Nat} : ∀ {es : List Edge}, edgesB i es = true → ∀ e ∈ es, Region.binds .any e = true → e.on < i
  | [], _, e, he, _ => by simp at he
  | x :: es, h, e, he, hb => by
    unfold edgesB at h
    split at h
    · split at h
      · rename_i hx hlt
        rcases List.mem_cons.1 he with rfl | he
        · exact Nat.le_of_ble_eq_true hlt
        · exact edgesB_ok h e he hb
      · cases h
    · rename_i hx
      rcases List.mem_cons.1 he with rfl | he
      · rw [bindsB, hb] at hx; cases hx
      · exact edgesB_ok h e he hb
def edgesAll : Nat → List Oper → Bool
  | _, [] => true
  | i, o :: l => match edgesB i o.after.toList with
    | true => edgesAll (i + 1) l
    | false => false
theorem edgesAll_ok [Val] : ∀ {l : List Oper} {k : Nat}, edgesAll k l = true → ∀ i o, l[i]? = some o → ∀ e ∈ o.after, Region.binds .any e = true → e.on < k + i
  | [], _, _, i, o, ho, _, _, _ => by simp at ho
  | x :: l, k, h, i, o, ho, e, he, hb => by
    unfold edgesAll at h
    split at h
    · rename_i h1
      cases i with
      | zero =>
        simp at ho; subst ho
        exact edgesB_ok h1 e (by simpa using he) hb
      | succ i =>
        have := edgesAll_ok h i o (by simpa using ho) e he hb
        omega
    · cases h
def pairOk (m : Nat) (fj : Foot) : Nat → List Foot → Bool
  | _, [] => true
  | i, f :: fs => match Nat.testBit m i with
    | true => pairOk m fj (i + 1) fs
    | false => match noConfB f fj with
      | true => pairOk m fj (i + 1) fs
      | false => false
theorem pairOk_ok [Val] {m : Nat} {fj : Foot} : ∀ {fs : List Foot} {k : Nat}, pairOk m fj k fs = true → ∀ i f, fs[i]? = some f → m.testBit (k + i) = true ∨ NoConf f fj
  | [], _, _, i, f, hf => by simp at hf
  | g :: fs, k, h, i, f, hf => by
    unfold pairOk at h
    have rest : pairOk m fj (k + 1) fs = true → ∀ i, fs[i]? = some f → m.testBit (k + (i + 1)) = true ∨ NoConf f fj := fun h i hf => by
      have := pairOk_ok h i f hf
      rwa [show k + 1 + i = k + (i + 1) by omega] at this
    split at h
    · rename_i hb
      cases i with
      | zero => exact .inl hb
      | succ i => exact rest h i (by simpa using hf)
    · split at h
      · rename_i hc
        cases i with
        | zero => simp at hf; subst hf; exact .inr (noConfB_ok hc)
        | succ i => exact rest h i (by simpa using hf)
      · cases h
def pairsAll : List Foot → List Foot → List Nat → Bool
  | _, [], _ => true
  | pre, f :: fs, m :: ms => match pairOk m f 0 pre with
    | true => pairsAll (pre ++ [f]) fs ms
    | false => false
  | _, _ :: _, [] => false
theorem pairsAll_ok [Val] : ∀ {fs pre : List Foot} {ms : List Nat}, pairsAll pre fs ms = true → ∀ i j f g m, i < pre.length + j → (pre ++ fs)[i]? = some f → fs[j]? = some g → ms[j]? = some m → m.testBit i = true ∨ NoConf f g
  | [], _, _, _, i, j, f, g, m, _, _, hg, _ => by simp at hg
  | x :: fs, pre, [], h, _, _, _, _, _, _, _, _, _ => by simp [pairsAll] at h
  | x :: fs, pre, y :: ms, h, i, j, f, g, m, hij, hf, hg, hm => by
    unfold pairsAll at h
    split at h
    · rename_i h1
      cases j with
      | zero =>
        simp at hg hm hij; subst hg hm
        rw [List.getElem?_append_left hij] at hf
        have := pairOk_ok h1 i f hf
        simpa using this
      | succ j =>
        exact pairsAll_ok h i j f g m (by simp; omega) (by simpa using hf) (by simpa using hg) (by simpa using hm)
    · cases h
def lastS : St → List St → St
  | s, [] => s
  | _, s :: l => lastS s l
/-- How many operations stand ahead of the end, in which each waits for all ahead of it. -/
def preLen : List Nat → Nat → Nat → Nat
  | [], _, z => z
  | m :: ms, i, z => match Nat.beq (m % 2 ^ i) (2 ^ i - 1) with
    | true => preLen ms (i + 1) z
    | false => preLen ms (i + 1) (i + 1)
theorem preLen_ok [Val] : ∀ {ms : List Nat} {i z : Nat}, z ≤ i → z ≤ preLen ms i z ∧ preLen ms i z ≤ i + ms.length ∧ ∀ j m, ms[j]? = some m → preLen ms i z ≤ i + j → ∀ q, q < i + j → m.testBit q = true
  | [], i, z, h => ⟨Nat.le_refl _, by simpa [preLen] using h, fun j m hj => by simp at hj⟩
  | x :: ms, i, z, h => by
    unfold preLen
    split
    · rename_i hb
      have hb := Nat.eq_of_beq_eq_true hb
      obtain ⟨h1, h2, h3⟩ := preLen_ok (ms := ms) (i := i + 1) (z := z) (by omega)
      refine ⟨h1, by simp; omega, fun j m hj hle q hq => ?_⟩
      cases j with
      | zero =>
        simp at hj; subst hj
        have : (x % 2 ^ i).testBit q = true := by
          rw [hb, Nat.testBit_two_pow_sub_one]; simpa using hq
        rw [Nat.testBit_mod_two_pow] at this
        simp at this
        exact this.2
      | succ j => exact h3 j m (by simpa using hj) (by omega) q (by omega)
    · obtain ⟨h1, h2, h3⟩ := preLen_ok (ms := ms) (i := i + 1) (z := i + 1) (Nat.le_refl _)
      refine ⟨by omega, by simp; omega, fun j m hj hle q hq => ?_⟩
      cases j with
      | zero => omega
      | succ j => exact h3 j m (by simpa using hj) (by omega) q (by omega)
def pre : List Oper → Nat → List Oper
  | o :: l, n + 1 => o :: pre l n
  | _, _ => []
theorem pre_get [Val] : ∀ {l : List Oper} {n i : Nat}, i < n → (pre l n)[i]? = l[i]?
  | [], 0, _, h => by omega
  | [], _ + 1, _, _ => by simp [pre]
  | _ :: _, 0, _, h => by omega
  | _ :: l, n + 1, 0, _ => by simp [pre]
  | _ :: l, n + 1, i + 1, h => by simp [pre, pre_get (l := l) (n := n) (i := i) (by omega)]
theorem pre_length [Val] : ∀ {l : List Oper} {n : Nat}, n ≤ l.length → (pre l n).length = n
  | [], 0, _ => rfl
  | [], _ + 1, h => by simp at h
  | _ :: _, 0, _ => rfl
  | _ :: l, n + 1, h => by simp [pre, pre_length (l := l) (n := n) (by simpa using h)]
def rangeF : Nat → Nat → List Nat
  | _, 0 => []
  | i, n + 1 => i :: rangeF (i + 1) n
theorem rangeF_eq [Val] : ∀ {n i : Nat}, rangeF i n = List.range' i n
  | 0, _ => rfl
  | n + 1, i => by rw [rangeF, List.range'_succ, rangeF_eq]
/-- A region that draws, by the order of its text; none: its parts may meet. -/
def sDraw (P : Program) (cal : Callee) : Dr := fun ops tmps ents next hi log =>
  match masks [] ops.toList with
  | ms => match preLen ms 0 0 with
    | z => match Nat.ble next hi, dAll P cal ops hi (pre ops.toList z) ⟨tmps, ents, next, log⟩ with
      | true, some (fs, ss) => match edgesAll 0 ops.toList, pairsAll [] fs ms with
        | true, true => match lastS ⟨tmps, ents, next, log⟩ ss with
          | ⟨t, e, n, l⟩ => some (t, e, n, l, rangeF z (ops.size - z))
        | _, _ => none
      | _, _ => none
section
variable {P : Program}
theorem dAll_spec [Val] {cal : Callee} {ops : Array Oper} {hi : Nat} : ∀ {l : List Oper} {s : St} {fs : List Foot} {ss : List St}, dAll P cal ops hi l s = some (fs, ss) → fs.length = l.length ∧ ss.length = l.length ∧
    ∀ (i : Nat) (o : Oper), l[i]? = some o → ∃ si s' f, (s :: ss)[i]? = some si ∧ ss[i]? = some s' ∧ fs[i]? = some f ∧ dOne P cal ops hi o si = some (s', f)
  | [], s, _, _, h => by simp only [dAll, Option.some.injEq, Prod.mk.injEq] at h; obtain ⟨rfl, rfl⟩ := h; simp
  | o :: l, s, _, _, h => by
    unfold dAll at h
    split at h <;> try cases h
    rename_i s' f hs
    split at h <;> cases h
    rename_i fs ss hl
    obtain ⟨h1, h2, h3⟩ := dAll_spec hl
    refine ⟨by simp [h1], by simp [h2], fun i o' ho => ?_⟩
    cases i with
    | zero => simp at ho; subst ho; exact ⟨s, s', f, rfl, rfl, rfl, hs⟩
    | succ i =>
      obtain ⟨si, s2, f2, e1, e2, e3, e4⟩ := h3 i o' (by simpa using ho)
      exact ⟨si, s2, f2, by simpa using e1, by simpa using e2, by simpa using e3, e4⟩
theorem lastS_eq [Val] : ∀ (ss : List St) (s : St), lastS s ss = ((s :: ss)[ss.length]?).getD s
  | [], s => by simp [lastS]
  | x :: ss, s => by rw [lastS, lastS_eq ss x]; simp
/-- What a region leaves: names that it did not touch stand. -/
def DrLog (dr : Dr) : Prop := ∀ ops tmps ents next hi log tmps' ents' next' log' rest, dr ops tmps ents next hi log = some (tmps', ents', next', log', rest) → ∀ h, h ∉ log' → h ∉ log ∧ find ents' h = find ents h
theorem sDraw_ok [Val] (hok : FnOk P) (hm : P.follows .mixedOrders = true) {cal : Callee} (hcal : CalleeOk P cal) : DrOk P (sDraw P cal) ∧ DrLog (sDraw P cal) := by
  have key : ∀ ops tmps ents next hi log tmps' ents' next' log' rest, sDraw P cal ops tmps ents next hi log = some (tmps', ents', next', log', rest) → ∃ st ft z, Plan P ops st ft hi z ∧ st 0 = ⟨tmps, ents, next, log⟩ ∧ st z = ⟨tmps', ents', next', log'⟩ ∧ rest = List.range' z (ops.size - z) ∧
      ∀ i, i < z → ∀ h, h ∉ (st (i + 1)).log → h ∉ (st i).log ∧ find (st (i + 1)).ents h = find (st i).ents h := by
    intro ops tmps ents next hi log tmps' ents' next' log' rest h
    unfold sDraw at h
    dsimp only at h
    generalize hz : preLen (masks [] ops.toList) 0 0 = z at h
    have hmk := masks_ok (ops := ops) (l := ops.toList) (ms := []) (fun i => by simp) (fun j m i hj => by simp at hj)
    obtain ⟨z1, z2, z3⟩ := preLen_ok (ms := masks [] ops.toList) (Nat.le_refl 0)
    rw [hz] at z1 z2 z3
    have hmlen : (masks [] ops.toList).length = ops.size := by rw [hmk.1]; simp
    have hzle : z ≤ ops.size := by omega
    split at h <;> try (cases h; done)
    rename_i fs ss hble hd
    have hble := Nat.le_of_ble_eq_true hble
    split at h <;> try (cases h; done)
    rename_i hed hpa
    generalize hlast : lastS ⟨tmps, ents, next, log⟩ ss = L at h
    obtain ⟨t, e, n, l⟩ := L
    cases h
    obtain ⟨g1, g2, g3⟩ := dAll_spec hd
    generalize hs0 : (⟨tmps, ents, next, log⟩ : St) = s0 at *
    have hsz : (pre ops.toList z).length = z := pre_length (by simpa using hzle)
    rw [hsz] at g1 g2
    let st : Nat → St := fun i => ((s0 :: ss)[i]?).getD s0
    let ft : Nat → Foot := fun i => (fs[i]?).getD ⟨[], none, false, [], []⟩
    have each : ∀ i, i < z → ∃ o, ops[i]? = some o ∧ dOne P cal ops hi o (st i) = some (st (i + 1), ft i) := fun i hi' => by
      have hi2 : i < ops.size := by omega
      have ho : (pre ops.toList z)[i]? = some ops[i] := by rw [pre_get hi']; simp [hi2]
      obtain ⟨si, s', f, e1, e2, e3, e4⟩ := g3 i _ ho
      refine ⟨ops[i], by simp [hi2], ?_⟩
      have f1 : st i = si := by simp only [st, e1, Option.getD_some]
      have f2 : st (i + 1) = s' := by simp only [st, List.getElem?_cons_succ, e2, Option.getD_some]
      have f3 : ft i = f := by simp only [ft, e3, Option.getD_some]
      rw [f1, f2, f3]; exact e4
    have good : ∀ i, i < z → ∃ o, ops[i]? = some o ∧ OpSem P ops i (st i) (st (i + 1)) (ft i) ∧ Next1 (st i) (st (i + 1)) (ft i) o hi := fun i hi' => by
      obtain ⟨o, ho, hd1⟩ := each i hi'
      obtain ⟨q1, q2⟩ := dOne_ok hok hcal ho hd1
      exact ⟨o, ho, q1, q2⟩
    have hle : ∀ k, k ≤ z → (st k).next ≤ hi := fun k => by
      induction k with
      | zero => intro _; simp only [st, List.getElem?_cons_zero, Option.getD_some]; rw [← hs0]; exact hble
      | succ k ih =>
        intro hk
        obtain ⟨o, _, _, n1⟩ := good k (by omega)
        have := n1.le
        have := ih (by omega)
        omega
    have hmj : ∀ j, j < ops.size → ∃ m, (masks [] ops.toList)[j]? = some m := fun j hj => by
      have : j < (masks [] ops.toList).length := by omega
      exact ⟨_, List.getElem?_eq_getElem this⟩
    refine ⟨st, ft, z, ⟨fun i hi' => ?_, fun i hi' => ?_, hle _ (Nat.le_refl _), fun i hi' => ?_, fun i hi' => ?_, fun i hi' => ?_, fun i o ho e he hb => ?_, fun i j hij hj => ?_, hzle, fun j hj1 hj2 i hij => ?_⟩, ?_, ?_, rangeF_eq, fun i hi' h hh => ?_⟩
    · obtain ⟨o, _, q, _⟩ := good i hi'; exact q
    · obtain ⟨o, _, _, q⟩ := good i hi'; exact q.next
    · obtain ⟨o, _, _, q⟩ := good i hi'; exact q.len
    · obtain ⟨o, _, _, q⟩ := good i hi'; exact q.tmp
    · obtain ⟨o, _, _, q⟩ := good i hi'; exact q.heap
    · have := edgesAll_ok hed i o (by simpa using ho) e he hb
      simpa using this
    · have hfi : fs[i]? = some (ft i) := by
        have : i < fs.length := by omega
        simp only [ft, List.getElem?_eq_getElem this, Option.getD_some]
      have hfj : fs[j]? = some (ft j) := by
        have : j < fs.length := by omega
        simp only [ft, List.getElem?_eq_getElem this, Option.getD_some]
      obtain ⟨m, hmj⟩ := hmj j (by omega)
      rcases pairsAll_ok hpa i j (ft i) (ft j) m (by simpa using hij) (by simpa using hfi) hfj hmj with hb | hc
      · exact .inl (hmk.2 j m i hmj hb)
      · exact .inr hc
    · obtain ⟨m, hm⟩ := hmj j hj2
      exact hmk.2 j m i hm (z3 j m hm (by omega) i (by omega))
    · simp only [st, List.getElem?_cons_zero, Option.getD_some]
    · rw [← hlast, lastS_eq, g2]
    · obtain ⟨o, _, _, q⟩ := good i hi'
      obtain ⟨r1, r2⟩ := q.log h hh
      exact ⟨r1, q.heap h r2⟩
  refine ⟨?_, ?_⟩
  · intro ops tmps ents next hi log tmps' ents' next' log' rest h ρ X w0 F lo cs fn tm k ds kd ro w t htm hd hF
    obtain ⟨st, ft, z, p, h0, hn, rfl, _⟩ := key _ _ _ _ _ _ _ _ _ _ _ h
    have hF0 : FrOk F lo (st 0).next hi := by rw [h0]; exact hF
    have hsch : Region.schedule (P.follows .mixedOrders) ops t = Region.linearise.go .any ops ops.size t (Array.replicate ops.size false) [] := by
      simp only [Region.schedule, hm, Bool.true_or, if_true, Region.linearise]
    rw [hsch]
    have hD0 : ∀ i, (Array.replicate ops.size false).getD i false = false := fun i => by
      simp only [Array.getD_eq_getD_getElem?, Array.getElem?_replicate]
      split <;> rfl
    have m0T : ∀ k t, mixT (fun i => (Array.replicate ops.size false).getD i false) st ft k t = nth (st 0).tmps t := fun k t => by
      induction k with
      | zero => rfl
      | succ k ih => rw [mixT, if_neg (by simp [hD0]), ih]
    have m0H : ∀ k t, mixH (fun i => (Array.replicate ops.size false).getD i false) st ft k t = find (st 0).ents t := fun k t => by
      induction k with
      | zero => rfl
      | succ k ih => rw [mixH, if_neg (by simp [hD0]), ih]
    obtain ⟨ρ', tm', w', g1, g2, g3, g4⟩ := p.all hF0 (X := X) (w0 := w0) cs fn k ds kd ro ops.size t (Array.replicate ops.size false) ρ tm w (by simp) (cnt_le _ _) (fun j o e hj => by rw [show (fun i => (Array.replicate ops.size false).getD i false) j = false from hD0 j] at hj; cases hj) (fun i _ => hD0 i)
      ⟨by rw [h0]; have := denL_length htm; simpa using this, fun t x hx => by
        rw [m0T, h0] at hx
        rw [nth_eq] at hx
        obtain ⟨v, q1, q2⟩ := denL_get htm hx
        exact ⟨v, by simpa using q1, q2⟩, (hd.congr fun h => by rw [m0H, h0]).fresh_mono fun q hq => ⟨hq.1, by have := hq.2.1; rw [h0] at this; exact this⟩⟩
    rw [hn] at g3 g4
    have hnext := p.next_mono (Nat.zero_le z) (Nat.le_refl _)
    rw [h0, hn] at hnext
    exact ⟨ρ', tm', w', g1, g2, g3, g4, hnext⟩
  · intro ops tmps ents next hi log tmps' ents' next' log' rest h x hx
    obtain ⟨st, ft, z, p, h0, hn, _, hl⟩ := key _ _ _ _ _ _ _ _ _ _ _ h
    have down : ∀ k, k ≤ z → x ∉ (st (z - k)).log ∧ find (st z).ents x = find (st (z - k)).ents x := fun k => by
      induction k with
      | zero => intro _; rw [Nat.sub_zero, hn]; exact ⟨hx, rfl⟩
      | succ k ih =>
        intro hk
        obtain ⟨i1, i2⟩ := ih (by omega)
        have := hl (z - (k + 1)) (by omega) x (by rw [show z - (k + 1) + 1 = z - k by omega]; exact i1)
        rw [show z - (k + 1) + 1 = z - k by omega] at this
        exact ⟨this.1, i2.trans this.2⟩
    obtain ⟨d1, d2⟩ := down z (Nat.le_refl _)
    rw [Nat.sub_self, h0] at d1 d2
    rw [hn] at d2
    exact ⟨d1, d2⟩
end
end Go.Sx
