/- Parts of the proof: Sx18. -/
import Derived.Test.YtnoiijjkjcklpaaGreatZ8
import Derived.Orders
/- Regions that draw their order: a plan by the order of the text serves every order, where what is not ordered does not meet. -/
namespace Go.Sx
set_option linter.unusedSimpArgs false
set_option linter.unusedVariables false
open Go Go.RowKit Go.Cd Go.Proofs.YtnoiijjkjcklpaaGreat Go.MapKept

structure St where
  tmps : List SV
  ents : Ents
  next : Nat
  log : List Nat
structure Foot where
  rt : List Nat
  wt : Option Nat
  all : Bool
  rh : List Nat
  wh : List Nat
  need : List Bm := []
def OpSem [Val] (P : Program) (ops : Array Oper) (i : Nat) (s s' : St) (f : Foot) : Prop :=
  ∀ (ρ : Env) (X : Nat → Prop) (w0 : World) (F : Nat → Prop) (look : Look) (cs : List Frame) (fn : FuncId) (tm : Array Value) (rest : List Nat) (k : List Item) (ds : List Deferred) (kd : CallKind) (ro : Option Nat) (w : World),
    (∀ t ∈ f.rt, (∀ x, nth s.tmps t = some x → ∃ v, tm[t]? = some v ∧ x.Den ρ v) ∧ (nth s.tmps t = none → tm[t]? = none)) →
    (f.all = true → ∀ h, look h = find s.ents h) → (∀ h ∈ f.rh, look h = find s.ents h) → DenH ρ X w0 look F w → (∀ j, s.next ≤ j → j < s'.next → F j) →
    ∃ ρ' v w', ρ.le ρ' ∧ Steps P (lone ⟨fn, tm, .inRegion ops (i :: rest) :: k, ds, .run, kd, ro⟩ cs w) (lone ⟨fn, putD tm f.wt v, .inRegion ops rest :: k, ds, .run, kd, ro⟩ cs w') ∧
      (∀ x d, f.wt = some d → nth s'.tmps d = some x → x.Den ρ' v) ∧
      DenH ρ' X w0 (fun h => if h ∈ f.wh then find s'.ents h else look h) (fun j => F j ∧ ¬ (s.next ≤ j ∧ j < s'.next)) w'
inductive Bef (ops : Array Oper) : Nat → Nat → Prop
  | edge {j : Nat} {o : Oper} {e : Edge} (h : ops[j]? = some o) (he : e ∈ o.after) (hb : Region.binds .any e = true) : Bef ops e.on j
  | step {i j : Nat} {o : Oper} {e : Edge} (h : ops[j]? = some o) (he : e ∈ o.after) (hb : Region.binds .any e = true) (hi : Bef ops i e.on) : Bef ops i j
structure NoConf (a b : Foot) : Prop where
  t1 : ∀ t, a.wt = some t → t ∉ b.rt ∧ b.wt ≠ some t
  t2 : ∀ t, b.wt = some t → t ∉ a.rt
  h1 : ∀ h ∈ a.wh, b.all = false ∧ h ∉ b.rh ∧ h ∉ b.wh
  h2 : ∀ h ∈ b.wh, a.all = false ∧ h ∉ a.rh
structure Plan [Val] (P : Program) (ops : Array Oper) (st : Nat → St) (ft : Nat → Foot) (hi z : Nat) : Prop where
  sem : ∀ i, i < z → OpSem P ops i (st i) (st (i + 1)) (ft i)
  next : ∀ i, i < z → (st i).next ≤ (st (i + 1)).next
  hi : (st z).next ≤ hi
  len : ∀ i, i < z → (st (i + 1)).tmps.length = (st i).tmps.length
  tmp : ∀ i, i < z → ∀ t, (ft i).wt ≠ some t → nth (st (i + 1)).tmps t = nth (st i).tmps t
  heap : ∀ i, i < z → ∀ h, h ∉ (ft i).wh → find (st (i + 1)).ents h = find (st i).ents h
  edge : ∀ i o, ops[i]? = some o → ∀ e ∈ o.after, Region.binds .any e = true → e.on < i
  conf : ∀ i j, i < j → j < z → Bef ops i j ∨ NoConf (ft i) (ft j)
  le : z ≤ ops.size
  tot : ∀ j, z ≤ j → j < ops.size → ∀ i, i < j → Bef ops i j
section
variable {P : Program} {ops : Array Oper} {st : Nat → St} {ft : Nat → Foot} {hi z : Nat}
def mixT (D : Nat → Bool) (st : Nat → St) (ft : Nat → Foot) : Nat → Nat → Option SV
  | 0, t => nth (st 0).tmps t
  | k + 1, t => if D k = true ∧ (ft k).wt = some t then nth (st (k + 1)).tmps t else mixT D st ft k t
def mixH (D : Nat → Bool) (st : Nat → St) (ft : Nat → Foot) : Nat → Nat → Option SObj
  | 0, h => find (st 0).ents h
  | k + 1, h => if D k = true ∧ h ∈ (ft k).wh then find (st (k + 1)).ents h else mixH D st ft k h
theorem mixT_low [Val] (p : Plan P ops st ft hi z) {D : Nat → Bool} {t : Nat} : ∀ {k : Nat}, k ≤ z → (∀ i, i < k → (ft i).wt = some t → D i = true) → mixT D st ft k t = nth (st k).tmps t
  | 0, _, _ => rfl
  | k + 1, hk, h => by
    rw [mixT, mixT_low p (by omega) fun i hi => h i (by omega)]
    split
    · rfl
    · rename_i hc
      refine (p.tmp k (by omega) t fun e => hc ⟨h k (by omega) e, e⟩).symm
theorem mixH_low [Val] (p : Plan P ops st ft hi z) {D : Nat → Bool} {t : Nat} : ∀ {k : Nat}, k ≤ z → (∀ i, i < k → t ∈ (ft i).wh → D i = true) → mixH D st ft k t = find (st k).ents t
  | 0, _, _ => rfl
  | k + 1, hk, h => by
    rw [mixH, mixH_low p (by omega) fun i hi => h i (by omega)]
    split
    · rfl
    · rename_i hc
      refine (p.heap k (by omega) t fun e => hc ⟨h k (by omega) e, e⟩).symm
theorem mixT_high [Val] {D : Nat → Bool} {t j : Nat} : ∀ {k : Nat}, j ≤ k → (∀ i, j ≤ i → i < k → D i = true → (ft i).wt ≠ some t) → mixT D st ft k t = mixT D st ft j t
  | 0, hk, _ => by rw [show j = 0 by omega]
  | k + 1, hk, h => by
    by_cases e : j = k + 1
    · rw [e]
    · rw [mixT, if_neg (fun q => h k (by omega) (by omega) q.1 q.2)]
      exact mixT_high (by omega) fun i h1 h2 => h i h1 (by omega)
theorem mixH_high [Val] {D : Nat → Bool} {t j : Nat} : ∀ {k : Nat}, j ≤ k → (∀ i, j ≤ i → i < k → D i = true → t ∉ (ft i).wh) → mixH D st ft k t = mixH D st ft j t
  | 0, hk, _ => by rw [show j = 0 by omega]
  | k + 1, hk, h => by
    by_cases e : j = k + 1
    · rw [e]
    · rw [mixH, if_neg (fun q => h k (by omega) (by omega) q.1 q.2)]
      exact mixH_high (by omega) fun i h1 h2 => h i h1 (by omega)
theorem mixT_add [Val] {D D' : Nat → Bool} {j : Nat} (hD : ∀ k, D' k = if k = j then true else D k) (hj : D j = false) {t : Nat} (hw : ∀ k, j < k → D k = true → (ft k).wt = some t → (ft j).wt ≠ some t) : ∀ {k : Nat},
    mixT D' st ft k t = if j < k ∧ (ft j).wt = some t then nth (st (j + 1)).tmps t else mixT D st ft k t
  | 0 => by rw [if_neg (by omega)]; rfl
  | k + 1 => by
    rw [mixT, mixT, mixT_add hD hj hw (k := k), hD]
    by_cases e : k = j
    · subst e
      simp only [if_true, true_and, hj]
      by_cases e2 : (ft k).wt = some t
      · rw [if_pos e2, if_pos ⟨by omega, e2⟩]
      · rw [if_neg e2, if_neg (by omega), if_neg (fun q => e2 q.2), if_neg (by simp)]
    · rw [if_neg e]
      by_cases e3 : D k = true ∧ (ft k).wt = some t
      · rw [if_pos e3]
        by_cases e4 : j < k
        · rw [if_neg (fun q => hw k e4 e3.1 e3.2 q.2), if_pos e3]
        · rw [if_neg (by omega), if_pos e3]
      · rw [if_neg e3, if_neg e3]
        by_cases e4 : j < k
        · by_cases e5 : (ft j).wt = some t
          · rw [if_pos ⟨e4, e5⟩, if_pos ⟨by omega, e5⟩]
          · rw [if_neg (fun q => e5 q.2), if_neg (fun q => e5 q.2)]
        · rw [if_neg (fun q => e4 q.1), if_neg (by omega)]
theorem mixH_add [Val] {D D' : Nat → Bool} {j : Nat} (hD : ∀ k, D' k = if k = j then true else D k) (hj : D j = false) {t : Nat} (hw : ∀ k, j < k → D k = true → t ∈ (ft k).wh → t ∉ (ft j).wh) : ∀ {k : Nat},
    mixH D' st ft k t = if j < k ∧ t ∈ (ft j).wh then find (st (j + 1)).ents t else mixH D st ft k t
  | 0 => by rw [if_neg (by omega)]; rfl
  | k + 1 => by
    rw [mixH, mixH, mixH_add hD hj hw (k := k), hD]
    by_cases e : k = j
    · subst e
      simp only [if_true, true_and, hj]
      by_cases e2 : t ∈ (ft k).wh
      · rw [if_pos e2, if_pos ⟨by omega, e2⟩]
      · rw [if_neg e2, if_neg (by omega), if_neg (fun q => e2 q.2), if_neg (by simp)]
    · rw [if_neg e]
      by_cases e3 : D k = true ∧ t ∈ (ft k).wh
      · rw [if_pos e3]
        by_cases e4 : j < k
        · rw [if_neg (fun q => hw k e4 e3.1 e3.2 q.2), if_pos e3]
        · rw [if_neg (by omega), if_pos e3]
      · rw [if_neg e3, if_neg e3]
        by_cases e4 : j < k
        · by_cases e5 : t ∈ (ft j).wh
          · rw [if_pos ⟨e4, e5⟩, if_pos ⟨by omega, e5⟩]
          · rw [if_neg (fun q => e5 q.2), if_neg (fun q => e5 q.2)]
        · rw [if_neg (fun q => e4 q.1), if_neg (by omega)]
def Down (ops : Array Oper) (D : Nat → Bool) : Prop := ∀ j o e, D j = true → ops[j]? = some o → e ∈ o.after → Region.binds .any e = true → D e.on = true
theorem Bef.down [Val] {D : Nat → Bool} (hD : Down ops D) {i j : Nat} (h : Bef ops i j) : D j = true → D i = true := by
  induction h with
  | edge h he hb => exact fun hj => hD _ _ _ hj h he hb
  | step h he hb _ ih => exact fun hj => ih (hD _ _ _ hj h he hb)
theorem Bef.ready [Val] {D : Nat → Bool} (hD : Down ops D) {i j : Nat} (h : Bef ops i j) (hr : ∀ o, ops[j]? = some o → ∀ e ∈ o.after, Region.binds .any e = true → D e.on = true) : D i = true := by
  cases h with
  | edge h he hb => exact hr _ h _ he hb
  | step h he hb hi => exact hi.down hD (hr _ h _ he hb)
theorem Plan.next_mono [Val] (p : Plan P ops st ft hi z) {i j : Nat} (hij : i ≤ j) (hj : j ≤ z) : (st i).next ≤ (st j).next := by
  induction j with
  | zero => rw [show i = 0 by omega]; exact Nat.le_refl _
  | succ j ih =>
    by_cases e : i = j + 1
    · rw [e]; exact Nat.le_refl _
    · exact Nat.le_trans (ih (by omega) (by omega)) (p.next j (by omega))
theorem Plan.len_eq [Val] (p : Plan P ops st ft hi z) {j : Nat} (hj : j ≤ z) : (st j).tmps.length = (st 0).tmps.length := by
  induction j with
  | zero => rfl
  | succ j ih => rw [p.len j (by omega), ih (by omega)]
structure Mix [Val] (z : Nat) (st : Nat → St) (ft : Nat → Foot) (F : Nat → Prop) (lo : Nat) (D : Nat → Bool) (ρ : Env) (X : Nat → Prop) (w0 : World) (tm : Array Value) (w : World) : Prop where
  size : tm.size = (st 0).tmps.length
  tmps : ∀ t x, mixT D st ft z t = some x → ∃ v, tm[t]? = some v ∧ x.Den ρ v
  heap : DenH ρ X w0 (mixH D st ft z) (fun j => F j ∧ (j < lo ∨ (st 0).next ≤ j) ∧ ∀ i, i < z → D i = true → ¬ ((st i).next ≤ j ∧ j < (st (i + 1)).next)) w
theorem nth_none [Val] {l : List SV} {t : Nat} : nth l t = none ↔ l.length ≤ t := by rw [nth_eq]; simp
theorem Plan.one [Val] (p : Plan P ops st ft hi z) {F : Nat → Prop} {lo : Nat} (hF : FrOk F lo (st 0).next hi) {D D' : Nat → Bool} (hdn : Down ops D) {j : Nat} (hj : j < z) (hDj : D j = false) (hr : ∀ o, ops[j]? = some o → ∀ e ∈ o.after, Region.binds .any e = true → D e.on = true)
    (hD' : ∀ k, D' k = if k = j then true else D k) {ρ : Env} {X : Nat → Prop} {w0 : World} {tm : Array Value} {w : World} (m : Mix z st ft F lo D ρ X w0 tm w) (cs : List Frame) (fn : FuncId) (rest : List Nat) (k : List Item) (ds : List Deferred) (kd : CallKind) (ro : Option Nat) :
    ∃ ρ' tm' w', ρ.le ρ' ∧ Steps P (lone ⟨fn, tm, .inRegion ops (j :: rest) :: k, ds, .run, kd, ro⟩ cs w) (lone ⟨fn, tm', .inRegion ops rest :: k, ds, .run, kd, ro⟩ cs w') ∧ Mix z st ft F lo D' ρ' X w0 tm' w' := by
  -- what is ahead of j and not ordered does not meet it
  have hconf1 : ∀ i, i < j → D i = false → NoConf (ft i) (ft j) := fun i hij hDi => (p.conf i j hij hj).resolve_left fun hb => by rw [hb.ready hdn hr] at hDi; cases hDi
  have hconf2 : ∀ i, j < i → i < z → D i = true → NoConf (ft j) (ft i) := fun i hij hi hDi => (p.conf j i hij hi).resolve_left fun hb => by rw [hb.down hdn hDi] at hDj; cases hDj
  have hT : ∀ t, t ∈ (ft j).rt → mixT D st ft z t = nth (st j).tmps t := fun t ht => by
    rw [mixT_high (j := j) (by omega) fun i h1 h2 h3 => ?_]
    · refine mixT_low p (by omega) fun i h1 h2 => ?_
      cases hDi : D i with
      | true => rfl
      | false => exact absurd ht ((hconf1 i h1 hDi).t1 t h2).1
    · intro e
      by_cases hij : i = j
      · subst hij; rw [hDj] at h3; cases h3
      · exact (hconf2 i (by omega) h2 h3).t2 t e ht
  have hH : ∀ h, ((ft j).all = true ∨ h ∈ (ft j).rh) → mixH D st ft z h = find (st j).ents h := fun h hh => by
    rw [mixH_high (j := j) (by omega) fun i h1 h2 h3 => ?_]
    · refine mixH_low p (by omega) fun i h1 h2 => ?_
      cases hDi : D i with
      | true => rfl
      | false =>
        have := (hconf1 i h1 hDi).h1 h h2
        rcases hh with hh | hh
        · rw [this.1] at hh; cases hh
        · exact absurd hh this.2.1
    · intro e
      by_cases hij : i = j
      · subst hij; rw [hDj] at h3; cases h3
      · have := (hconf2 i (by omega) h2 h3).h2 h e
        rcases hh with hh | hh
        · rw [this.1] at hh; cases hh
        · exact this.2 hh
  have hn0 := p.next_mono (Nat.zero_le j) (by omega)
  have hnj := p.next j hj
  have hnn := p.next_mono (show j + 1 ≤ z by omega) (Nat.le_refl _)
  have hhi := p.hi
  have hlo := hF.1
  obtain ⟨ρ', v, w', h1, h2, h3, h4⟩ := p.sem j hj ρ X w0 _ (mixH D st ft z) cs fn tm rest k ds kd ro w (fun t ht => by
      refine ⟨fun x hx => m.tmps t x (by rw [hT t ht]; exact hx), fun hx => ?_⟩
      rw [nth_none, p.len_eq (by omega), ← m.size] at hx
      exact Array.getElem?_eq_none hx) (fun ha h => hH h (.inl ha)) (fun h hh => hH h (.inr hh)) m.heap (fun q q1 q2 => by
      refine ⟨hF.2 q (by omega) (by omega), .inr (by omega), fun i hi hDi hq => ?_⟩
      rcases Nat.lt_trichotomy i j with c | c | c
      · have := p.next_mono (show i + 1 ≤ j by omega) (by omega); omega
      · subst c; rw [hDj] at hDi; cases hDi
      · have := p.next_mono (show j + 1 ≤ i by omega) (by omega); omega)
  have hwT : ∀ t k, j < k → k < z → D k = true → (ft k).wt = some t → (ft j).wt ≠ some t := fun t k' c1 c2 c3 c4 c5 => ((hconf2 k' c1 c2 c3).t1 t c5).2 c4
  have hwH : ∀ t k, j < k → k < z → D k = true → t ∈ (ft k).wh → t ∉ (ft j).wh := fun t k' c1 c2 c3 c4 c5 => ((hconf2 k' c1 c2 c3).h1 t c5).2.2 c4
  -- the same with all k: beyond the operations nothing counts
  let Dn : Nat → Bool := fun k => D k && decide (k < z)
  have cut : ∀ (E : Nat → Bool) (k : Nat), k ≤ z → (∀ t, mixT (fun q => E q && decide (q < z)) st ft k t = mixT E st ft k t) ∧ (∀ t, mixH (fun q => E q && decide (q < z)) st ft k t = mixH E st ft k t) := fun E k => by
    induction k with
    | zero => exact fun _ => ⟨fun _ => rfl, fun _ => rfl⟩
    | succ k ih =>
      intro hk
      obtain ⟨i1, i2⟩ := ih (by omega)
      have hd : decide (k < z) = true := by simpa using (by omega : k < z)
      exact ⟨fun t => by simp only [mixT, i1 t, hd, Bool.and_true], fun t => by simp only [mixH, i2 t, hd, Bool.and_true]⟩
  have addT : ∀ t, mixT D' st ft z t = if (ft j).wt = some t then nth (st (j + 1)).tmps t else mixT D st ft z t := fun t => by
    rw [← (cut D' _ (Nat.le_refl _)).1, ← (cut D _ (Nat.le_refl _)).1]
    rw [mixT_add (D := fun q => D q && decide (q < z)) (j := j) (fun k => ?_) (by simp [hDj]) (fun k c1 c2 c3 => ?_)]
    · by_cases e : (ft j).wt = some t
      · rw [if_pos ⟨hj, e⟩, if_pos e]
      · rw [if_neg (fun q => e q.2), if_neg e]
    · rw [hD']
      by_cases e : k = j
      · subst e; simp [hj]
      · simp [e]
    · simp at c2
      exact hwT t k c1 c2.2 c2.1 c3
  have addH : ∀ t, mixH D' st ft z t = if t ∈ (ft j).wh then find (st (j + 1)).ents t else mixH D st ft z t := fun t => by
    rw [← (cut D' _ (Nat.le_refl _)).2, ← (cut D _ (Nat.le_refl _)).2]
    rw [mixH_add (D := fun q => D q && decide (q < z)) (j := j) (fun k => ?_) (by simp [hDj]) (fun k c1 c2 c3 => ?_)]
    · by_cases e : t ∈ (ft j).wh
      · rw [if_pos ⟨hj, e⟩, if_pos e]
      · rw [if_neg (fun q => e q.2), if_neg e]
    · rw [hD']
      by_cases e : k = j
      · subst e; simp [hj]
      · simp [e]
    · simp at c2
      exact hwH t k c1 c2.2 c2.1 c3
  refine ⟨ρ', _, w', h1, h2, ?_, ?_, ?_⟩
  · rw [← m.size]
    cases (ft j).wt <;> simp [putD]
  · intro t x hx
    rw [addT] at hx
    by_cases e : (ft j).wt = some t
    · rw [if_pos e] at hx
      refine ⟨v, ?_, h3 x t e hx⟩
      rw [e]
      have hlt : t < tm.size := by
        rw [m.size, ← p.len_eq (show j + 1 ≤ z by omega)]
        rcases Nat.lt_or_ge t (st (j + 1)).tmps.length with c | c
        · exact c
        · rw [nth_none.2 c] at hx; cases hx
      simp [putD, hlt]
    · rw [if_neg e] at hx
      obtain ⟨u, hu, hxu⟩ := m.tmps t x hx
      refine ⟨u, ?_, hxu.mono h1⟩
      cases hw : (ft j).wt with
      | none => exact hu
      | some d =>
        have : d ≠ t := fun q => e (by rw [hw, q])
        simp only [putD]
        rw [Array.getElem?_setIfInBounds_ne this]
        exact hu
  · refine (h4.congr fun h => ?_).fresh_mono fun q hq => ?_
    · rw [addH]
    · obtain ⟨q1, q2, q3⟩ := hq
      refine ⟨⟨q1, q2, fun i hi hDi => q3 i hi ?_⟩, q3 j hj ?_⟩
      · rw [hD']; split
        · rfl
        · exact hDi
      · rw [hD', if_pos rfl]
def cnt (D : Nat → Bool) : Nat → Nat
  | 0 => 0
  | k + 1 => cnt D k + if D k = true then 0 else 1
theorem cnt_zero [Val] {D : Nat → Bool} : ∀ {n : Nat}, cnt D n = 0 → ∀ k, k < n → D k = true
  | 0, _, k, hk => by omega
  | n + 1, h, k, hk => by
    rw [cnt] at h
    by_cases e : k = n
    · subst e
      by_cases c : D k = true
      · exact c
      · rw [if_neg c] at h; omega
    · exact cnt_zero (n := n) (by omega) k (by omega)
theorem cnt_add [Val] {D D' : Nat → Bool} {j : Nat} (hD : ∀ k, D' k = if k = j then true else D k) (hj : D j = false) : ∀ {n : Nat}, cnt D n = cnt D' n + if j < n then 1 else 0
  | 0 => by simp [cnt]
  | n + 1 => by
    rw [cnt, cnt, cnt_add hD hj (n := n), hD]
    by_cases e : n = j
    · subst e; simp [hj]
    · rw [if_neg e]
      by_cases c : j < n
      · rw [if_pos c, if_pos (show j < n + 1 by omega)]; omega
      · rw [if_neg c, if_neg (show ¬ j < n + 1 by omega)]; omega
theorem cnt_le [Val] (D : Nat → Bool) : ∀ n, cnt D n ≤ n
  | 0 => Nat.le_refl _
  | n + 1 => by rw [cnt]; have := cnt_le D n; split <;> omega
theorem ready_iff [Val] {listed : Array Bool} (hsz : listed.size = ops.size) (i : Nat) : i ∈ Region.ready .any ops listed ↔ i < ops.size ∧ listed.getD i false = false ∧ ∀ o, ops[i]? = some o → ∀ e ∈ o.after, Region.binds .any e = true → listed.getD e.on false = true := by
  unfold Region.ready
  rw [List.mem_filter, List.mem_range]
  constructor
  · rintro ⟨h1, h2⟩
    rw [Bool.and_eq_true] at h2
    have hlt : i < listed.size := by omega
    refine ⟨h1, ?_, fun o ho e he hb => ?_⟩
    · have := h2.1
      simp [Array.getD, hlt] at this ⊢
      exact this
    · have h3 := h2.2
      rw [ho] at h3
      simp only [Option.map_some, Option.getD_some] at h3
      rw [Array.all_eq_true_iff_forall_mem] at h3
      have := h3 e he
      simpa [hb] using this
  · rintro ⟨h1, h2, h3⟩
    have hlt : i < listed.size := by omega
    refine ⟨h1, ?_⟩
    rw [Bool.and_eq_true]
    refine ⟨?_, ?_⟩
    · simp [Array.getD, hlt] at h2 ⊢
      exact h2
    · have ho : ops[i]? = some ops[i] := by simp [h1]
      rw [ho]
      simp only [Option.map_some, Option.getD_some]
      rw [Array.all_eq_true_iff_forall_mem]
      intro e he
      cases hb : Region.binds .any e with
      | false => rfl
      | true => simpa using h3 _ ho e he hb
theorem getD_set [Val] {listed : Array Bool} {j : Nat} (hj : j < listed.size) (q : Nat) : (listed.setIfInBounds j true).getD q false = if q = j then true else listed.getD q false := by
  simp only [Array.getD_eq_getD_getElem?, Array.getElem?_setIfInBounds]
  by_cases e : j = q
  · subst e
    simp [hj]
  · simp [e, Ne.symm e]
theorem ready_none [Val] {listed : Array Bool} {t : Nat} (h : (Region.ready .any ops listed)[t % (Region.ready .any ops listed).length]? = none) : Region.ready .any ops listed = [] := by
  cases hr : Region.ready .any ops listed with
  | nil => rfl
  | cons x xs =>
    rw [hr] at h
    have hlt : t % (x :: xs).length < (x :: xs).length := Nat.mod_lt _ (by simp)
    simp at h
    simp at hlt
    omega
theorem Plan.tail [Val] (p : Plan P ops st ft hi z) : ∀ (fuel t : Nat) (listed : Array Bool) (j : Nat), listed.size = ops.size → (∀ i, listed.getD i false = decide (i < j)) → z ≤ j → j ≤ ops.size → ops.size - j ≤ fuel →
    Region.linearise.go .any ops fuel t listed [] = List.range' j (ops.size - j)
  | 0, t, listed, j, hsz, hl, hz, hj, hf => by
    have : ops.size - j = 0 := by omega
    rw [this]; simp [Region.linearise.go]
  | fuel + 1, t, listed, j, hsz, hl, hz, hj, hf => by
    have hdn : Down ops (fun i => listed.getD i false) := fun q o e hq ho he hb => by
      simp only [hl, decide_eq_true_eq] at hq ⊢
      have := p.edge q o ho e he hb
      omega
    have hr : ∀ i, i ∈ Region.ready .any ops listed → i = j := fun i hi => by
      obtain ⟨h1, h2, h3⟩ := (ready_iff hsz i).1 hi
      rw [hl] at h2
      have h2 : ¬ i < j := by simpa using h2
      rcases Nat.lt_or_ge j i with c | c
      · have hb := p.tot i (by omega) h1 j c
        have := hb.ready (D := fun i => listed.getD i false) hdn h3
        simp only [hl] at this
        simp at this
      · omega
    have hin : j < ops.size → j ∈ Region.ready .any ops listed := fun hj => (ready_iff hsz j).2 ⟨hj, by rw [hl]; simp, fun o ho e he hb => by
      rw [hl]; simpa using p.edge j o ho e he hb⟩
    simp only [Region.linearise.go]
    change (match (Region.ready .any ops listed)[t % (Region.ready .any ops listed).length]? with
      | some i => Region.linearise.go .any ops fuel (t / (Region.ready .any ops listed).length) (listed.setIfInBounds i true) [i]
      | none => [].reverse) = _
    cases hi' : (Region.ready .any ops listed)[t % (Region.ready .any ops listed).length]? with
    | none =>
      have hnil := ready_none hi'
      have : ops.size - j = 0 := by
        rcases Nat.lt_or_ge j ops.size with c | c
        · have := hin c; rw [hnil] at this; simp at this
        · omega
      rw [this]; rfl
    | some i =>
      obtain rfl := hr i (List.mem_of_getElem? hi')
      have hlt := ((ready_iff hsz i).1 (List.mem_of_getElem? hi')).1
      simp only []
      rw [linearise_go_acc, List.reverse_singleton, List.singleton_append]
      rw [p.tail fuel _ (listed.setIfInBounds i true) (i + 1) (by simpa using hsz) (fun q => by
        rw [getD_set (by omega), hl]
        by_cases e : q = i
        · subst e; simp
        · rw [if_neg e]
          have : (q < i) = (q < i + 1) := by simp; omega
          simp only [this]) (by omega) (by omega) (by omega)]
      rw [show ops.size - i = (ops.size - (i + 1)) + 1 by omega, List.range'_succ]
theorem Plan.all [Val] (p : Plan P ops st ft hi z) {F : Nat → Prop} {lo : Nat} (hF : FrOk F lo (st 0).next hi) {X : Nat → Prop} {w0 : World} (cs : List Frame) (fn : FuncId) (k : List Item) (ds : List Deferred) (kd : CallKind) (ro : Option Nat) :
    ∀ (fuel t : Nat) (listed : Array Bool) (ρ : Env) (tm : Array Value) (w : World), listed.size = ops.size → cnt (fun i => listed.getD i false) ops.size ≤ fuel → Down ops (fun i => listed.getD i false) → (∀ i, z ≤ i → listed.getD i false = false) → Mix z st ft F lo (fun i => listed.getD i false) ρ X w0 tm w →
      ∃ ρ' tm' w', ρ.le ρ' ∧ Steps P (lone ⟨fn, tm, .inRegion ops (Region.linearise.go .any ops fuel t listed []) :: k, ds, .run, kd, ro⟩ cs w) (lone ⟨fn, tm', .inRegion ops (List.range' z (ops.size - z)) :: k, ds, .run, kd, ro⟩ cs w') ∧
        SV.DenL ρ' (st z).tmps tm'.toList ∧ DenH ρ' X w0 (find (st z).ents) (Fr F lo (st z).next) w' := by
  have hzle := p.le
  have fin : ∀ (D : Nat → Bool) (ρ : Env) (tm : Array Value) (w : World), (∀ i, i < z → D i = true) → Mix z st ft F lo D ρ X w0 tm w → SV.DenL ρ (st z).tmps tm.toList ∧ DenH ρ X w0 (find (st z).ents) (Fr F lo (st z).next) w := fun D ρ tm w hall m => by
    refine ⟨denL_of_get (by rw [p.len_eq (Nat.le_refl _)]; simpa using m.size) fun t x hx => ?_, (m.heap.congr fun h => ?_).fresh_mono fun q hq => ?_⟩
    · rw [← nth_eq] at hx
      obtain ⟨v, h1, h2⟩ := m.tmps t x (by rw [mixT_low p (Nat.le_refl _) fun i h1 _ => hall i h1]; exact hx)
      exact ⟨v, by simpa using h1, h2⟩
    · exact (mixH_low p (Nat.le_refl _) fun i h1 _ => hall i h1).symm
    · obtain ⟨q1, q2⟩ := hq
      have := p.next_mono (Nat.zero_le z) (Nat.le_refl _)
      have hlo := hF.1
      refine ⟨q1, by omega, fun i hi hDi hqq => ?_⟩
      have := p.next_mono (show i + 1 ≤ z by omega) (Nat.le_refl _)
      have := p.next_mono (Nat.zero_le i) (by omega)
      omega
  -- all of the plan's are made: the others follow in their order
  have stop : ∀ (fuel t : Nat) (listed : Array Bool) (ρ : Env) (tm : Array Value) (w : World), listed.size = ops.size → ops.size - z ≤ fuel → (∀ i, i < z → listed.getD i false = true) → (∀ i, z ≤ i → listed.getD i false = false) → Mix z st ft F lo (fun i => listed.getD i false) ρ X w0 tm w →
      ∃ ρ' tm' w', ρ.le ρ' ∧ Steps P (lone ⟨fn, tm, .inRegion ops (Region.linearise.go .any ops fuel t listed []) :: k, ds, .run, kd, ro⟩ cs w) (lone ⟨fn, tm', .inRegion ops (List.range' z (ops.size - z)) :: k, ds, .run, kd, ro⟩ cs w') ∧
        SV.DenL ρ' (st z).tmps tm'.toList ∧ DenH ρ' X w0 (find (st z).ents) (Fr F lo (st z).next) w' := fun fuel t listed ρ tm w hsz hf hall hno m => by
    obtain ⟨f1, f2⟩ := fin _ ρ tm w hall m
    rw [p.tail fuel t listed z hsz (fun i => by
      rcases Nat.lt_or_ge i z with c | c
      · rw [hall i c]; simp [c]
      · rw [hno i c]; simp [Nat.not_lt.2 c]) (Nat.le_refl _) hzle hf]
    exact ⟨ρ, tm, w, Env.le_refl _, Steps.refl P _, f1, f2⟩
  intro fuel
  induction fuel with
  | zero =>
    intro t listed ρ tm w hsz hc hdn hno m
    have hall := cnt_zero (Nat.le_zero.1 hc)
    have : ops.size = z := by
      rcases Nat.lt_or_ge z ops.size with c | c
      · have h1 := hall z c; simp only [hno z (Nat.le_refl _)] at h1; cases h1
      · omega
    exact stop 0 t listed ρ tm w hsz (by omega) (fun i hi => hall i (by omega)) hno m
  | succ fuel ih =>
    intro t listed ρ tm w hsz hc hdn hno m
    have hready := ready_iff (ops := ops) hsz
    cases hi' : (Region.ready .any ops listed)[t % (Region.ready .any ops listed).length]? with
    | none =>
      have hnil := ready_none hi'
      have hall : ∀ i, i < ops.size → listed.getD i false = true := fun i => by
        induction i using Nat.strongRecOn with
        | _ i ihi =>
          intro hi2
          cases hl : listed.getD i false with
          | true => rfl
          | false =>
            have : i ∈ Region.ready .any ops listed := (hready i).2 ⟨hi2, hl, fun o ho e he hb => by
              have hlt := p.edge i o ho e he hb
              exact ihi e.on hlt (by omega)⟩
            rw [hnil] at this; simp at this
      have : ops.size = z := by
        rcases Nat.lt_or_ge z ops.size with c | c
        · have h1 := hall z c; rw [hno z (Nat.le_refl _)] at h1; cases h1
        · omega
      exact stop (fuel + 1) t listed ρ tm w hsz (by omega) (fun i hi => hall i (by omega)) hno m
    | some j =>
      obtain ⟨hj, hDj, hr⟩ := (hready j).1 (List.mem_of_getElem? hi')
      rcases Nat.lt_or_ge j z with hjz | hjz
      · simp only [Region.linearise.go]
        change ∃ ρ' tm' w', ρ.le ρ' ∧ Steps P (lone ⟨fn, tm, .inRegion ops (match (Region.ready .any ops listed)[t % (Region.ready .any ops listed).length]? with
          | some i => Region.linearise.go .any ops fuel (t / (Region.ready .any ops listed).length) (listed.setIfInBounds i true) [i]
          | none => [].reverse) :: k, ds, .run, kd, ro⟩ cs w) _ ∧ _
        rw [hi']
        simp only []
        rw [linearise_go_acc, List.reverse_singleton, List.singleton_append]
        have hD' := getD_set (listed := listed) (j := j) (by omega)
        obtain ⟨ρ1, tm1, w1, g1, g2, g3⟩ := p.one hF hdn hjz hDj hr hD' m cs fn (Region.linearise.go .any ops fuel (t / (Region.ready .any ops listed).length) (listed.setIfInBounds j true) []) k ds kd ro
        have hc' : cnt (fun i => (listed.setIfInBounds j true).getD i false) ops.size ≤ fuel := by
          have := cnt_add hD' hDj (n := ops.size)
          rw [if_pos hj] at this
          omega
        have hdn' : Down ops (fun i => (listed.setIfInBounds j true).getD i false) := fun q o e hq ho he hb => by
          simp only [hD'] at hq ⊢
          split
          · rfl
          · by_cases e2 : q = j
            · subst e2; exact hr o ho e he hb
            · rw [if_neg e2] at hq; exact hdn q o e hq ho he hb
        obtain ⟨ρ2, tm2, w2, k1, k2, k3, k4⟩ := ih (t / (Region.ready .any ops listed).length) (listed.setIfInBounds j true) ρ1 tm1 w1 (by simpa using hsz) hc' hdn' (fun i hi => by rw [hD', if_neg (by omega)]; exact hno i hi) g3
        exact ⟨ρ2, tm2, w2, Env.le_trans g1 k1, Steps.trans g2 k2, k3, k4⟩
      · -- one of the end is ready: then all ahead are made
        have hpre : ∀ i, i < j → listed.getD i false = true := fun i hij => (p.tot j hjz hj i hij).ready (D := fun i => listed.getD i false) hdn hr
        have hjz' : j = z := by
          rcases Nat.lt_or_ge z j with c | c
          · have := hpre z c; rw [hno z (Nat.le_refl _)] at this; cases this
          · omega
        subst hjz'
        have hcc : ∀ n, j ≤ n → cnt (fun i => listed.getD i false) n = n - j := fun n => by
          induction n with
          | zero => intro h; simp [cnt]
          | succ n ihn =>
            intro h
            rw [cnt]
            rcases Nat.lt_or_ge n j with c | c
            · have hn : n + 1 = j := by omega
              have h0 : ∀ q, q ≤ j → cnt (fun i => listed.getD i false) q = 0 := fun q => by
                induction q with
                | zero => intro _; rfl
                | succ q ihq => intro hq; rw [cnt, ihq (by omega), if_pos (hpre q (by omega))]
              rw [h0 n (by omega), if_pos (hpre n c)]; omega
            · rw [ihn c]
              have : listed.getD n false = false := hno n c
              simp only [this]
              simp; omega
        have := hcc ops.size hzle
        exact stop (fuel + 1) t listed ρ tm w hsz (by omega) hpre hno m
end
end Go.Sx
