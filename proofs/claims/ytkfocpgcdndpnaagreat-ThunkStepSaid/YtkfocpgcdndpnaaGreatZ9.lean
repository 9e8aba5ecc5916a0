/- Parts of the proof: Sx18, Sx19. -/
import Derived.Test.YtkfocpgcdndpnaaGreatZ8
import Derived.Orders
/- Regions that draw their order: a plan by the order of the text serves every order, where what is not ordered does not meet. -/
namespace Go.Sx
set_option linter.unusedSimpArgs false
set_option linter.unusedVariables false
open Go Go.RowKit Go.Cd Go.Proofs.YtkfocpgcdndpnaaGreat Go.MapKept

structure St where
  tmps : List SV
  ents : Ents
  next : Nat
  log : List Nat
structure Foot where
  rt : List Nat
  wt : Option Nat
  all : Bool
  rh : List Nat
  wh : List Nat
  need : List Bm := []
/-- What an operation does from one state to the next, wherever what it looks at is as there. -/
def OpSem [Val] (P : Program) (ops : Array Oper) (i : Nat) (s s' : St) (f : Foot) : Prop :=
  ∀ (ρ : Env) (X : Nat → Prop) (w0 : World) (F : Nat → Prop) (look : Look) (cs : List Frame) (fn : FuncId) (tm : Array Value) (rest : List Nat) (k : List Item) (ds : List Deferred) (kd : CallKind) (ro : Option Nat) (w : World),
    (∀ t ∈ f.rt, (∀ x, nth s.tmps t = some x → ∃ v, tm[t]? = some v ∧ x.Den ρ v) ∧ (nth s.tmps t = none → tm[t]? = none)) →
    (f.all = true → ∀ h, look h = find s.ents h) → (∀ h ∈ f.rh, look h = find s.ents h) → DenH ρ X w0 look F w → (∀ j, s.next ≤ j → j < s'.next → F j) →
    ∃ ρ' v w', ρ.le ρ' ∧ Steps P (lone ⟨fn, tm, .inRegion ops (i :: rest) :: k, ds, .run, kd, ro⟩ cs w) (lone ⟨fn, putD tm f.wt v, .inRegion ops rest :: k, ds, .run, kd, ro⟩ cs w') ∧
      (∀ x d, f.wt = some d → nth s'.tmps d = some x → x.Den ρ' v) ∧
      DenH ρ' X w0 (fun h => if h ∈ f.wh then find s'.ents h else look h) (fun j => F j ∧ ¬ (s.next ≤ j ∧ j < s'.next)) w'
inductive Bef (ops : Array Oper) : Nat → Nat → Prop
  | edge {j : Nat} {o : Oper} {e : Edge} (h : ops[j]? = some o) (he : e ∈ o.after) (hb : Region.binds .any e = true) : Bef ops e.on j
  | step {i j : Nat} {o : Oper} {e : Edge} (h : ops[j]? = some o) (he : e ∈ o.after) (hb : Region.binds .any e = true) (hi : Bef ops i e.on) : Bef ops i j
structure NoConf (a b : Foot) : Prop where
  t1 : ∀ t, a.wt = some t → t ∉ b.rt ∧ b.wt ≠ some t
  t2 : ∀ t, b.wt = some t → t ∉ a.rt
  h1 : ∀ h ∈ a.wh, b.all = false ∧ h ∉ b.rh ∧ h ∉ b.wh
  h2 : ∀ h ∈ b.wh, a.all = false ∧ h ∉ a.rh
structure Plan [Val] (P : Program) (ops : Array Oper) (st : Nat → St) (ft : Nat → Foot) (hi z : Nat) : Prop where
  sem : ∀ i, i < z → OpSem P ops i (st i) (st (i + 1)) (ft i)
  next : ∀ i, i < z → (st i).next ≤ (st (i + 1)).next
  hi : (st z).next ≤ hi
  len : ∀ i, i < z → (st (i + 1)).tmps.length = (st i).tmps.length
  tmp : ∀ i, i < z → ∀ t, (ft i).wt ≠ some t → nth (st (i + 1)).tmps t = nth (st i).tmps t
  heap : ∀ i, i < z → ∀ h, h ∉ (ft i).wh → find (st (i + 1)).ents h = find (st i).ents h
  edge : ∀ i o, ops[i]? = some o → ∀ e ∈ o.after, Region.binds .any e = true → e.on < i
  conf : ∀ i j, i < j → j < z → Bef ops i j ∨ NoConf (ft i) (ft j)
  le : z ≤ ops.size
  tot : ∀ j, z ≤ j → j < ops.size → ∀ i, i < j → Bef ops i j
section
variable {P : Program} {ops : Array Oper} {st : Nat → St} {ft : Nat → Foot} {hi z : Nat}
def mixT (D : Nat → Bool) (st : Nat → St) (ft : Nat → Foot) : Nat → Nat → Option SV
  | 0, t => nth (st 0).tmps t
  | k + 1, t => if D k = true ∧ (ft k).wt = some t then nth (st (k + 1)).tmps t else mixT D st ft k t
def mixH (D : Nat → Bool) (st : Nat → St) (ft : Nat → Foot) : Nat → Nat → Option SObj
  | 0, h => find (st 0).ents h
  | k + 1, h => if D k = true ∧ h ∈ (ft k).wh then find (st (k + 1)).ents h else mixH D st ft k h
theorem mixT_low [Val] (p : Plan P ops st ft hi z) {D : Nat → Bool} {t : Nat} : ∀ {k : Nat}, k ≤ z → (∀ i, i < k → (ft i).wt = some t → D i = true) → mixT D st ft k t = nth (st k).tmps t
  | 0, _, _ => rfl
  | k + 1, hk, h => by
    rw [mixT, mixT_low p (by omega) fun i hi => h i (by omega)]
    split
    · rfl
    · rename_i hc
      refine (p.tmp k (by omega) t fun e => hc ⟨h k (by omega) e, e⟩).symm
theorem mixH_low [Val] (p : Plan P ops st ft hi z) {D : Nat → Bool} {t : Nat} : ∀ {k : Nat}, k ≤ z → (∀ i, i < k → t ∈ (ft i).wh → D i = true) → mixH D st ft k t = find (st k).ents t
  | 0, _, _ => rfl
  | k + 1, hk, h => by
    rw [mixH, mixH_low p (by omega) fun i hi => h i (by omega)]
    split
    · rfl
    · rename_i hc
      refine (p.heap k (by omega) t fun e => hc ⟨h k (by omega) e, e⟩).symm
theorem mixT_high [Val] {D : Nat → Bool} {t j : Nat} : ∀ {k : Nat}, j ≤ k → (∀ i, j ≤ i → i < k → D i = true → (ft i).wt ≠ some t) → mixT D st ft k t = mixT D st ft j t
  | 0, hk, _ => by rw [show j = 0 by omega]
  | k + 1, hk, h => by
    by_cases e : j = k + 1
    · rw [e]
    · rw [mixT, if_neg (fun q => h k (by omega) (by omega) q.1 q.2)]
      exact mixT_high (by omega) fun i h1 h2 => h i h1 (by omega)
theorem mixH_high [Val] {D : Nat → Bool} {t j : Nat} : ∀ {k : Nat}, j ≤ k → (∀ i, j ≤ i → i < k → D i = true → t ∉ (ft i).wh) → mixH D st ft k t = mixH D st ft j t
  | 0, hk, _ => by rw [show j = 0 by omega]
  | k + 1, hk, h => by
    by_cases e : j = k + 1
    · rw [e]
    · rw [mixH, if_neg (fun q => h k (by omega) (by omega) q.1 q.2)]
      exact mixH_high (by omega) fun i h1 h2 => h i h1 (by omega)
theorem mixT_add [Val] {D D' : Nat → Bool} {j : Nat} (hD : ∀ k, D' k = if k = j then true else D k) (hj : D j = false) {t : Nat} (hw : ∀ k, j < k → D k = true → (ft k).wt = some t → (ft j).wt ≠ some t) : ∀ {k : Nat},
    mixT D' st ft k t = if j < k ∧ (ft j).wt = some t then nth (st (j + 1)).tmps t else mixT D st ft k t
  | 0 => by rw [if_neg (by omega)]; rfl
  | k + 1 => by
    rw [mixT, mixT, mixT_add hD hj hw (k := k), hD]
    by_cases e : k = j
    · subst e
      simp only [if_true, true_and, hj]
      by_cases e2 : (ft k).wt = some t
      · rw [if_pos e2, if_pos ⟨by omega, e2⟩]
      · rw [if_neg e2, if_neg (by omega), if_neg (fun q => e2 q.2), if_neg (by simp)]
    · rw [if_neg e]
      by_cases e3 : D k = true ∧ (ft k).wt = some t
      · rw [if_pos e3]
        by_cases e4 : j < k
        · rw [if_neg (fun q => hw k e4 e3.1 e3.2 q.2), if_pos e3]
        · rw [if_neg (by omega), if_pos e3]
      · rw [if_neg e3, if_neg e3]
        by_cases e4 : j < k
        · by_cases e5 : (ft j).wt = some t
          · rw [if_pos ⟨e4, e5⟩, if_pos ⟨by omega, e5⟩]
          · rw [if_neg (fun q => e5 q.2), if_neg (fun q => e5 q.2)]
        · rw [if_neg (fun q => e4 q.1), if_neg (by omega)]
theorem mixH_add [Val] {D D' : Nat → Bool} {j : Nat} (hD : ∀ k, D' k = if k = j then true else D k) (hj : D j = false) {t : Nat} (hw : ∀ k, j < k → D k = true → t ∈ (ft k).wh → t ∉ (ft j).wh) : ∀ {k : Nat},
    mixH D' st ft k t = if j < k ∧ t ∈ (ft j).wh then find (st (j + 1)).ents t else mixH D st ft k t
  | 0 => by rw [if_neg (by omega)]; rfl
  | k + 1 => by
    rw [mixH, mixH, mixH_add hD hj hw (k := k), hD]
    by_cases e : k = j
    · subst e
      simp only [if_true, true_and, hj]
      by_cases e2 : t ∈ (ft k).wh
      · rw [if_pos e2, if_pos ⟨by omega, e2⟩]
      · rw [if_neg e2, if_neg (by omega), if_neg (fun q => e2 q.2), if_neg (by simp)]
    · rw [if_neg e]
      by_cases e3 : D k = true ∧ t ∈ (ft k).wh
      · rw [if_pos e3]
        by_cases e4 : j < k
        · rw [if_neg (fun q => hw k e4 e3.1 e3.2 q.2), if_pos e3]
        · rw [if_neg (by omega), if_pos e3]
      · rw [if_neg e3, if_neg e3]
        by_cases e4 : j < k
        · by_cases e5 : t ∈ (ft j).wh
          · rw [if_pos ⟨e4, e5⟩, if_pos ⟨by omega, e5⟩]
          · rw [if_neg (fun q => e5 q.2), if_neg (fun q => e5 q.2)]
        · rw [if_neg (fun q => e4 q.1), if_neg (by omega)]
def Down (ops : Array Oper) (D : Nat → Bool) : Prop := ∀ j o e, D j = true → ops[j]? = some o → e ∈ o.after → Region.binds .any e = true → D e.on = true
theorem Bef.down [Val] {D : Nat → Bool} (hD : Down ops D) {i j : Nat} (h : Bef ops i j) : D j = true → D i = true := by
  induction h with
  | edge h he hb => exact fun hj => hD _ _ _ hj h he hb
  | step h he hb _ ih => exact fun hj => ih (hD _ _ _ hj h he hb)
theorem Bef.ready [Val] {D : Nat → Bool} (hD : Down ops D) {i j : Nat} (h : Bef ops i j) (hr : ∀ o, ops[j]? = some o → ∀ e ∈ o.after, Region.binds .any e = true → D e.on = true) : D i = true := by
  cases h with
  | edge h he hb => exact hr _ h _ he hb
  | step h he hb hi => exact hi.down hD (hr _ h _ he hb)
theorem Plan.next_mono [Val] (p : Plan P ops st ft hi z) {i j : Nat} (hij : i ≤ j) (hj : j ≤ z) : (st i).next ≤ (st j).next := by
  induction j with
  | zero => rw [show i = 0 by omega]; exact Nat.le_refl _
  | succ j ih =>
    by_cases e : i = j + 1
    · rw [e]; exact Nat.le_refl _
    · exact Nat.le_trans (ih (by omega) (by omega)) (p.next j (by omega))
theorem Plan.len_eq [Val] (p : Plan P ops st ft hi z) {j : Nat} (hj : j ≤ z) : (st j).tmps.length = (st 0).tmps.length := by
  induction j with
  | zero => rfl
  | succ j ih => rw [p.len j (by omega), ih (by omega)]
/-- What holds when the operations of D have been made. -/
structure Mix [Val] (z : Nat) (st : Nat → St) (ft : Nat → Foot) (F : Nat → Prop) (lo : Nat) (D : Nat → Bool) (ρ : Env) (X : Nat → Prop) (w0 : World) (tm : Array Value) (w : World) : Prop where
  size : tm.size = (st 0).tmps.length
  tmps : ∀ t x, mixT D st ft z t = some x → ∃ v, tm[t]? = some v ∧ x.Den ρ v
  heap : DenH ρ X w0 (mixH D st ft z) (fun j => F j ∧ (j < lo ∨ (st 0).next ≤ j) ∧ ∀ i, i < z → D i = true → ¬ ((st i).next ≤ j ∧ j < (st (i + 1)).next)) w
theorem nth_none [Val] {l : List SV} {t : Nat} : nth l t = none ↔ l.length ≤ t := by rw [nth_eq]; simp
theorem Plan.one [Val] (p : Plan P ops st ft hi z) {F : Nat → Prop} {lo : Nat} (hF : FrOk F lo (st 0).next hi) {D D' : Nat → Bool} (hdn : Down ops D) {j : Nat} (hj : j < z) (hDj : D j = false) (hr : ∀ o, ops[j]? = some o → ∀ e ∈ o.after, Region.binds .any e = true → D e.on = true)
    (hD' : ∀ k, D' k = if k = j then true else D k) {ρ : Env} {X : Nat → Prop} {w0 : World} {tm : Array Value} {w : World} (m : Mix z st ft F lo D ρ X w0 tm w) (cs : List Frame) (fn : FuncId) (rest : List Nat) (k : List Item) (ds : List Deferred) (kd : CallKind) (ro : Option Nat) :
    ∃ ρ' tm' w', ρ.le ρ' ∧ Steps P (lone ⟨fn, tm, .inRegion ops (j :: rest) :: k, ds, .run, kd, ro⟩ cs w) (lone ⟨fn, tm', .inRegion ops rest :: k, ds, .run, kd, ro⟩ cs w') ∧ Mix z st ft F lo D' ρ' X w0 tm' w' := by
  -- what is ahead of j and not ordered does not meet it
  have hconf1 : ∀ i, i < j → D i = false → NoConf (ft i) (ft j) := fun i hij hDi => (p.conf i j hij hj).resolve_left fun hb => by rw [hb.ready hdn hr] at hDi; cases hDi
  have hconf2 : ∀ i, j < i → i < z → D i = true → NoConf (ft j) (ft i) := fun i hij hi hDi => (p.conf j i hij hi).resolve_left fun hb => by rw [hb.down hdn hDi] at hDj; cases hDj
  have hT : ∀ t, t ∈ (ft j).rt → mixT D st ft z t = nth (st j).tmps t := fun t ht => by
    rw [mixT_high (j := j) (by omega) fun i h1 h2 h3 => ?_]
    · refine mixT_low p (by omega) fun i h1 h2 => ?_
      cases hDi : D i with
      | true => rfl
      | false => exact absurd ht ((hconf1 i h1 hDi).t1 t h2).1
    · intro e
      by_cases hij : i = j
      · subst hij; rw [hDj] at h3; cases h3
      · exact (hconf2 i (by omega) h2 h3).t2 t e ht
  have hH : ∀ h, ((ft j).all = true ∨ h ∈ (ft j).rh) → mixH D st ft z h = find (st j).ents h := fun h hh => by
    rw [mixH_high (j := j) (by omega) fun i h1 h2 h3 => ?_]
    · refine mixH_low p (by omega) fun i h1 h2 => ?_
      cases hDi : D i with
      | true => rfl
      | false =>
        have := (hconf1 i h1 hDi).h1 h h2
        rcases hh with hh | hh
        · rw [this.1] at hh; cases hh
        · exact absurd hh this.2.1
    · intro e
      by_cases hij : i = j
      · subst hij; rw [hDj] at h3; cases h3
      · have := (hconf2 i (by omega) h2 h3).h2 h e
        rcases hh with hh | hh
        · rw [this.1] at hh; cases hh
        · exact this.2 hh
  have hn0 := p.next_mono (Nat.zero_le j) (by omega)
  have hnj := p.next j hj
  have hnn := p.next_mono (show j + 1 ≤ z by omega) (Nat.le_refl _)
  have hhi := p.hi
  have hlo := hF.1
  obtain ⟨ρ', v, w', h1, h2, h3, h4⟩ := p.sem j hj ρ X w0 _ (mixH D st ft z) cs fn tm rest k ds kd ro w (fun t ht => by
      refine ⟨fun x hx => m.tmps t x (by rw [hT t ht]; exact hx), fun hx => ?_⟩
      rw [nth_none, p.len_eq (by omega), ← m.size] at hx
      exact Array.getElem?_eq_none hx) (fun ha h => hH h (.inl ha)) (fun h hh => hH h (.inr hh)) m.heap (fun q q1 q2 => by
      refine ⟨hF.2 q (by omega) (by omega), .inr (by omega), fun i hi hDi hq => ?_⟩
      rcases Nat.lt_trichotomy i j with c | c | c
      · have := p.next_mono (show i + 1 ≤ j by omega) (by omega); omega
      · subst c; rw [hDj] at hDi; cases hDi
      · have := p.next_mono (show j + 1 ≤ i by omega) (by omega); omega)
  have hwT : ∀ t k, j < k → k < z → D k = true → (ft k).wt = some t → (ft j).wt ≠ some t := fun t k' c1 c2 c3 c4 c5 => ((hconf2 k' c1 c2 c3).t1 t c5).2 c4
  have hwH : ∀ t k, j < k → k < z → D k = true → t ∈ (ft k).wh → t ∉ (ft j).wh := fun t k' c1 c2 c3 c4 c5 => ((hconf2 k' c1 c2 c3).h1 t c5).2.2 c4
  -- the same with all k: beyond the operations nothing counts
  let Dn : Nat → Bool := fun k => D k && decide (k < z)
  have cut : ∀ (E : Nat → Bool) (k : Nat), k ≤ z → (∀ t, mixT (fun q => E q && decide (q < z)) st ft k t = mixT E st ft k t) ∧ (∀ t, mixH (fun q => E q && decide (q < z)) st ft k t = mixH E st ft k t) := fun E k => by
    induction k with
    | zero => exact fun _ => ⟨fun _ => rfl, fun _ => rfl⟩
    | succ k ih =>
      intro hk
      obtain ⟨i1, i2⟩ := ih (by omega)
      have hd : decide (k < z) = true := by simpa using (by omega : k < z)
      exact ⟨fun t => by simp only [mixT, i1 t, hd, Bool.and_true], fun t => by simp only [mixH, i2 t, hd, Bool.and_true]⟩
  have addT : ∀ t, mixT D' st ft z t = if (ft j).wt = some t then nth (st (j + 1)).tmps t else mixT D st ft z t := fun t => by
    rw [← (cut D' _ (Nat.le_refl _)).1, ← (cut D _ (Nat.le_refl _)).1]
    rw [mixT_add (D := fun q => D q && decide (q < z)) (j := j) (fun k => ?_) (by simp [hDj]) (fun k c1 c2 c3 => ?_)]
    · by_cases e : (ft j).wt = some t
      · rw [if_pos ⟨hj, e⟩, if_pos e]
      · rw [if_neg (fun q => e q.2), if_neg e]
    · rw [hD']
      by_cases e : k = j
      · subst e; simp [hj]
      · simp [e]
    · simp at c2
      exact hwT t k c1 c2.2 c2.1 c3
  have addH : ∀ t, mixH D' st ft z t = if t ∈ (ft j).wh then find (st (j + 1)).ents t else mixH D st ft z t := fun t => by
    rw [← (cut D' _ (Nat.le_refl _)).2, ← (cut D _ (Nat.le_refl _)).2]
    rw [mixH_add (D := fun q => D q && decide (q < z)) (j := j) (fun k => ?_) (by simp [hDj]) (fun k c1 c2 c3 => ?_)]
    · by_cases e : t ∈ (ft j).wh
      · rw [if_pos ⟨hj, e⟩, if_pos e]
      · rw [if_neg (fun q => e q.2), if_neg e]
    · rw [hD']
      by_cases e : k = j
      · subst e; simp [hj]
      · simp [e]
    · simp at c2
      exact hwH t k c1 c2.2 c2.1 c3
  refine ⟨ρ', _, w', h1, h2, ?_, ?_, ?_⟩
  · rw [← m.size]
    cases (ft j).wt <;> simp [putD]
  · intro t x hx
    rw [addT] at hx
    by_cases e : (ft j).wt = some t
    · rw [if_pos e] at hx
      refine ⟨v, ?_, h3 x t e hx⟩
      rw [e]
      have hlt : t < tm.size := by
        rw [m.size, ← p.len_eq (show j + 1 ≤ z by omega)]
        rcases Nat.lt_or_ge t (st (j + 1)).tmps.length with c | c
        · exact c
        · rw [nth_none.2 c] at hx; cases hx
      simp [putD, hlt]
    · rw [if_neg e] at hx
      obtain ⟨u, hu, hxu⟩ := m.tmps t x hx
      refine ⟨u, ?_, hxu.mono h1⟩
      cases hw : (ft j).wt with
      | none => exact hu
      | some d =>
        have : d ≠ t := fun q => e (by rw [hw, q])
        simp only [putD]
        rw [Array.getElem?_setIfInBounds_ne this]
        exact hu
  · refine (h4.congr fun h => ?_).fresh_mono fun q hq => ?_
    · rw [addH]
    · obtain ⟨q1, q2, q3⟩ := hq
      refine ⟨⟨q1, q2, fun i hi hDi => q3 i hi ?_⟩, q3 j hj ?_⟩
      · rw [hD']; split
        · rfl
        · exact hDi
      · rw [hD', if_pos rfl]
/-- How many operations are left. -/
def cnt (D : Nat → Bool) : Nat → Nat
  | 0 => 0
  | k + 1 => cnt D k + if D k = true then 0 else 1
theorem cnt_zero [Val] {D : Nat → Bool} : ∀ {n : Nat}, cnt D n = 0 → ∀ k, k < n → D k = true
  | 0, _, k, hk => by omega
  | n + 1, h, k, hk => by
    rw [cnt] at h
    by_cases e : k = n
    · subst e
      by_cases c : D k = true
      · exact c
      · rw [if_neg c] at h; omega
    · exact cnt_zero (n := n) (by omega) k (by omega)
theorem cnt_add [Val] {D D' : Nat → Bool} {j : Nat} (hD : ∀ k, D' k = if k = j then true else D k) (hj : D j = false) : ∀ {n : Nat}, cnt D n = cnt D' n + if j < n then 1 else 0
  | 0 => by simp [cnt]
  | n + 1 => by
    rw [cnt, cnt, cnt_add hD hj (n := n), hD]
    by_cases e : n = j
    · subst e; simp [hj]
    · rw [if_neg e]
      by_cases c : j < n
      · rw [if_pos c, if_pos (show j < n + 1 by omega)]; omega
      · rw [if_neg c, if_neg (show ¬ j < n + 1 by omega)]; omega
theorem cnt_le [Val] (D : Nat → Bool) : ∀ n, cnt D n ≤ n
  | 0 => Nat.le_refl _
  | n + 1 => by rw [cnt]; have := cnt_le D n; split <;> omega
theorem ready_iff [Val] {listed : Array Bool} (hsz : listed.size = ops.size) (i : Nat) : i ∈ Region.ready .any ops listed ↔ i < ops.size ∧ listed.getD i false = false ∧ ∀ o, ops[i]? = some o → ∀ e ∈ o.after, Region.binds .any e = true → listed.getD e.on false = true := by
  unfold Region.ready
  rw [List.mem_filter, List.mem_range]
  constructor
  · rintro ⟨h1, h2⟩
    rw [Bool.and_eq_true] at h2
    have hlt : i < listed.size := by omega
    refine ⟨h1, ?_, fun o ho e he hb => ?_⟩
    · have := h2.1
      simp [Array.getD, hlt] at this ⊢
      exact this
    · have h3 := h2.2
      rw [ho] at h3
      simp only [Option.map_some, Option.getD_some] at h3
      rw [Array.all_eq_true_iff_forall_mem] at h3
      have := h3 e he
      simpa [hb] using this
  · rintro ⟨h1, h2, h3⟩
    have hlt : i < listed.size := by omega
    refine ⟨h1, ?_⟩
    rw [Bool.and_eq_true]
    refine ⟨?_, ?_⟩
    · simp [Array.getD, hlt] at h2 ⊢
      exact h2
    · have ho : ops[i]? = some ops[i] := by simp [h1]
      rw [ho]
      simp only [Option.map_some, Option.getD_some]
      rw [Array.all_eq_true_iff_forall_mem]
      intro e he
      cases hb : Region.binds .any e with
      | false => rfl
      | true => simpa using h3 _ ho e he hb
theorem getD_set [Val] {listed : Array Bool} {j : Nat} (hj : j < listed.size) (q : Nat) : (listed.setIfInBounds j true).getD q false = if q = j then true else listed.getD q false := by
  simp only [Array.getD_eq_getD_getElem?, Array.getElem?_setIfInBounds]
  by_cases e : j = q
  · subst e
    simp [hj]
  · simp [e, Ne.symm e]
theorem ready_none [Val] {listed : Array Bool} {t : Nat} (h : (Region.ready .any ops listed)[t % (Region.ready .any ops listed).length]? = none) : Region.ready .any ops listed = [] := by
  cases hr : Region.ready .any ops listed with
  | nil => rfl
  | cons x xs =>
    rw [hr] at h
    have hlt : t % (x :: xs).length < (x :: xs).length := Nat.mod_lt _ (by simp)
    simp at h
    simp at hlt
    omega
/-- The operations at the end, each of which waits for all ahead of it, come in their order. -/
theorem Plan.tail [Val] (p : Plan P ops st ft hi z) : ∀ (fuel t : Nat) (listed : Array Bool) (j : Nat), listed.size = ops.size → (∀ i, listed.getD i false = decide (i < j)) → z ≤ j → j ≤ ops.size → ops.size - j ≤ fuel →
    Region.linearise.go .any ops fuel t listed [] = List.range' j (ops.size - j)
  | 0, t, listed, j, hsz, hl, hz, hj, hf => by
    have : ops.size - j = 0 := by omega
    rw [this]; simp [Region.linearise.go]
  | fuel + 1, t, listed, j, hsz, hl, hz, hj, hf => by
    have hdn : Down ops (fun i => listed.getD i false) := fun q o e hq ho he hb => by
      simp only [hl, decide_eq_true_eq] at hq ⊢
      have := p.edge q o ho e he hb
      omega
    have hr : ∀ i, i ∈ Region.ready .any ops listed → i = j := fun i hi => by
      obtain ⟨h1, h2, h3⟩ := (ready_iff hsz i).1 hi
      rw [hl] at h2
      have h2 : ¬ i < j := by simpa using h2
      rcases Nat.lt_or_ge j i with c | c
      · have hb := p.tot i (by omega) h1 j c
        have := hb.ready (D := fun i => listed.getD i false) hdn h3
        simp only [hl] at this
        simp at this
      · omega
    have hin : j < ops.size → j ∈ Region.ready .any ops listed := fun hj => (ready_iff hsz j).2 ⟨hj, by rw [hl]; simp, fun o ho e he hb => by
      rw [hl]; simpa using p.edge j o ho e he hb⟩
    simp only [Region.linearise.go]
    change (match (Region.ready .any ops listed)[t % (Region.ready .any ops listed).length]? with
      | some i => Region.linearise.go .any ops fuel (t / (Region.ready .any ops listed).length) (listed.setIfInBounds i true) [i]
      | none => [].reverse) = _
    cases hi' : (Region.ready .any ops listed)[t % (Region.ready .any ops listed).length]? with
    | none =>
      have hnil := ready_none hi'
      have : ops.size - j = 0 := by
        rcases Nat.lt_or_ge j ops.size with c | c
        · have := hin c; rw [hnil] at this; simp at this
        · omega
      rw [this]; rfl
    | some i =>
      obtain rfl := hr i (List.mem_of_getElem? hi')
      have hlt := ((ready_iff hsz i).1 (List.mem_of_getElem? hi')).1
      simp only []
      rw [linearise_go_acc, List.reverse_singleton, List.singleton_append]
      rw [p.tail fuel _ (listed.setIfInBounds i true) (i + 1) (by simpa using hsz) (fun q => by
        rw [getD_set (by omega), hl]
        by_cases e : q = i
        · subst e; simp
        · rw [if_neg e]
          have : (q < i) = (q < i + 1) := by simp; omega
          simp only [this]) (by omega) (by omega) (by omega)]
      rw [show ops.size - i = (ops.size - (i + 1)) + 1 by omega, List.range'_succ]
theorem Plan.all [Val] (p : Plan P ops st ft hi z) {F : Nat → Prop} {lo : Nat} (hF : FrOk F lo (st 0).next hi) {X : Nat → Prop} {w0 : World} (cs : List Frame) (fn : FuncId) (k : List Item) (ds : List Deferred) (kd : CallKind) (ro : Option Nat) :
    ∀ (fuel t : Nat) (listed : Array Bool) (ρ : Env) (tm : Array Value) (w : World), listed.size = ops.size → cnt (fun i => listed.getD i false) ops.size ≤ fuel → Down ops (fun i => listed.getD i false) → (∀ i, z ≤ i → listed.getD i false = false) → Mix z st ft F lo (fun i => listed.getD i false) ρ X w0 tm w →
      ∃ ρ' tm' w', ρ.le ρ' ∧ Steps P (lone ⟨fn, tm, .inRegion ops (Region.linearise.go .any ops fuel t listed []) :: k, ds, .run, kd, ro⟩ cs w) (lone ⟨fn, tm', .inRegion ops (List.range' z (ops.size - z)) :: k, ds, .run, kd, ro⟩ cs w') ∧
        SV.DenL ρ' (st z).tmps tm'.toList ∧ DenH ρ' X w0 (find (st z).ents) (Fr F lo (st z).next) w' := by
  have hzle := p.le
  have fin : ∀ (D : Nat → Bool) (ρ : Env) (tm : Array Value) (w : World), (∀ i, i < z → D i = true) → Mix z st ft F lo D ρ X w0 tm w → SV.DenL ρ (st z).tmps tm.toList ∧ DenH ρ X w0 (find (st z).ents) (Fr F lo (st z).next) w := fun D ρ tm w hall m => by
    refine ⟨denL_of_get (by rw [p.len_eq (Nat.le_refl _)]; simpa using m.size) fun t x hx => ?_, (m.heap.congr fun h => ?_).fresh_mono fun q hq => ?_⟩
    · rw [← nth_eq] at hx
      obtain ⟨v, h1, h2⟩ := m.tmps t x (by rw [mixT_low p (Nat.le_refl _) fun i h1 _ => hall i h1]; exact hx)
      exact ⟨v, by simpa using h1, h2⟩
    · exact (mixH_low p (Nat.le_refl _) fun i h1 _ => hall i h1).symm
    · obtain ⟨q1, q2⟩ := hq
      have := p.next_mono (Nat.zero_le z) (Nat.le_refl _)
      have hlo := hF.1
      refine ⟨q1, by omega, fun i hi hDi hqq => ?_⟩
      have := p.next_mono (show i + 1 ≤ z by omega) (Nat.le_refl _)
      have := p.next_mono (Nat.zero_le i) (by omega)
      omega
  -- all of the plan's are made: the others follow in their order
  have stop : ∀ (fuel t : Nat) (listed : Array Bool) (ρ : Env) (tm : Array Value) (w : World), listed.size = ops.size → ops.size - z ≤ fuel → (∀ i, i < z → listed.getD i false = true) → (∀ i, z ≤ i → listed.getD i false = false) → Mix z st ft F lo (fun i => listed.getD i false) ρ X w0 tm w →
      ∃ ρ' tm' w', ρ.le ρ' ∧ Steps P (lone ⟨fn, tm, .inRegion ops (Region.linearise.go .any ops fuel t listed []) :: k, ds, .run, kd, ro⟩ cs w) (lone ⟨fn, tm', .inRegion ops (List.range' z (ops.size - z)) :: k, ds, .run, kd, ro⟩ cs w') ∧
        SV.DenL ρ' (st z).tmps tm'.toList ∧ DenH ρ' X w0 (find (st z).ents) (Fr F lo (st z).next) w' := fun fuel t listed ρ tm w hsz hf hall hno m => by
    obtain ⟨f1, f2⟩ := fin _ ρ tm w hall m
    rw [p.tail fuel t listed z hsz (fun i => by
      rcases Nat.lt_or_ge i z with c | c
      · rw [hall i c]; simp [c]
      · rw [hno i c]; simp [Nat.not_lt.2 c]) (Nat.le_refl _) hzle hf]
    exact ⟨ρ, tm, w, Env.le_refl _, Steps.refl P _, f1, f2⟩
  intro fuel
  induction fuel with
  | zero =>
    intro t listed ρ tm w hsz hc hdn hno m
    have hall := cnt_zero (Nat.le_zero.1 hc)
    have : ops.size = z := by
      rcases Nat.lt_or_ge z ops.size with c | c
      · have h1 := hall z c; simp only [hno z (Nat.le_refl _)] at h1; cases h1
      · omega
    exact stop 0 t listed ρ tm w hsz (by omega) (fun i hi => hall i (by omega)) hno m
  | succ fuel ih =>
    intro t listed ρ tm w hsz hc hdn hno m
    have hready := ready_iff (ops := ops) hsz
    cases hi' : (Region.ready .any ops listed)[t % (Region.ready .any ops listed).length]? with
    | none =>
      have hnil := ready_none hi'
      have hall : ∀ i, i < ops.size → listed.getD i false = true := fun i => by
        induction i using Nat.strongRecOn with
        | _ i ihi =>
          intro hi2
          cases hl : listed.getD i false with
          | true => rfl
          | false =>
            have : i ∈ Region.ready .any ops listed := (hready i).2 ⟨hi2, hl, fun o ho e he hb => by
              have hlt := p.edge i o ho e he hb
              exact ihi e.on hlt (by omega)⟩
            rw [hnil] at this; simp at this
      have : ops.size = z := by
        rcases Nat.lt_or_ge z ops.size with c | c
        · have h1 := hall z c; rw [hno z (Nat.le_refl _)] at h1; cases h1
        · omega
      exact stop (fuel + 1) t listed ρ tm w hsz (by omega) (fun i hi => hall i (by omega)) hno m
    | some j =>
      obtain ⟨hj, hDj, hr⟩ := (hready j).1 (List.mem_of_getElem? hi')
      rcases Nat.lt_or_ge j z with hjz | hjz
      · simp only [Region.linearise.go]
        change ∃ ρ' tm' w', ρ.le ρ' ∧ Steps P (lone ⟨fn, tm, .inRegion ops (match (Region.ready .any ops listed)[t % (Region.ready .any ops listed).length]? with
          | some i => Region.linearise.go .any ops fuel (t / (Region.ready .any ops listed).length) (listed.setIfInBounds i true) [i]
          | none => [].reverse) :: k, ds, .run, kd, ro⟩ cs w) _ ∧ _
        rw [hi']
        simp only []
        rw [linearise_go_acc, List.reverse_singleton, List.singleton_append]
        have hD' := getD_set (listed := listed) (j := j) (by omega)
        obtain ⟨ρ1, tm1, w1, g1, g2, g3⟩ := p.one hF hdn hjz hDj hr hD' m cs fn (Region.linearise.go .any ops fuel (t / (Region.ready .any ops listed).length) (listed.setIfInBounds j true) []) k ds kd ro
        have hc' : cnt (fun i => (listed.setIfInBounds j true).getD i false) ops.size ≤ fuel := by
          have := cnt_add hD' hDj (n := ops.size)
          rw [if_pos hj] at this
          omega
        have hdn' : Down ops (fun i => (listed.setIfInBounds j true).getD i false) := fun q o e hq ho he hb => by
          simp only [hD'] at hq ⊢
          split
          · rfl
          · by_cases e2 : q = j
            · subst e2; exact hr o ho e he hb
            · rw [if_neg e2] at hq; exact hdn q o e hq ho he hb
        obtain ⟨ρ2, tm2, w2, k1, k2, k3, k4⟩ := ih (t / (Region.ready .any ops listed).length) (listed.setIfInBounds j true) ρ1 tm1 w1 (by simpa using hsz) hc' hdn' (fun i hi => by rw [hD', if_neg (by omega)]; exact hno i hi) g3
        exact ⟨ρ2, tm2, w2, Env.le_trans g1 k1, Steps.trans g2 k2, k3, k4⟩
      · -- one of the end is ready: then all ahead are made
        have hpre : ∀ i, i < j → listed.getD i false = true := fun i hij => (p.tot j hjz hj i hij).ready (D := fun i => listed.getD i false) hdn hr
        have hjz' : j = z := by
          rcases Nat.lt_or_ge z j with c | c
          · have := hpre z c; rw [hno z (Nat.le_refl _)] at this; cases this
          · omega
        subst hjz'
        have hcc : ∀ n, j ≤ n → cnt (fun i => listed.getD i false) n = n - j := fun n => by
          induction n with
          | zero => intro h; simp [cnt]
          | succ n ihn =>
            intro h
            rw [cnt]
            rcases Nat.lt_or_ge n j with c | c
            · have hn : n + 1 = j := by omega
              have h0 : ∀ q, q ≤ j → cnt (fun i => listed.getD i false) q = 0 := fun q => by
                induction q with
                | zero => intro _; rfl
                | succ q ihq => intro hq; rw [cnt, ihq (by omega), if_pos (hpre q (by omega))]
              rw [h0 n (by omega), if_pos (hpre n c)]; omega
            · rw [ihn c]
              have : listed.getD n false = false := hno n c
              simp only [this]
              simp; omega
        have := hcc ops.size hzle
        exact stop (fuel + 1) t listed ρ tm w hsz (by omega) hpre hno m
end
end Go.Sx
/- Regions that draw their order: the plan of a region, made and looked at. -/
namespace Go.Sx
set_option linter.unusedSimpArgs false
set_option linter.unusedVariables false
open Go Go.RowKit Go.Cd Go.Proofs.YtkfocpgcdndpnaaGreat Go.MapKept

def tmpsOf : List Operand → List Nat
  | [] => []
  | .tmp t :: l => t :: tmpsOf l
  | _ :: l => tmpsOf l
theorem mem_tmpsOf [Val] {t : Nat} : ∀ {l : List Operand}, .tmp t ∈ l → t ∈ tmpsOf l
  | [], h => by simp at h
  | .tmp u :: l, h => by
    rcases List.mem_cons.1 h with e | e
    · injection e with e; subst e; simp [tmpsOf]
    · simp [tmpsOf, mem_tmpsOf e]
  | .const v :: l, h => by
    rcases List.mem_cons.1 h with e | e
    · cases e
    · simpa [tmpsOf] using mem_tmpsOf e
  | .global v :: l, h => by
    rcases List.mem_cons.1 h with e | e
    · cases e
    · simpa [tmpsOf] using mem_tmpsOf e
  | .func v :: l, h => by
    rcases List.mem_cons.1 h with e | e
    · cases e
    · simpa [tmpsOf] using mem_tmpsOf e
def readsT (ops : Array Oper) (o : Oper) : List Nat :=
  match o.guard with
  | none => tmpsOf o.op.operands.toList
  | some (j, _) => match (ops[j]?).bind (·.dst) with
    | some d => d :: tmpsOf o.op.operands.toList
    | none => tmpsOf o.op.operands.toList
abbrev Callee := List (Bm × Bool) → FuncId → List SV → Ents → Nat → Nat → Option (List Bm × SV × Ents × Nat × List Nat)
def CalleeOk [Val] (P : Program) (cal : Callee) : Prop :=
  ∀ as' f args ents next hi ps v ents' next' log', cal as' f args ents next hi = some (ps, v, ents', next', log') → next ≤ next' ∧ next' ≤ hi ∧ (∀ h, h ∉ log' → find ents' h = find ents h) ∧
    ((∀ p ∈ ps, p.v = true) → ∀ (vs : List Value) (w : World) (ρ : Env) (X : Nat → Prop) (w0 : World) (F : Nat → Prop), SV.DenL ρ args vs → DenH ρ X w0 (find ents) F w → (∀ j, next ≤ j → j < next' → F j) →
      Calls P f vs.toArray w fun e w' => ∃ ρ' x, e = .returned x ∧ ρ.le ρ' ∧ v.Den ρ' x ∧ DenH ρ' X w0 (find ents') (fun j => F j ∧ ¬ (next ≤ j ∧ j < next')) w')
/-- What tests are taken to say. -/
def lookAs : List (Bm × Bool) → Bm → Option Bool
  | [], _ => none
  | (c, t) :: l, b => match Bm.same c b with
    | true => some t
    | false => lookAs l b
def isSo (b : Bm) (t : Bool) : Bm := match t with
  | true => b
  | false => .not b
theorem isSo_v [Val] {b : Bm} {t : Bool} (h : (isSo b t).v = true) : b.v = t := by
  cases t
  · simpa [isSo, Bm.v] using h
  · exact h
/-- The value of an operation, with what has to hold. -/
def outNeeds (as' : List (Bm × Bool)) : OOut → Option (List Bm × SV × List Upd)
  | .val v us _ => some ([], v, us)
  | .need p x => match outNeeds as' x with
    | some (l, v, us) => some (p :: l, v, us)
    | none => none
  | .split b x y => match lookAs as' b with
    | some true => match outNeeds as' x with
      | some (l, v, us) => some (isSo b true :: l, v, us)
      | none => none
    | some false => match outNeeds as' y with
      | some (l, v, us) => some (isSo b false :: l, v, us)
      | none => none
    | none => none
  | _ => none
/-- The first test that has to be known for it. -/
def outAsk (as' : List (Bm × Bool)) : OOut → Option Bm
  | .need _ x => outAsk as' x
  | .split b x y => match lookAs as' b with
    | some true => outAsk as' x
    | some false => outAsk as' y
    | none => some b
  | _ => none
theorem outNeeds_ok [Val] {P : Program} {ρ : Env} {X : Nat → Prop} {w0 w : World} {look : Look} {fresh : Nat → Prop} {id : Nat} {sem : Sem Next} {as' : List (Bm × Bool)} : ∀ {x : OOut} {l : List Bm} {v : SV} {us : List Upd}, outNeeds as' x = some (l, v, us) → OGood P ρ X w0 look fresh id x sem w → (∀ p ∈ l, p.v = true) → Good P ρ X w0 look fresh id (v, us, []) sem w
  | .val v us ts, l, v', us', h, hg, _ => by
    simp only [outNeeds, Option.some.injEq, Prod.mk.injEq] at h
    obtain ⟨rfl, rfl, rfl⟩ := h
    exact hg
  | .need p x, l, v', us', h, hg, hl => by
    unfold outNeeds at h
    split at h <;> cases h
    rename_i l' h1
    exact outNeeds_ok h1 (hg (hl p (List.mem_cons_self ..))) fun q hq => hl q (List.mem_cons_of_mem _ hq)
  | .split b x y, l, v', us', h, hg, hl => by
    unfold outNeeds at h
    split at h
    · split at h <;> cases h
      rename_i l' h1
      exact outNeeds_ok h1 (hg.1 (isSo_v (hl _ (List.mem_cons_self ..)))) fun q hq => hl q (List.mem_cons_of_mem _ hq)
    · split at h <;> cases h
      rename_i l' h1
      exact outNeeds_ok h1 (hg.2 (isSo_v (hl _ (List.mem_cons_self ..)))) fun q hq => hl q (List.mem_cons_of_mem _ hq)
    · cases h
  | .enter _ _, _, _, _, h, _, _ => by cases h
  | .yield _ _, _, _, _, h, _, _ => by cases h
  | .dfr _ _ _, _, _, _, h, _, _ => by cases h
  | .pan _, _, _, _, h, _, _ => by cases h
  | .rcv, _, _, _, h, _, _ => by cases h
  | .stuck _, _, _, _, h, _, _ => by cases h
/-- Is an operation wanted, by what tests are taken to say; what has to hold for it. -/
def wantAs (as' : List (Bm × Bool)) : Want → Want × List Bm
  | .ask b want => match lookAs as' b with
    | some v => match v == want with
      | true => (.yes, [isSo b v])
      | false => (.no, [isSo b v])
    | none => (.unk, [])
  | w => (w, [])
theorem wantAs_ok [Val] (as' : List (Bm × Bool)) {w : Want} {x : Bool} (h : match w with
    | .yes => x = true
    | .no => x = false
    | .ask b want => x = (b.v == want)
    | .unk => True) : match wantAs as' w with
    | (.yes, qs) => (∀ p ∈ qs, p.v = true) → x = true
    | (.no, qs) => (∀ p ∈ qs, p.v = true) → x = false
    | _ => True := by
  have so : ∀ (b : Bm) (v : Bool), (∀ p ∈ [isSo b v], p.v = true) → b.v = v := fun b v h => by
    have := h _ (List.mem_singleton.2 rfl)
    cases v
    · simpa [isSo, Bm.v] using this
    · exact this
  cases w with
  | yes => exact fun _ => h
  | no => exact fun _ => h
  | unk => trivial
  | ask b want =>
    simp only [wantAs]
    cases hl : lookAs as' b with
    | none => trivial
    | some v =>
      simp only
      cases hv : (v == want) with
      | true =>
        intro hp
        dsimp only at h
        rw [h, so b v hp, hv]
      | false =>
        intro hp
        dsimp only at h
        rw [h, so b v hp, hv]
def dOne (P : Program) (ax : Ax) (cal : Callee) (as' : List (Bm × Bool)) (ops : Array Oper) (hi : Nat) (o : Oper) (s : St) : Option (St × Foot) :=
  match wantAs as' (wantS ops s.tmps o) with
  | (.no, qs) => some ({ s with tmps := putS s.tmps o.dst undefS }, { rt := readsT ops o, wt := o.dst, all := false, rh := [], wh := [], need := qs })
  | (.yes, qs) => match isDefer o.op, Nat.ble (s.next + 2) hi with
    | false, true => match ax (find s.ents) s.next o.op (evs (evalS s.tmps) o.op.operands.toList) with
     | some out => match outNeeds as' out with
      | some (ps, v, us) => some ({ tmps := putS s.tmps o.dst v, ents := appUs us s.ents, next := s.next + 2, log := logUs us s.log }, { rt := readsT ops o, wt := o.dst, all := true, rh := [], wh := us.map updH, need := qs ++ ps })
      | none => none
     | none => match sop P (find s.ents) s.next (evalS s.tmps) o.op with
      | .val v us _ => some ({ tmps := putS s.tmps o.dst v, ents := appUs us s.ents, next := s.next + 2, log := logUs us s.log }, { rt := readsT ops o, wt := o.dst, all := false, rh := sReads (evalS s.tmps) o.op, wh := us.map updH, need := qs })
      | .enter f args => match fnOf P f, cal as' f args s.ents s.next hi with
        | some _, some (ps, v, ents', next', log') => match Nat.ble (s.next + 2) next' with
          | true => some ({ tmps := putS s.tmps o.dst v, ents := ents', next := next', log := log' ++ s.log }, { rt := readsT ops o, wt := o.dst, all := true, rh := [], wh := log', need := qs ++ ps })
          | false => none
        | _, _ => none
      | .split b x y => match outNeeds as' (.split b x y) with
        | some (ps, v, us) => some ({ tmps := putS s.tmps o.dst v, ents := appUs us s.ents, next := s.next + 2, log := logUs us s.log }, { rt := readsT ops o, wt := o.dst, all := true, rh := [], wh := us.map updH, need := qs ++ ps })
        | none => none
      | _ => none
    | _, _ => none
  | _ => none
def evR (rt : List Nat) (tmps : List SV) : Ev
  | .tmp t => if t ∈ rt then nth tmps t else none
  | .const v => ofVal v
  | .func f => some (.fn (.func f) [] [])
  | .global _ => none
section
variable {P : Program} {ops : Array Oper} {hi : Nat}
theorem wantS_ok2 [Val] {ρ : Env} {tmps : List SV} {tm : Array Value} (o : Oper) (h : ∀ t ∈ readsT ops o, (∀ x, nth tmps t = some x → ∃ v, tm[t]? = some v ∧ x.Den ρ v) ∧ (nth tmps t = none → tm[t]? = none)) :
    match wantS ops tmps o with
    | .yes => Region.wanted o (yielded ops tm) = true
    | .no => Region.wanted o (yielded ops tm) = false
    | .ask b want => Region.wanted o (yielded ops tm) = (b.v == want)
    | .unk => True := by
  unfold wantS Region.wanted
  unfold readsT at h
  cases hg : o.guard with
  | none => simp
  | some p =>
    obtain ⟨j, want⟩ := p
    rw [hg] at h
    simp only at h ⊢
    cases hd : (ops[j]?).bind (·.dst) with
    | none => simp [yielded, hd]
    | some d =>
      rw [hd] at h
      simp only at h ⊢
      obtain ⟨h1, h2⟩ := h d (by simp)
      have hyn : tm[d]? = none → yielded ops tm j = none := fun e => by simp [yielded, hd, e]
      have hyb : ∀ b, tm[d]? = some (.bool b) → yielded ops tm j = some b := fun b e => by simp [yielded, hd, e]
      have hyo : ∀ v, tm[d]? = some v → (∀ b, v ≠ .bool b) → yielded ops tm j = none := fun v e hb => by
        simp only [yielded, hd, Option.bind_some, e]
        cases v <;> first | rfl | exact absurd rfl (hb _)
      cases hn : nth tmps d with
      | none => simp [hyn (h2 hn)]
      | some s =>
        obtain ⟨v, hv', hs⟩ := h1 s hn
        cases s with
        | bool b =>
          simp only [SV.Den] at hs; subst hs
          have := hyb _ hv'
          cases b with
          | lit b => cases b <;> cases want <;> simp [this]
          | sym b => cases hb : b.v <;> cases want <;> simp [this, SB.v, hb]
        | any => trivial
        | _ =>
          have := hyo v hv' (fun b e => by
            subst e
            simp only [SV.Den] at hs
            first
              | (cases hs; done)
              | (obtain ⟨_, _, _, _, h⟩ := hs; cases h; done)
              | (obtain ⟨_, _, _, _, _, _, _, _, _, h⟩ := hs; cases h; done)
              | (obtain ⟨_, _, h⟩ := hs; cases h; done)
              | (obtain ⟨_, _, _, _, _, _, h⟩ := hs; cases h; done))
          simp [this]
theorem nth_put [Val] {tmps : List SV} {d : Nat} {v x : SV} (h : nth (putS tmps (some d) v) d = some x) : x = v := by
  simp only [putS, setN_eq, nth_eq] at h
  rw [List.getElem?_set] at h
  simp only [if_true] at h
  split at h
  · injection h with h; exact h.symm
  · cases h
theorem nth_put_other [Val] {tmps : List SV} {dst : Option Tmp} {v : SV} {t : Nat} (h : dst ≠ some t) : nth (putS tmps dst v) t = nth tmps t := by
  cases dst with
  | none => rfl
  | some d =>
    simp only [putS, setN_eq, nth_eq]
    rw [List.getElem?_set_ne (fun e => h (by rw [e]))]
theorem len_put [Val] {tmps : List SV} {dst : Option Tmp} {v : SV} : (putS tmps dst v).length = tmps.length := by
  cases dst <;> simp [putS, setN_eq]
theorem looks_split [Val] : ∀ (us : List Upd) (l l' : Look) (h : Nat), (h ∈ us.map updH → looks us l h = looks us l' h) ∧ (h ∉ us.map updH → looks us l h = l h)
  | [], l, l', h => by simp [looks]
  | u :: us, l, l', h => by
    have ih := looks_split us (u.look l) (u.look l') h
    refine ⟨fun hm => ?_, fun hm => ?_⟩
    · by_cases c : h ∈ us.map updH
      · exact ih.1 c
      · have e1 := ih.2 c
        have e2 := (looks_split us (u.look l') (u.look l) h).2 c
        simp only [looks]
        rw [e1, e2]
        have : h = updH u := by
          rw [List.map_cons, List.mem_cons] at hm
          exact hm.resolve_right c
        subst this
        cases u <;> simp [Upd.look, updH]
    · rw [List.map_cons, List.mem_cons, not_or] at hm
      simp only [looks]
      rw [ih.2 hm.2]
      have := hm.1
      cases u <;> simp [Upd.look, updH] at this ⊢ <;> simp [this]
/-- What is known of a state and the next one. -/
structure Next1 (s s' : St) (f : Foot) (o : Oper) (hi : Nat) : Prop where
  next : s.next ≤ s'.next
  le : s'.next ≤ max s.next hi
  len : s'.tmps.length = s.tmps.length
  wt : f.wt = o.dst
  tmp : ∀ t, f.wt ≠ some t → nth s'.tmps t = nth s.tmps t
  heap : ∀ h, h ∉ f.wh → find s'.ents h = find s.ents h
  log : ∀ h, h ∉ s'.log → h ∉ s.log ∧ h ∉ f.wh
theorem logUs_mem [Val] {us : List Upd} {l : List Nat} {h : Nat} (hn : h ∉ logUs us l) : h ∉ l ∧ h ∉ us.map updH := by
  induction us with
  | nil => exact ⟨hn, by simp⟩
  | cons u us ih =>
    simp only [logUs, List.mem_cons, not_or] at hn
    obtain ⟨h1, h2⟩ := ih hn.2
    exact ⟨h1, by simp [hn.1, h2]⟩
theorem dOne_ok [Val] (hok : FnOk P) {ax : Ax} (hax : AxOk P ax) (hs : AxSafe ax) {cal : Callee} (hcal : CalleeOk P cal) {i : Nat} {o : Oper} {s s' : St} {f : Foot} (ho : ops[i]? = some o) {as' : List (Bm × Bool)} (h : dOne P ax cal as' ops hi o s = some (s', f)) : ((∀ p ∈ f.need, p.v = true) → OpSem P ops i s s' f) ∧ Next1 s s' f o hi := by
  have hdst : (ops[i]?).bind (·.dst) = o.dst := by rw [ho]; rfl
  unfold dOne at h
  split at h <;> try cases h
  · -- not wanted
    rename_i qs hw
    refine ⟨fun hqs => ?_, ⟨Nat.le_refl _, Nat.le_max_left _ _, len_put, rfl, fun t ht => nth_put_other ht, fun _ _ => rfl, fun h hh => ⟨hh, by simp⟩⟩⟩
    intro ρ X w0 F look cs fn tm rest k ds kd ro w ht _ _ hd _
    have hwant := wantAs_ok as' (wantS_ok2 o ht)
    rw [hw] at hwant
    have hwant := hwant hqs
    have hst := st_op_skip (P := P) (cs := cs) (w := w) (k := k) (ds := ds) (kd := kd) (ro := ro) (fn := fn) (ops := ops) (i := i) (rest := rest) (tmps := tm) (by simp [ho, hwant])
    rw [hdst] at hst
    refine ⟨ρ, undef, w, Env.le_refl _, .one hst, fun x d hdd hx => ?_, (hd.congr fun h => by simp).fresh_mono fun j hj => hj.1⟩
    dsimp only at hdd hx
    rw [hdd] at hx
    rw [nth_put hx]; exact undefS_den
  · -- wanted
    rename_i qs hw
    split at h <;> try cases h
    rename_i hdef hble
    have hble := Nat.le_of_ble_eq_true hble
    have evok : ∀ {ρ : Env} {tm : Array Value}, (∀ t ∈ readsT ops o, (∀ x, nth s.tmps t = some x → ∃ v, tm[t]? = some v ∧ x.Den ρ v) ∧ (nth s.tmps t = none → tm[t]? = none)) → EvOk ρ (evR (readsT ops o) s.tmps) (evalF tm) := fun {ρ tm} ht x y e => by
      cases x with
      | tmp t =>
        simp only [evR] at e
        split at e
        · rename_i hm
          obtain ⟨v, hv, hs⟩ := (ht t hm).1 y e
          simpa [evalF, hv] using hs
        · cases e
      | const v => exact ofVal_den e
      | global g => cases e
      | func f =>
        simp only [evR, Option.some.injEq] at e; subst e
        simp only [SV.Den, SFn.Den, evalF]
        exact ⟨_, [], [], rfl, by simp, by simp, rfl⟩
    have evsame : ∀ x ∈ o.op.operands, evalS s.tmps x = evR (readsT ops o) s.tmps x := fun x hx => by
      cases x with
      | tmp t =>
        have hm : t ∈ readsT ops o := by
          have : t ∈ tmpsOf o.op.operands.toList := mem_tmpsOf (by simpa using hx)
          unfold readsT
          split
          · exact this
          · split
            · exact List.mem_cons_of_mem _ this
            · exact this
        simp only [evalS, evR, if_pos hm]
      | const v => rfl
      | global g => rfl
      | func f => rfl
    split at h
    · -- an operation of one's own
      rename_i out hout
      split at h <;> cases h
      rename_i ps v us hneeds
      refine ⟨fun hps => ?_, ⟨by simp, by simp; omega, len_put, rfl, fun t ht => nth_put_other ht, fun h hh => ?_, fun h hh => logUs_mem hh⟩⟩
      · intro ρ X w0 F look cs fn tm rest k ds kd ro w ht hall hrh hd hF
        have hlook : look = find s.ents := funext fun h => hall rfl h
        subst hlook
        have hwant := wantAs_ok as' (wantS_ok2 o ht)
        rw [hw] at hwant
        have hwant := hwant fun p hp => hps p (List.mem_append_left _ hp)
        have hps := fun p hp => hps p (List.mem_append_right _ hp)
        have hse : evs (evalS s.tmps) o.op.operands.toList = evs (evR (readsT ops o) s.tmps) o.op.operands.toList := evs_congr fun x hx => evsame x (by simpa using hx)
        have hg : OGood P ρ X w0 (find s.ents) F s.next out (execOp (evalF tm) o) w := by
          rw [hse] at hout
          cases hx : evs (evR (readsT ops o) s.tmps) o.op.operands.toList with
          | none => rw [hx, hs] at hout; cases hout
          | some xs =>
            rw [hx] at hout
            exact hax _ _ _ _ _ hout ρ X w0 w F (evalF tm) o rfl (evs_ok (evok ht) hx) hd (hF _ (Nat.le_refl _) (by simp)) (hF (s.next + 1) (by omega) (by simp))
        have hg := outNeeds_ok hneeds hg hps
        obtain ⟨nx, val, ρ', w', g1, g2, g3, g4, g5⟩ := hg
        have hst := st_op_val (P := P) (cs := cs) (k := k) (ds := ds) (kd := kd) (ro := ro) (fn := fn) (rest := rest) ho hwant (.inr hdef) g1 g2
        refine ⟨ρ', val, w', g3, .one hst, fun x d hdd hx => ?_, (g5.congr fun h => ?_).fresh_mono fun j hj => ⟨hj.1, ?_, ?_⟩⟩
        · dsimp only at hdd hx
          rw [hdd] at hx
          rw [nth_put hx]; exact g4
        · dsimp only
          rw [find_appUs]
          by_cases c : h ∈ us.map updH
          · rw [if_pos c]
          · rw [if_neg c]; exact ((looks_split us (find s.ents) (find s.ents) h).2 c).symm
        · have := hj.2; dsimp only at this; omega
        · have := hj.2; dsimp only at this; omega
      · dsimp only at hh ⊢
        rw [find_appUs]
        exact (looks_split us (find s.ents) (find s.ents) h).2 hh
    split at h <;> try cases h
    · -- a value
      rename_i v us ts hsop
      refine ⟨fun hqs => ?_, ⟨by simp, by simp; omega, len_put, rfl, fun t ht => nth_put_other ht, fun h hh => ?_, fun h hh => logUs_mem hh⟩⟩
      · intro ρ X w0 F look cs fn tm rest k ds kd ro w ht _ hrh hd hF
        have hwant := wantAs_ok as' (wantS_ok2 o ht)
        rw [hw] at hwant
        have hwant := hwant hqs
        have hs2 := sop_congr (P := P) (id := s.next) (look := find s.ents) (look' := look) evsame (fun h hh => (hrh h hh).symm)
        rw [hsop] at hs2
        have hg := sop_ok hok (evok ht) hd (hF _ (Nat.le_refl _) (by simp)) (hF (s.next + 1) (by omega) (by simp)) o
        rw [← hs2] at hg
        obtain ⟨nx, val, ρ', w', g1, g2, g3, g4, g5⟩ := hg
        have hst := st_op_val (P := P) (cs := cs) (k := k) (ds := ds) (kd := kd) (ro := ro) (fn := fn) (rest := rest) ho hwant (.inr hdef) g1 g2
        refine ⟨ρ', val, w', g3, .one hst, fun x d hdd hx => ?_, (g5.congr fun h => ?_).fresh_mono fun j hj => ⟨hj.1, ?_, ?_⟩⟩
        · dsimp only at hdd hx
          rw [hdd] at hx
          rw [nth_put hx]; exact g4
        · dsimp only
          rw [find_appUs]
          by_cases c : h ∈ us.map updH
          · rw [if_pos c]; exact (looks_split us _ _ h).1 c
          · rw [if_neg c]; exact ((looks_split us look look h).2 c).symm
        · have := hj.2; dsimp only at this; omega
        · have := hj.2; dsimp only at this; omega
      · dsimp only at hh ⊢
        rw [find_appUs]
        exact (looks_split us (find s.ents) (find s.ents) h).2 hh
    · -- a call
      rename_i g args hsop
      split at h <;> try cases h
      rename_i ps v ents' next' log' hfi hc
      split at h <;> cases h
      have hn2 : s.next + 2 ≤ next' := Nat.le_of_ble_eq_true (by assumption)
      obtain ⟨c1, c2, c3, c4⟩ := hcal _ _ _ _ _ _ _ _ _ _ _ hc
      refine ⟨fun hqs => ?_, ⟨c1, by simp; omega, len_put, rfl, fun t ht => nth_put_other ht, c3, fun h hh => ?_⟩⟩
      · intro ρ X w0 F look cs fn tm rest k ds kd ro w ht hall hrh hd hF
        have hlook : ∀ h, look h = find s.ents h := hall rfl
        have hwant := wantAs_ok as' (wantS_ok2 o ht)
        rw [hw] at hwant
        have hwant := hwant fun p hp => hqs p (List.mem_append_left _ hp)
        have c4 := c4 fun p hp => hqs p (List.mem_append_right _ hp)
        have hs2 := sop_congr (P := P) (id := s.next) (look := find s.ents) (look' := look) evsame (fun h hh => (hlook h).symm)
        rw [hsop] at hs2
        have hg := sop_ok hok (evok ht) hd (hF _ (Nat.le_refl _) (by simp; omega)) (hF (s.next + 1) (by omega) (by simp; omega)) o
        rw [← hs2] at hg
        obtain ⟨vs, h1, h2⟩ := hg
        have h2 := h2.trans (run_callFunc hok hfi _ w)
        have hst := st_op_enter (P := P) (cs := cs) (k := k) (ds := ds) (kd := kd) (ro := ro) (fn := fn) (rest := rest) ho hwant (.inr hdef) h2
        obtain ⟨e, w', fr, ⟨ρ', x, rfl, g1, g2, g3⟩, hcomes, hfn, hleave⟩ := c4 vs w ρ X w0 F h1 (hd.congr fun h => (hlook h).symm) hF (⟨fn, tm, .inRegion ops (i :: rest) :: k, ds, .run, kd, ro⟩ :: cs)
        have hlast := step_leave_returned (c := ⟨fn, tm, .inRegion ops (i :: rest) :: k, ds, .run, kd, ro⟩) (cs := cs) hleave
        rw [finish_region, hdst] at hlast
        refine ⟨ρ', x, w', g1, .head hst (Steps.trans hcomes (.one hlast)), fun y d hdd hy => ?_, g3.congr fun h => ?_⟩
        · dsimp only at hdd hy
          rw [hdd] at hy
          rw [nth_put hy]; exact g2
        · dsimp only
          split
          · rfl
          · rename_i hh
            rw [hlook, c3 h hh]
      · rw [List.mem_append, not_or] at hh
        exact ⟨hh.2, hh.1⟩
    · -- a value, by a test
      rename_i b x y hsop
      split at h <;> cases h
      rename_i ps v us hneeds
      refine ⟨fun hps => ?_, ⟨by simp, by simp; omega, len_put, rfl, fun t ht => nth_put_other ht, fun h hh => ?_, fun h hh => logUs_mem hh⟩⟩
      · intro ρ X w0 F look cs fn tm rest k ds kd ro w ht hall hrh hd hF
        have hlook : look = find s.ents := funext fun h => hall rfl h
        subst hlook
        have hwant := wantAs_ok as' (wantS_ok2 o ht)
        rw [hw] at hwant
        have hwant := hwant fun p hp => hps p (List.mem_append_left _ hp)
        have hps := fun p hp => hps p (List.mem_append_right _ hp)
        have hs2 := sop_congr (P := P) (id := s.next) (look := find s.ents) (look' := find s.ents) evsame (fun h hh => rfl)
        rw [hsop] at hs2
        have hg := sop_ok hok (evok ht) hd (hF _ (Nat.le_refl _) (by simp)) (hF (s.next + 1) (by omega) (by simp)) o
        rw [← hs2] at hg
        have hg := outNeeds_ok hneeds hg hps
        obtain ⟨nx, val, ρ', w', g1, g2, g3, g4, g5⟩ := hg
        have hst := st_op_val (P := P) (cs := cs) (k := k) (ds := ds) (kd := kd) (ro := ro) (fn := fn) (rest := rest) ho hwant (.inr hdef) g1 g2
        refine ⟨ρ', val, w', g3, .one hst, fun x d hdd hx => ?_, (g5.congr fun h => ?_).fresh_mono fun j hj => ⟨hj.1, ?_, ?_⟩⟩
        · dsimp only at hdd hx
          rw [hdd] at hx
          rw [nth_put hx]; exact g4
        · dsimp only
          rw [find_appUs]
          by_cases c : h ∈ us.map updH
          · rw [if_pos c]
          · rw [if_neg c]; exact ((looks_split us (find s.ents) (find s.ents) h).2 c).symm
        · have := hj.2; dsimp only at this; omega
        · have := hj.2; dsimp only at this; omega
      · dsimp only at hh ⊢
        rw [find_appUs]
        exact (looks_split us (find s.ents) (find s.ents) h).2 hh
end
end Go.Sx
