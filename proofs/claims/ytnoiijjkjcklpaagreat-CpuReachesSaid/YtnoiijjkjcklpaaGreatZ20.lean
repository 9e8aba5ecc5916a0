/- Parts of the proof: Sx28, Sx29, SxMem1. -/
import Derived.Test.YtnoiijjkjcklpaaGreatZ19
import Derived.Test.YtnoiijjkjcklpaaGreatZ11
/- Runs that are cut at the heads of loops: what the letters there stand for is read off the state; the rule. -/
namespace Go.Sx
set_option linter.unusedSimpArgs false
set_option linter.unusedVariables false
open Go Go.RowKit Go.Cd Go.Proofs.YtnoiijjkjcklpaaGreat Go.MapKept

structure Acc where
  t : List (Nat × Tm)
  b : List (Nat × Bm)
  τ : List (Nat × Nat)
section
variable (lv npin : Nat)
def addT (i : Nat) (t : Tm) (a : Acc) : Acc := match Nat.ble lv i with
  | true => match lookT a.t i with
    | some _ => a
    | none => { a with t := (i, t) :: a.t }
  | false => a
def addB (i : Nat) (t : Bm) (a : Acc) : Acc := match Nat.ble lv i with
  | true => match lookBm a.b i with
    | some _ => a
    | none => { a with b := (i, t) :: a.b }
  | false => a
def addN (h j : Nat) (a : Acc) : Acc := match Nat.blt h npin with
  | true => a
  | false => match lookN a.τ h with
    | some _ => a
    | none => { a with τ := (h, j) :: a.τ }
mutual
def Tm.cl : Tm → Tm → Acc → Acc
  | .var _ i, t, a => addT lv i t a
  | .op _ x y, .op _ u v, a => Tm.cl y v (Tm.cl x u a)
  | .un _ x, .un _ u, a => Tm.cl x u a
  | .ite c x y, .ite d u v, a => Tm.cl y v (Tm.cl x u (Bm.cl c d a))
  | .sel l i, .sel k j, a => Tm.cl i j (Tms.cl l k a)
  | .fn _ _ l, .fn _ _ k, a => Tms.cl l k a
  | _, _, a => a
def Tms.cl : Tms → Tms → Acc → Acc
  | .cons x l, .cons y k, a => Tms.cl l k (Tm.cl x y a)
  | _, _, a => a
def Bm.cl : Bm → Bm → Acc → Acc
  | .var i, t, a => addB lv i t a
  | .cmp _ x y, .cmp _ u v, a => Tm.cl y v (Tm.cl x u a)
  | .lop _ x y, .lop _ u v, a => Bm.cl y v (Bm.cl x u a)
  | .not x, .not y, a => Bm.cl x y a
  | .ite c x y, .ite d u v, a => Bm.cl y v (Bm.cl x u (Bm.cl c d a))
  | .fn _ l, .fn _ k, a => Tms.cl l k a
  | _, _, a => a
end
def SN.cl : SN → SN → Acc → Acc
  | .sym x, .sym y, a => Tm.cl lv x y a
  | .sym x, .lit n, a => Tm.cl lv x (.lit n) a
  | .env h, .env j, a => addN npin h j a
  | .sub h _, .sub j _, a => addN npin h j a
  | _, _, a => a
def SOff.cl : SOff → SOff → Acc → Acc
  | .idx _ _ _ i, .idx _ _ _ j, a => Tm.cl lv i j a
  | .raw _ _ _ _ i, .raw _ _ _ _ j, a => Tm.cl lv i j a
  | _, _, a => a
def SFn.cl : SFn → SFn → Acc → Acc
  | .yield h, .yield j, a => addN npin h j a
  | _, _, a => a
mutual
def SV.cl : SV → SV → Acc → Acc
  | .bool x, .bool y, a => Bm.cl lv x.bm y.bm a
  | .int _ x, .int _ y, a => Tm.cl lv x.tm y.tm a
  | .ptr h o, .ptr j p, a => SOff.cl lv o p (addN npin h j a)
  | .slp _ i, .slp _ j, a => Tm.cl lv i j a
  | .sl h o l c, .sl j p k d, a => SN.cl lv npin c d (SN.cl lv npin l k (SOff.cl lv o p (addN npin h j a)))
  | .map h, .map j, a => addN npin h j a
  | .fn f xs ys, .fn g us vs, a => SV.clL ys vs (SV.clL xs us (SFn.cl npin f g a))
  | .iface _ x, .iface _ y, a => SV.cl x y a
  | .agg l, .agg k, a => SV.clL l k a
  | .tup l, .tup k, a => SV.clL l k a
  | _, _, a => a
def SV.clL : List SV → List SV → Acc → Acc
  | x :: l, y :: k, a => SV.clL l k (SV.cl x y a)
  | _, _, a => a
end
def SDef.cl : SDef → SDef → Acc → Acc
  | .call _ c x, .call _ d y, a => SV.clL lv npin x y (SV.clL lv npin c d a)
  | .collected h, .collected j, a => addN npin h j a
  | _, _, a => a
def defsCl : List SDef → List SDef → Acc → Acc
  | x :: l, y :: k, a => defsCl l k (SDef.cl lv npin x y a)
  | _, _, a => a
def esCl : List (SV × SV × Nat) → List (SV × SV × Nat) → Acc → Acc
  | (k, v, _) :: l, (k', v', _) :: r, a => esCl l r (SV.cl lv npin v v' (SV.cl lv npin k k' a))
  | _, _, a => a
def refsCl : List Nat → List Nat → Acc → Acc
  | h :: l, j :: k, a => refsCl l k (addN npin h j a)
  | _, _, a => a
def SObj.cl : SObj → SObj → Acc → Acc
  | .cells l _, .cells k _, a => SV.clL lv npin l k a
  | .row l c _ _, .row k d _ _, a => SV.clL lv npin l k (addN npin c d a)
  | .smap es _, .smap fs _, a => esCl lv npin es fs a
  | .loop l, .loop k, a => SV.clL lv npin l.tmps k.tmps (addN npin l.defers k.defers a)
  | .defs (some l), .defs (some k), a => defsCl lv npin l k a
  | .abs _ x r, .abs _ y s, a => refsCl npin r s (Tms.cl lv x y a)
  | _, _, a => a
def todoCl : List SItem → List SItem → Acc → Acc
  | .inRangeFunc h :: l, .inRangeFunc j :: k, a => todoCl l k (addN npin h j a)
  | .endRangeFunc h :: l, .endRangeFunc j :: k, a => todoCl l k (addN npin h j a)
  | _ :: l, _ :: k, a => todoCl l k a
  | _, _, a => a
def SFrame.cl (x y : SFrame) (a : Acc) : Acc :=
  todoCl npin x.todo y.todo (defsCl lv npin x.defers y.defers (SV.clL lv npin x.tmps y.tmps (match x.round, y.round with
    | some h, some j => addN npin h j a
    | _, _ => a)))
def stkCl : List SFrame → List SFrame → Acc → Acc
  | x :: l, y :: k, a => stkCl l k (SFrame.cl lv npin x y a)
  | _, _, a => a
def entsCl (e : Ents) : Ents → Acc → Acc
  | [], a => a
  | (h, o) :: r, a => entsCl e r (match (Nm.f ⟨npin, a.τ⟩ h) with
    | some j => match find e j with
      | some o' => SObj.cl lv npin o o' a
      | none => a
    | none => a)
def guess (C S : SState) : Acc := entsCl lv npin S.ents C.ents (entsCl lv npin S.ents C.ents (entsCl lv npin S.ents C.ents (stkCl lv npin C.stk S.stk (SFrame.cl lv npin C.top S.top ⟨[], [], []⟩))))
end

structure Cut where
  S : SState
  fs : Facts
inductive FEnd where
  | cut (j : Nat) (σ : Su) (m : Nm) (obs : List Ob)
  | done (S : SState)
def fstR : Code → Nat
  | .seq a _ => fstR a
  | .block _ a => fstR a
  | .scope a => fstR a
  | .loop a => fstR a
  | .region n _ _ => n + 1
  | _ => 0
def isLoopHd : List SItem → Bool
  | .code c :: .inLoop d :: _ => Nat.beq (fstR c) (fstR d)
  | _ => false
def lenEq {α β : Type} : List α → List β → Bool
  | [], [] => true
  | _ :: l, _ :: k => lenEq l k
  | _, _ => false
def likeCut (C S : SState) : Bool := match Nat.beq C.top.fn S.top.fn, isLoopHd S.top.todo, lenEq C.top.todo S.top.todo, lenEq C.stk S.stk, S.top.mode with
  | true, true, true, true, .run => true
  | _, _, _, _, _ => false
inductive AtC where
  | no
  | bad (j : Nat)
  | yes (j : Nat) (σ : Su) (m : Nm) (obs : List Ob)
def atCut (lv npin : Nat) (S : SState) : Nat → List Cut → AtC
  | _, [] => .no
  | j, C :: l => match likeCut C.S S with
    | false => atCut lv npin S (j + 1) l
    | true => match guess lv npin C.S S with
      | ⟨t, b, τ⟩ => match SState.mt ⟨t, b⟩ ⟨npin, τ⟩ C.S S with
        | some obs => .yes j ⟨t, b⟩ ⟨npin, τ⟩ obs
        | none => match atCut lv npin S (j + 1) l with
          | .no => .bad j
          | r => r
def flowRun (P : Program) (e : Ext) (lv npin : Nat) (cuts : List Cut) : Nat → Facts → SState → Tree FEnd
  | 0, _, _ => .stuck 110
  | n + 1, fs, S => match sDone S with
    | true => .leaf (.done S)
    | false => Tree.go fs (fun fs' S' => match atCut lv npin S' 0 cuts with
      | .no => flowRun P e lv npin cuts n fs' S'
      | .bad _ => flowRun P e lv npin cuts n fs' S'
      | .yes j σ m obs => .leaf (.cut j σ m obs)) (sstep P e S)
section
variable {P : Program} {X : Nat → Prop} {w0 : World} {cs : List Frame}
theorem atCut_ok {lv npin : Nat} {S : SState} : ∀ {l : List Cut} {k j : Nat} {σ : Su} {m : Nm} {obs : List Ob}, atCut lv npin S k l = .yes j σ m obs → ∃ C, k ≤ j ∧ l[j - k]? = some C ∧ SState.mt σ m C.S S = some obs ∧ m.npin = npin
  | [], _, _, _, _, _, h => by cases h
  | C :: l, k, j, σ, m, obs, h => by
    have next : atCut lv npin S (k + 1) l = .yes j σ m obs → ∃ D, k ≤ j ∧ (C :: l)[j - k]? = some D ∧ SState.mt σ m D.S S = some obs ∧ m.npin = npin := fun h => by
      obtain ⟨D, h1, h2, h3⟩ := atCut_ok h
      refine ⟨D, by omega, ?_, h3⟩
      rw [show j - k = (j - (k + 1)) + 1 by omega]
      simpa using h2
    unfold atCut at h
    split at h
    · exact next h
    · dsimp only at h
      split at h
      · rename_i h1
        cases h
        exact ⟨C, Nat.le_refl _, by simp, h1, rfl⟩
      · split at h
        · cases h
        · exact next h
def FGoes [V : Val] (P : Program) (npin : Nat) (cuts : List Cut) (ρ : Env) (X : Nat → Prop) (w0 : World) (cs : List Frame) (Q : FEnd → Prop) (M : Machine) : Prop :=
  ∃ ρ' S' M' x, Q x ∧ ρ.le ρ' ∧ Steps P M M' ∧ DenS ρ' X w0 (fun _ => True) 0 cs S' M' ∧ match x with
    | .cut j σ m obs => ∃ C, cuts[j]? = some C ∧ SState.mt σ m C.S S' = some obs ∧ m.npin = npin
    | .done S => S = S' ∧ sDone S = true
theorem flowRun_ok [Val] (hok : FnOk P) {e : Ext} (he : ExtOk P e) {lv npin : Nat} {cuts : List Cut} : ∀ {n : Nat} {fs : Facts} {ρ : Env} {S : SState} {Q : FEnd → Prop} {M : Machine}, FactsOk fs → DenS ρ X w0 (fun _ => True) 0 cs S M → (flowRun P e lv npin cuts n fs S).sat Q → FGoes P npin cuts ρ X w0 cs Q M
  | 0, _, _, _, _, _, _, _, hq => hq.elim
  | n + 1, fs, ρ, S, Q, M, hf, hS, hq => by
    unfold flowRun at hq
    split at hq
    · rename_i hdn
      exact ⟨ρ, S, M, _, hq, Env.le_refl _, Steps.refl _ _, hS, rfl, hdn⟩
    · obtain ⟨ρ1, S1, M1, h1, ⟨fs', hf', h2⟩, h3, h4⟩ := sstep_ok hok he hS (Tree.sat_go hf hq)
      split at h2
      · obtain ⟨ρ2, S2, M2, x, g1, g2, g3, g4, g5⟩ := flowRun_ok hok he hf' h4 h2
        exact ⟨ρ2, S2, M2, x, g1, Env.le_trans h1 g2, Steps.trans h3 g3, g4, g5⟩
      · obtain ⟨ρ2, S2, M2, x, g1, g2, g3, g4, g5⟩ := flowRun_ok hok he hf' h4 h2
        exact ⟨ρ2, S2, M2, x, g1, Env.le_trans h1 g2, Steps.trans h3 g3, g4, g5⟩
      · rename_i j σ m obs hc
        obtain ⟨C, _, c1, c2, c3⟩ := atCut_ok hc
        exact ⟨ρ1, S1, M1, _, h2, h1, h3, h4, C, by simpa using c1, c2, c3⟩
inductive FV where
  | cut (j : Nat) (σ : Su)
  | done (v : Option SV) (ents : Ents)
def keepE (e : Ents) : List Nat → Ents
  | [] => []
  | h :: l => match find e h with
    | some o => (h, o) :: keepE e l
    | none => keepE e l
theorem find_keepE [Val] {e : Ents} : ∀ {l : List Nat} {j : Nat} {o : SObj}, find (keepE e l) j = some o → find e j = some o
  | [], _, _, h => by simp [keepE, find] at h
  | i :: l, j, o, h => by
    unfold keepE at h
    split at h
    · rename_i q hq
      rw [find_cons] at h
      split at h
      · rename_i hj
        cases h; subst hj; exact hq
      · exact find_keepE h
    · exact find_keepE h
def FEnd.view (P : Program) (f : FuncId) (keep : List Nat) : FEnd → FV
  | .cut j σ _ _ => .cut j σ
  | .done S => .done (sValue P f S) (keepE S.ents keep)
def Tree.map {α β : Type} (g : α → β) : Tree α → Tree β
  | .leaf a => .leaf (g a)
  | .split b x y => .split b (x.map g) (y.map g)
  | .need p x => .need p (x.map g)
  | .stuck n => .stuck n
theorem Tree.sat_map [Val] {α β : Type} {g : α → β} {Q : β → Prop} : ∀ {t : Tree α}, (t.map g).sat Q → t.sat fun a => Q (g a)
  | .leaf _, h => h
  | .split _ _ _, h => ⟨fun e => Tree.sat_map (h.1 e), fun e => Tree.sat_map (h.2 e)⟩
  | .need _ x, h => ⟨h.1, Tree.sat_map (t := x) h.2⟩
  | .stuck _, h => h
def FEnd.obs : FEnd → List Ob
  | .cut _ _ _ l => l
  | .done _ => []
def Tree.obs : Tree FEnd → List Ob
  | .leaf a => a.obs
  | .split _ x y => x.obs ++ y.obs
  | .need _ x => x.obs
  | .stuck _ => []
theorem Tree.sat_obs [Val] {Q : FEnd → Prop} : ∀ {t : Tree FEnd}, ObsOk t.obs → t.sat Q → t.sat fun a => Q a ∧ ObsOk a.obs
  | .leaf _, h, q => ⟨q, h⟩
  | .split _ _ _, h, q => ⟨fun e => Tree.sat_obs (obs_app h).1 (q.1 e), fun e => Tree.sat_obs (obs_app h).2 (q.2 e)⟩
  | .need _ x, h, q => ⟨q.1, Tree.sat_obs (t := x) h q.2⟩
  | .stuck _, _, q => q
theorem obsOk_of {l : List Ob} (h : l.map (·.1) = l.map (·.2)) : ObsOk l := by
  induction l with
  | nil => exact fun p hp => absurd hp (by simp)
  | cons a l ih =>
    simp only [List.map_cons, List.cons.injEq] at h
    intro p hp
    rcases List.mem_cons.1 hp with rfl | hp
    · exact h.1
    · exact ih h.2 p hp
def flowV (P : Program) (e : Ext) (f : FuncId) (keep : List Nat) (lv npin : Nat) (cuts : List Cut) (n : Nat) (C : Cut) : Tree FV := (flowRun P e lv npin cuts n C.fs C.S).map (FEnd.view P f keep)
def flowO (P : Program) (e : Ext) (lv npin : Nat) (cuts : List Cut) (n : Nat) (C : Cut) : List Ob := (flowRun P e lv npin cuts n C.fs C.S).obs
theorem flow_rule (hok : FnOk P) {e : Ext} {f : FuncId} {keep : List Nat} {lv npin n : Nat} {cuts : List Cut} (Inv : Nat → Val → Prop) (μ : Nat → Val → Nat) (Post : Val → Option SV → Ents → Prop)
    (hE : ∀ j V, Inv j V → @ExtOk V P e) (hF : ∀ (j : Nat) (C : Cut) (V : Val), cuts[j]? = some C → Inv j V → @FactsOk V C.fs)
    (hO : ∀ (j : Nat) (C : Cut), cuts[j]? = some C → (flowO P e lv npin cuts n C).map (·.1) = (flowO P e lv npin cuts n C).map (·.2))
    (hR : ∀ (j : Nat) (C : Cut) (V : Val), cuts[j]? = some C → Inv j V → @Tree.sat V FV (fun x => match x with
      | .cut j' σ => Inv j' (V.put σ) ∧ μ j' (V.put σ) < μ j V
      | .done v ents => Post V v ents) (flowV P e f keep lv npin cuts n C)) :
    ∀ (k : Nat) (j : Nat) (C : Cut) (V : Val), μ j V ≤ k → cuts[j]? = some C → Inv j V → ∀ (ρ : Env) (M : Machine), @DenS V ρ X w0 (fun _ => True) 0 cs C.S M →
      ∃ V' ρ' S' M', Steps P M M' ∧ Post V' (sValue P f S') (keepE S'.ents keep) ∧ sDone S' = true ∧ @DenS V' ρ' X w0 (fun _ => True) 0 cs S' M' ∧ ∀ h, h < npin → ∀ b, ρ h = some b → ρ' h = some b := by
  intro k
  induction k with
  | zero =>
    intro j C V hk hC hI ρ M hS
    obtain ⟨ρ1, S1, M1, x, ⟨g1, g1'⟩, g2, g3, g4, g5⟩ := @flowRun_ok P X w0 cs V hok e (hE j V hI) lv npin cuts n C.fs ρ C.S _ M (hF j C V hC hI) hS (@Tree.sat_obs V _ _ (obsOk_of (hO j C hC)) (@Tree.sat_map V _ _ _ _ _ (hR j C V hC hI)))
    cases x with
    | cut j' σ m obs => have := g1.2; omega
    | done S =>
      obtain ⟨rfl, g6⟩ := g5
      exact ⟨V, ρ1, S, M1, g3, g1, g6, g4, fun h hh b e => g2 h b e⟩
  | succ k ih =>
    intro j C V hk hC hI ρ M hS
    obtain ⟨ρ1, S1, M1, x, ⟨g1, g1'⟩, g2, g3, g4, g5⟩ := @flowRun_ok P X w0 cs V hok e (hE j V hI) lv npin cuts n C.fs ρ C.S _ M (hF j C V hC hI) hS (@Tree.sat_obs V _ _ (obsOk_of (hO j C hC)) (@Tree.sat_map V _ _ _ _ _ (hR j C V hC hI)))
    cases x with
    | cut j' σ m obs =>
      obtain ⟨C', c1, c2, c3⟩ := g5
      have hS' := SState.mt_ok c2 g1' g4
      obtain ⟨V2, ρ2, S2, M2, k1, k2, k3, k4, k5⟩ := ih j' C' (V.put σ) (by have := g1.2; omega) c1 g1.1 (m.env ρ1) M1 hS'
      refine ⟨V2, ρ2, S2, M2, Steps.trans g3 k1, k2, k3, k4, fun h hh b e => k5 h hh b ?_⟩
      rw [Nm.env_pin (by rw [c3]; exact hh)]
      exact g2 h b e
    | done S =>
      obtain ⟨rfl, g6⟩ := g5
      exact ⟨V, ρ1, S, M1, g3, g1, g6, g4, fun h hh b e => g2 h b e⟩
theorem calls_of_flow (hok : FnOk P) {e : Ext} {f : FuncId} {i : FnI} {keep : List Nat} {lv npin n : Nat} {cuts : List Cut} (Inv : Nat → Val → Prop) (μ : Nat → Val → Nat) (Post : Val → Option SV → Ents → Prop)
    (hE : ∀ j V, Inv j V → @ExtOk V P e) (hF : ∀ (j : Nat) (C : Cut) (V : Val), cuts[j]? = some C → Inv j V → @FactsOk V C.fs)
    (hO : ∀ (j : Nat) (C : Cut), cuts[j]? = some C → (flowO P e lv npin cuts n C).map (·.1) = (flowO P e lv npin cuts n C).map (·.2))
    (hR : ∀ (j : Nat) (C : Cut) (V : Val), cuts[j]? = some C → Inv j V → @Tree.sat V FV (fun x => match x with
      | .cut j' σ => Inv j' (V.put σ) ∧ μ j' (V.put σ) < μ j V
      | .done v ents => Post V v ents) (flowV P e f keep lv npin cuts n C))
    (hi' : fnOf P f = some i) {args : List SV} {ents : Ents} {hi : Nat} {fs : Facts} (h0 : cuts[0]? = some ⟨sStart i f args ents npin hi, fs⟩)
    {V : Val} (hI : Inv 0 V) {ρ : Env} {vs : List Value} {w : World} (ha : @SV.DenL V ρ args vs) (hd : @DenH V ρ X w0 (find ents) (Fr (fun _ => True) 0 npin) w) {R : Ending → World → Prop}
    (hP : ∀ V' v ents', Post V' v ents' → ∃ s, v = some s ∧ ∀ ρ' x w', (∀ h, h < npin → ∀ b, ρ h = some b → ρ' h = some b) → @SV.Den V' ρ' s x → @DenH V' ρ' X w0 (find ents') (fun _ => False) w' → R (.returned x) w') : Calls P f vs.toArray w R := by
  intro cs
  have hS : @DenS V ρ X w0 (fun _ => True) 0 cs (sStart i f args ents npin hi) (lone (Frame.enter P f vs.toArray .normal) cs w) := ⟨_, [], w, rfl, @enterS_den V _ _ _ _ _ _ _ hi' ha, rfl, hd, Nat.zero_le _, fun _ _ _ => trivial⟩
  obtain ⟨V', ρ', S', m', h4, h2, hdn, ⟨fr, frs, w', rfl, hfr, hfs, hd', hF'⟩, h5⟩ := flow_rule (P := P) (X := X) (w0 := w0) (cs := cs) hok Inv μ Post hE hF hO hR _ 0 _ V (Nat.le_refl _) h0 hI ρ _ hS
  obtain ⟨s, h2, h3⟩ := hP V' _ _ h2
  obtain ⟨F, hF, hFb, hFn, hFr⟩ := @fnOf_spec V _ _ _ hi'
  unfold sValue at h2
  split at h2 <;> try cases h2
  rename_i i' hb hm hk hi2
  rw [hi'] at hi2
  injection hi2 with hi2; subst hi2
  have hb := Nat.eq_of_beq_eq_true hb
  unfold sDone at hdn
  split at hdn <;> try cases hdn
  · rename_i hstk hm2 hdf
    rw [hstk] at hfs
    simp only [DenFs] at hfs; subst hfs
    have hmode := hfr.mode
    rw [hm] at hmode
    simp only [SMode.Den] at hmode
    have hdefers := hfr.defers
    rw [hdf] at hdefers
    simp only [DenDs] at hdefers
    have hfn : fr.fn = f := hfr.fn.trans hb
    rw [← hFr] at h2
    obtain ⟨v, hv, hsv⟩ := @resultS_ok V' _ _ _ _ _ _ _ _ _ hd' hfr.tmps _ _ h2
    refine ⟨.returned v, w', fr, h3 ρ' v w' h5 hsv ((hd'.drop fun _ _ e => @find_keepE V' _ _ _ _ e).fresh_mono fun _ h => h.elim), h4, hfn, hmode, hdefers, hfr.kind.trans hk, F, by rw [hfn]; exact hF, hv⟩
  · rename_i hm2 _
    rw [hm] at hm2; cases hm2
end
end Go.Sx
/- The state at the head of a loop, as it is in every round: made of the first two rounds (it is looked at afterwards). -/
namespace Go.Sx
set_option linter.unusedSimpArgs false
set_option linter.unusedVariables false
open Go Go.RowKit Go.Cd Go.Proofs.YtnoiijjkjcklpaaGreat Go.MapKept

def Tree.first {α β : Type} (fs : Facts) (f : Facts → α → Option β) : Tree α → Option β
  | .leaf a => f fs a
  | .split b x y => match known fs b with
    | some true => Tree.first fs f x
    | some false => Tree.first fs f y
    | none => match Tree.first (addF fs b true) f x with
      | some r => some r
      | none => Tree.first (addF fs b false) f y
  | .need p x => Tree.first (addF fs p true) f x
  | .stuck _ => none
def runHead (P : Program) (e : Ext) (fn : FuncId) (k : Nat) : Nat → Facts → SState → Option SState
  | 0, _, _ => none
  | n + 1, fs, S => match sDone S with
    | true => none
    | false => Tree.first fs (fun fs' S' => match Nat.beq S'.top.fn fn, isLoopHd S'.top.todo, Nat.beq S'.top.todo.length k with
      | true, true, true => some S'
      | _, _, _ => runHead P e fn k n fs' S') (sstep P e S)
def runHead0 (P : Program) (e : Ext) (fn : FuncId) : Nat → Facts → SState → Option SState
  | 0, _, _ => none
  | n + 1, fs, S => match sDone S with
    | true => none
    | false => Tree.first fs (fun fs' S' => match Nat.beq S'.top.fn fn, isLoopHd S'.top.todo with
      | true, true => some S'
      | _, _ => runHead0 P e fn n fs' S') (sstep P e S)

def jnT (a b : Tm) (k : IntKind) (n : Nat) : Tm × Nat := match Tm.same a b with
  | true => (a, n)
  | false => (.var k n, n + 1)
def jnSI (a b : SI) (k : IntKind) (n : Nat) : SI × Nat := match Tm.same a.tm b.tm with
  | true => (a, n)
  | false => (.sym (.var k n), n + 1)
def jnSB (a b : SB) (n : Nat) : SB × Nat := match Bm.same a.bm b.bm with
  | true => (a, n)
  | false => (.sym (.var n), n + 1)
def jnSN (a b : SN) (n : Nat) : SN × Nat := match a, b with
  | .lit i, .lit j => match Nat.beq i j with
    | true => (a, n)
    | false => (.sym (.var .i64 n), n + 1)
  | .sym s, .sym t => match Tm.same s t with
    | true => (a, n)
    | false => (.sym (.var .i64 n), n + 1)
  | .lit _, .sym _ => (.sym (.var .i64 n), n + 1)
  | .sym _, .lit _ => (.sym (.var .i64 n), n + 1)
  | a, _ => (a, n)
def jnOff (a b : SOff) (n : Nat) : SOff × Nat := match a, b with
  | .lit i, .lit j => match Nat.beq i j with
    | true => (a, n)
    | false => (.any, n)
  | .idx b s l i, .idx c t k j => match Nat.beq b c, Nat.beq s t, Nat.beq l k, Tm.same i j with
    | true, true, true, true => (.idx b s l i, n)
    | true, true, true, false => (.any, n)
    | _, _, _, _ => (.any, n)
  | .raw b s l r i, .raw c t k q j => match Nat.beq b c, Nat.beq s t, Nat.beq l k, Nat.beq r q, Tm.same i j with
    | true, true, true, true, true => (a, n)
    | _, _, _, _, _ => (.any, n)
  | _, _ => (.any, n)
mutual
def jnV : Nat → SV → SV → Nat → SV × Nat
  | _, .bool a, .bool b, n => match jnSB a b n with
    | (c, m) => (.bool c, m)
  | _, .int k a, .int j b, n => match decide (k = j) with
    | true => match jnSI a b k n with
      | (c, m) => (.int k c, m)
    | false => (.any, n)
  | _, .str s, .str t, n => match decide (s = t) with
    | true => (.str s, n)
    | false => (.any, n)
  | _, .nilp, .nilp, n => (.nilp, n)
  | _, .ptr h o, .ptr _ p, n => match jnOff o p n with
    | (q, m) => (.ptr h q, m)
  | _, .nils, .nils, n => (.nils, n)
  | _, .sl h o l c, .sl _ p k d, n => match jnOff o p n with
    | (q, m) => match jnSN l k m with
      | (l', m1) => match jnSN c d m1 with
        | (c', m2) => (.sl h q l' c', m2)
  | _, .nilm, .nilm, n => (.nilm, n)
  | _, .map h, .map _, n => (.map h, n)
  | _, .nilf, .nilf, n => (.nilf, n)
  | _, .fn f xs ys, .fn _ _ _, n => (.fn f xs ys, n)
  | _, .nili, .nili, n => (.nili, n)
  | _, .slp f i, .slp g j, n => match Nat.beq f g with
    | true => match jnT i j .i64 n with
      | (c, m) => (.slp f c, m)
    | false => (.any, n)
  | d + 1, .agg l, .agg k, n => match jnL d l k n with
    | some (r, m) => (.agg r, m)
    | none => (.any, n)
  | d + 1, .tup l, .tup k, n => match jnL d l k n with
    | some (r, m) => (.tup r, m)
    | none => (.any, n)
  | _, _, _, n => (.any, n)
def jnL : Nat → List SV → List SV → Nat → Option (List SV × Nat)
  | _, [], [], n => some ([], n)
  | 0, _, _, _ => none
  | d + 1, x :: l, y :: k, n => match jnV d x y n with
    | (z, m) => match jnL d l k m with
      | some (r, q) => some (z :: r, q)
      | none => none
  | _, _, _, _ => none
end
def jnTs : Tms → Tms → Nat → Tms × Nat
  | .cons a l, .cons b k, n => match jnT a b .i64 n with
    | (c, m) => match jnTs l k m with
      | (r, q) => (.cons c r, q)
  | _, _, n => (.nil, n)
def jnRs : List Nat → List Nat → List Nat
  | h :: l, _ :: k => h :: jnRs l k
  | _, _ => []
def jnO (a b : SObj) (n : Nat) : SObj × Nat := match a, b with
  | .cells l T, .cells k _ => match jnL 1000 l k n with
    | some (r, m) => (.cells r T, m)
    | none => (a, n)
  | .row l c e T, .row k _ _ _ => match jnL 1000 l k n with
    | some (r, m) => (.row r c e T, m)
    | none => (a, n)
  | .abs t x r, .abs _ y s => match jnTs x y n with
    | (z, m) => (.abs t z (jnRs r s), m)
  | a, _ => (a, n)
def jnEs (τ : List (Nat × Nat)) (npin : Nat) (e : Ents) : Ents → Nat → Ents × Nat
  | [], n => ([], n)
  | (h, o) :: l, n => match (match Nm.f ⟨npin, τ⟩ h with
    | some j => match find e j with
      | some o' => jnO o o' n
      | none => (o, n)
    | none => match find e h with
      | some o' => jnO o o' n
      | none => (o, n)) with
    | (o', m) => match jnEs τ npin e l m with
      | (r, q) => ((h, o') :: r, q)
def jnF (a b : SFrame) (n : Nat) : SFrame × Nat := match jnL 2000 a.tmps b.tmps n with
  | some (r, m) => ({ a with tmps := r }, m)
  | none => (a, n)
def jnFs : List SFrame → List SFrame → Nat → List SFrame × Nat
  | a :: l, b :: k, n => match jnF a b n with
    | (c, m) => match jnFs l k m with
      | (r, q) => (c :: r, q)
  | l, _, n => (l, n)
def joinS (lv npin : Nat) (A B : SState) : SState := match jnF A.top B.top lv with
  | (t, n) => match jnFs A.stk B.stk n with
    | (s, m) => match jnEs (guess (2 ^ 60) npin A B).τ npin B.ents A.ents m with
      | (e, _) => { A with top := t, stk := s, ents := e, log := [] }
def badS : SState := { top := { fn := 0, tmps := [], todo := [], defers := [], mode := .run, kind := .normal, round := none }, stk := [], ents := [], next := 0, hi := 0, log := [] }
def headInv (P : Program) (e : Ext) (fn : FuncId) (lv npin n : Nat) (fs : Facts) (S : SState) : SState := match runHead0 P e fn n fs S with
  | some A => match runHead P e fn A.top.todo.length n fs A with
    | some B => joinS lv npin A B
    | none => badS
  | none => badS
def Tree.every {α β : Type} (fs : Facts) (f : Facts → α → List β) : Tree α → List β
  | .leaf a => f fs a
  | .split b x y => match known fs b with
    | some true => Tree.every fs f x
    | some false => Tree.every fs f y
    | none => Tree.every (addF fs b true) f x ++ Tree.every (addF fs b false) f y
  | .need p x => Tree.every (addF fs p true) f x
  | .stuck _ => []
def runHeads (P : Program) (e : Ext) (fn : FuncId) (k : Nat) : Nat → Facts → SState → List SState
  | 0, _, _ => []
  | n + 1, fs, S => match sDone S with
    | true => []
    | false => Tree.every fs (fun fs' S' => match Nat.beq S'.top.fn fn, isLoopHd S'.top.todo, Nat.beq S'.top.todo.length k with
      | true, true, true => [S']
      | _, _, _ => runHeads P e fn k n fs' S') (sstep P e S)
def joinAll (lv npin : Nat) : Nat → SState → List SState → SState × Nat
  | i, A, [] => (A, i)
  | i, A, B :: l => joinAll lv npin (i + 1) (joinS (lv + 100 * i) npin A B) l
def joinR (P : Program) (e : Ext) (fn : FuncId) (lv npin n : Nat) : Nat → Nat → SState → SState
  | 0, _, A => A
  | r + 1, i, A => match joinAll lv npin i A (runHeads P e fn A.top.todo.length n [] A) with
    | (B, j) => joinR P e fn lv npin n r j B
def skipHeads (P : Program) (e : Ext) (fn : FuncId) (n : Nat) : Nat → SState → Option SState
  | 0, A => some A
  | k + 1, A => match runHead P e fn A.top.todo.length n [] A with
    | some B => skipHeads P e fn n k B
    | none => none
def headInvG (P : Program) (e : Ext) (fn : FuncId) (lv npin n : Nat) (fs : Facts) (skip rounds : Nat) (S : SState) : SState := match runHead0 P e fn n fs S with
  | some A => match skipHeads P e fn n skip A with
    | some B => { joinR P e fn lv npin n rounds 0 B with log := [] }
    | none => badS
  | none => badS
def headFst (P : Program) (e : Ext) (fn : FuncId) (n : Nat) (fs : Facts) (S : SState) : SState := match runHead0 P e fn n fs S with
  | some A => { A with log := [] }
  | none => badS
end Go.Sx
/- Maps with keys that are whole numbers, of unknown size; parts of memory by tags. -/
namespace Go.Sx
set_option linter.unusedSimpArgs false
set_option linter.unusedVariables false
open Go Go.RowKit Go.Cd Go.Proofs.YtnoiijjkjcklpaaGreat Go.MapKept

def keyIs (x : Int) : Value → Bool
  | .int .i64 n => decide (n = x)
  | _ => false
def getE (x : Int) : List MapEntry → Option (Nat × Value)
  | [] => none
  | e :: es => match keyIs x e.key with
    | true => some (0, e.val)
    | false => (getE x es).map fun p => (p.1 + 1, p.2)
def IntKeys (es : List MapEntry) : Prop := ∀ e ∈ es, ∃ n, e.key = .int .i64 n
theorem findNow_eq {k0 : IntKind} {x : Int} : ∀ {es : List MapEntry} (i : Nat), IntKeys es → Instr.findNow (.int k0) (.int .i64 x) es i = some ((getE x es).map fun p => (i + p.1, p.2))
  | [], i, _ => rfl
  | e :: es, i, h => by
    obtain ⟨n, hn⟩ := h e (List.mem_cons_self ..)
    have ih := findNow_eq (k0 := k0) (x := x) (es := es) (i + 1) fun e he => h e (List.mem_cons_of_mem _ he)
    unfold getE
    rw [hn]
    by_cases c : n = x
    · subst c
      have hk : keyIs n (.int .i64 n) = true := by simp [keyIs]
      rw [hk]
      simp [Instr.findNow, Instr.sameNow, hn]
    · have hk : keyIs x (.int .i64 n) = false := by simp [keyIs, c]
      have hb : (x == n) = false := by simpa using fun q : x = n => c q.symm
      rw [hk]
      have e0 : Instr.findNow (.int k0) (.int .i64 x) (e :: es) i = Instr.findNow (.int k0) (.int .i64 x) es (i + 1) := by
        obtain ⟨key, val, born⟩ := e
        dsimp only at hn; subst hn
        simp [Instr.findNow, Instr.sameNow, hb]
      rw [e0, ih, Option.map_map]
      congr 2
      funext p
      simp; omega
section
variable {P : Program} {ρ : Env} {X : Nat → Prop} {w0 w : World} {look : Look} {fresh : Nat → Prop}
theorem DenH.seen [Val] (d : DenH ρ X w0 look fresh w) {h : Nat} {o o' : SObj} (hl : look h = some o) (hz' : o'.frz = o.frz) {ρ' : Env} (hle : ρ.le ρ') (hO : ∀ b F, ρ h = some b → OD ρ o b F w → OD ρ' o' b F w) {look' : Look} (hlook : ∀ j, look' j = if j = h then some o' else look j) {fresh' : Nat → Prop} (hf : ∀ j, fresh' j → ρ' j = none) : DenH ρ' X w0 look' fresh' w := by
  obtain ⟨φ, d⟩ := d
  have hex : ∀ j p, look' j = some p → ∃ q, look j = some q ∧ q.frz = p.frz := fun j p e => by
    rw [hlook] at e
    split at e
    · rename_i hj; cases e; subst hj; exact ⟨o, hl, hz'.symm⟩
    · exact ⟨p, e, rfl⟩
  refine ⟨φ, fun j p e => ?_, fun j j' p p' x e e' hz hx hx' => ?_, fun j p x e hz hx => ?_, hf, d.frame, d.size, d.os, d.tape, d.output⟩
  · rw [hlook] at e
    split at e
    · rename_i hj
      cases e; subst hj
      obtain ⟨b, h1, h2⟩ := d.obj j o hl
      exact ⟨b, hle _ _ h1, hO b _ h1 h2⟩
    · obtain ⟨b, h1, h2⟩ := d.obj j p e
      exact ⟨b, hle _ _ h1, h2.keep hle fun _ _ => rfl⟩
  · obtain ⟨q, hq, z⟩ := hex j p e
    obtain ⟨q', hq', _⟩ := hex j' p' e'
    exact d.apart j j' q q' x hq hq' (z.trans hz) hx hx'
  · obtain ⟨q, hq, z⟩ := hex j p e
    exact d.own j q x hq (z.trans hz) hx
theorem DenH.changed [Val] (d : DenH ρ X w0 look fresh w) {h : Nat} {o o' : SObj} (hl : look h = some o) (hoz : o.frz = false) (hoz' : o'.frz = false) {ρ' : Env} (hle : ρ.le ρ') {w' : World} (hO : ∀ b F, ρ h = some b → OD ρ o b F w → OD ρ' o' b F w' ∧ ∀ x, ¬ F x → w'.heap[x]? = w.heap[x]?) (hs : w'.heap.size = w.heap.size) (hos : w'.os = w.os) (ht : w'.tape = w.tape) (hout : w'.output = w.output)
    {look' : Look} (hlook : ∀ j, look' j = if j = h then some o' else look j) {fresh' : Nat → Prop} (hf : ∀ j, fresh' j → ρ' j = none) : DenH ρ' X w0 look' fresh' w' := by
  obtain ⟨φ, d⟩ := d
  obtain ⟨b0, hb0, hO0⟩ := d.obj h o hl
  obtain ⟨hN, hfr⟩ := hO b0 _ hb0 hO0
  have hex : ∀ j p, look' j = some p → ∃ q, look j = some q ∧ q.frz = p.frz := fun j p e => by
    rw [hlook] at e
    split at e
    · rename_i hj; cases e; subst hj; exact ⟨o, hl, hoz.trans hoz'.symm⟩
    · exact ⟨p, e, rfl⟩
  refine ⟨φ, fun j p e => ?_, fun j j' p p' x e e' hz hx hx' => ?_, fun j p x e hz hx => ?_, hf, fun x hx hX => ?_, by rw [hs]; exact d.size, hos.trans d.os, ht.trans d.tape, hout.trans d.output⟩
  · rw [hlook] at e
    split at e
    · rename_i hj
      cases e; subst hj
      exact ⟨b0, hle _ _ hb0, hN⟩
    · rename_i hj
      obtain ⟨b, h1, h2⟩ := d.obj j p e
      exact ⟨b, hle _ _ h1, h2.keep hle fun x hx => hfr x fun hx' => hj (d.apart h j o p x hl e hoz hx' hx).symm⟩
  · obtain ⟨q, hq, z⟩ := hex j p e
    obtain ⟨q', hq', _⟩ := hex j' p' e'
    exact d.apart j j' q q' x hq hq' (z.trans hz) hx hx'
  · obtain ⟨q, hq, z⟩ := hex j p e
    exact d.own j q x hq (z.trans hz) hx
  · by_cases c : φ h x
    · rcases d.own h o x hl hoz c with h1 | h1
      · omega
      · exact absurd h1 hX
    · rw [hfr x c]; exact d.frame x hx hX
end

structure MM where
  dom : Int → Bool
  rt : Int → Int
  bt : Int → Int → Int
  keys : List Int
structure MM.Ok (m : MM) : Prop where
  rt : ∀ k, IntKind.i64.wrap (m.rt k) = m.rt k
  bt : ∀ k j, IntKind.u8.wrap (m.bt k j) = m.bt k j
  sorted : m.keys.Pairwise (· < ·)
  mem : ∀ k, m.dom k = true ↔ k ∈ m.keys
  few : m.keys.length ≤ 2000
  num : ∀ k ∈ m.keys, 0 ≤ k ∧ k < 16777216
def MM.num (m : MM) (i : Int) : Int := m.keys.getD i.toNat 0
def MM.pos (m : MM) (k : Int) : Nat := (m.keys.filter fun x => decide (x < k)).length
def PageAt (rt : Int) (bt : Int → Int) (cs : List Value) : Prop := cs.length = 257 ∧ cs[0]? = some (.int .i64 rt) ∧ ∀ j : Nat, j < 256 → cs[1 + j]? = some (.int .u8 (bt j))
def PMapP (m : MM) (keys : List Int) (blks : List Nat) (b : Nat) (F : Nat → Prop) (w : World) : Prop :=
  ∃ (es : List MapEntry) (clock : Nat) (pb : Int → Nat), w.heap[b]? = some (.map es.toArray clock) ∧ IntKeys es ∧
    (∀ k, (getE k es).map (·.2) = if m.dom k then some (.pointer (some ⟨pb k, 0, none⟩)) else none) ∧
    (∀ k, m.dom k = true → ∃ cs T, w.heap[pb k]? = some (.cells cs.toArray T) ∧ PageAt (m.rt k) (m.bt k) cs) ∧
    (∀ k k', m.dom k = true → m.dom k' = true → pb k = pb k' → k = k') ∧ (∀ k, m.dom k = true → pb k ≠ b) ∧
    (∀ x, F x ↔ x = b ∨ ∃ k, m.dom k = true ∧ x = pb k) ∧
    ∀ (i : Nat) (k : Int) (c : Nat), keys[i]? = some k → blks[i]? = some c → m.dom k = true ∧ pb k = c
def pmapA (m : MM) (keys : List Int) (blks : List Nat) : Abs where
  P := PMapP m keys blks
  stable := fun b F w w' hw h => by
    obtain ⟨es, clock, pb, h1, h2, h3, h4, h5, h6, h7, h8⟩ := h
    refine ⟨es, clock, pb, ?_, h2, h3, fun k hk => ?_, h5, h6, h7, h8⟩
    · rw [hw b ((h7 b).2 (.inl rfl))]; exact h1
    · rw [hw (pb k) ((h7 _).2 (.inr ⟨k, hk, rfl⟩))]; exact h4 k hk
  lt := fun b F w h x hx => by
    obtain ⟨es, clock, pb, h1, h2, h3, h4, h5, h6, h7, h8⟩ := h
    rcases (h7 x).1 hx with rfl | ⟨k, hk, rfl⟩
    · exact (Array.getElem?_eq_some_iff.1 h1).1
    · obtain ⟨cs, T, h9, _⟩ := h4 k hk
      exact (Array.getElem?_eq_some_iff.1 h9).1
theorem pmap_weak (m : MM) (ks ks' : List Int) (rs rs' : List Nat) (b : Nat) (F : Nat → Prop) (w : World) (h : (pmapA m (ks ++ ks') (rs ++ rs')).P b F w) : (pmapA m ks rs).P b F w := by
  obtain ⟨es, clock, pb, h1, h2, h3, h4, h5, h6, h7, h8⟩ := h
  refine ⟨es, clock, pb, h1, h2, h3, h4, h5, h6, h7, fun i k c hk hc => h8 i k c ?_ ?_⟩
  · rw [List.getElem?_append_left (List.getElem?_eq_some_iff.1 hk).1]; exact hk
  · rw [List.getElem?_append_left (List.getElem?_eq_some_iff.1 hc).1]; exact hc
def MemP (rs : List Nat) (b : Nat) (F : Nat → Prop) (w : World) : Prop := (∀ x, F x ↔ x = b) ∧ ∃ (c0 c1 c2 : Value) (T : TypeId), w.heap[b]? = some (.cells #[c0, c1, c2] T) ∧ (∀ r, rs[0]? = some r → c1 = .map (some r)) ∧ ∀ r, rs[1]? = some r → c2 = .map (some r)
def memA (rs : List Nat) : Abs where
  P := MemP rs
  stable := fun b F w w' hw h => by
    obtain ⟨h1, c0, c1, c2, T, h2, h3⟩ := h
    exact ⟨h1, c0, c1, c2, T, by rw [hw b ((h1 b).2 rfl)]; exact h2, h3⟩
  lt := fun b F w h x hx => by
    obtain ⟨h1, c0, c1, c2, T, h2, h3⟩ := h
    obtain rfl := (h1 x).1 hx
    exact (Array.getElem?_eq_some_iff.1 h2).1
theorem mem_weak (rs rs' : List Nat) (b : Nat) (F : Nat → Prop) (w : World) (h : (memA (rs ++ rs')).P b F w) : (memA rs).P b F w := by
  obtain ⟨h1, c0, c1, c2, T, h2, h3, h4⟩ := h
  refine ⟨h1, c0, c1, c2, T, h2, fun r hr => h3 r ?_, fun r hr => h4 r ?_⟩
  · rw [List.getElem?_append_left (List.getElem?_eq_some_iff.1 hr).1]; exact hr
  · rw [List.getElem?_append_left (List.getElem?_eq_some_iff.1 hr).1]; exact hr
def MM.at8 (m : MM) (x : Int) : Int := m.bt (x / 256) (x % 256)
abbrev byteT : TypeId := 5
def BufP (m : MM) (ks : List Int) (b : Nat) (F : Nat → Prop) (w : World) : Prop := match ks with
  | at0 :: cap :: len :: _ => (∀ x, F x ↔ x = b) ∧ 0 ≤ len ∧ len ≤ cap ∧ ∃ (cs : List Value), w.heap[b]? = some (.cells cs.toArray byteT) ∧ (cs.length : Int) = cap ∧ ∀ j : Nat, (j : Int) < len → cs[j]? = some (.int .u8 (m.at8 ((at0 + j) % 4294967296)))
  | _ => ∀ x, F x → x < w.heap.size
theorem bufP_lt {m : MM} {ks : List Int} {b : Nat} {F : Nat → Prop} {w : World} (h : BufP m ks b F w) : ∀ x, F x → x < w.heap.size := by
  unfold BufP at h
  split at h
  · obtain ⟨h1, _, _, cs, h2, _⟩ := h
    intro x hx
    obtain rfl := (h1 x).1 hx
    exact (Array.getElem?_eq_some_iff.1 h2).1
  · exact h
def bufA (m : MM) (ks : List Int) : Abs where
  P := BufP m ks
  stable := fun b F w w' hw h => by
    unfold BufP at h ⊢
    split at h
    · obtain ⟨h1, h3, h4, cs, h2, h5⟩ := h
      exact ⟨h1, h3, h4, cs, by rw [hw b ((h1 b).2 rfl)]; exact h2, h5⟩
    · intro x hx
      have := h x hx
      have hs := hw x hx
      rw [Array.getElem?_eq_getElem this] at hs
      exact (Array.getElem?_eq_some_iff.1 hs).1
  lt := fun b F w h => bufP_lt h
theorem buf_weak (m : MM) (ks ks' : List Int) (b : Nat) (F : Nat → Prop) (w : World) (h : (bufA m (ks ++ ks')).P b F w) : (bufA m ks).P b F w := by
  have hl := bufP_lt (m := m) h
  show BufP m ks b F w
  match ks, h with
  | at0 :: cap :: len :: r, h => exact h
  | [], _ => exact hl
  | [_], _ => exact hl
  | [_, _], _ => exact hl
def firstBad (good : Int → Bool) : Int → Nat → Option Int
  | _, 0 => none
  | a, n + 1 => if good (a % 4294967296) then firstBad good (a + 1) n else some (a % 4294967296)
def goodP (m : MM) (need : Int) (x : Int) : Bool := m.dom (x / 256) && (bits .and .i64 (m.rt (x / 256)) need == need)
def badF (m : MM) (at' : Int) (n : Nat) (need : Int) : Int × Bool := match firstBad (goodP m need) at' n with
  | some a => (a, true)
  | none => (0, false)

def PgsP (m : MM) (ks : List Int) (rs : List Nat) (b : Nat) (F : Nat → Prop) (w : World) : Prop :=
  ∃ (bb cap : Nat → Nat), (0 < m.keys.length → ∃ cs T, w.heap[b]? = some (.cells cs T) ∧ ∀ i, i < m.keys.length → cs[3 * i]? = some (.int .i64 (m.num i)) ∧ cs[3 * i + 1]? = some (.int .i64 (m.rt (m.num i))) ∧ cs[3 * i + 2]? = some (.slice (some ⟨bb i, 0, none⟩) 256 (cap i))) ∧
    (∀ i, i < m.keys.length → 256 ≤ cap i ∧ ∃ ps T, w.heap[bb i]? = some (.cells ps T) ∧ ∀ j : Nat, j < 256 → ps[j]? = some (.int .u8 (m.bt (m.num i) j))) ∧
    (∀ i j, i < m.keys.length → j < m.keys.length → bb i = bb j → i = j) ∧ (∀ i, i < m.keys.length → bb i ≠ b) ∧
    (∀ x, F x ↔ 0 < m.keys.length ∧ x = b ∨ ∃ i, i < m.keys.length ∧ x = bb i) ∧
    ∀ (q : Nat) (k : Int) (c : Nat), ks[q]? = some k → rs[q]? = some c → 0 ≤ k ∧ k.toNat < m.keys.length ∧ bb k.toNat = c
def pgsA (m : MM) (ks : List Int) (rs : List Nat) : Abs where
  P := PgsP m ks rs
  stable := fun b F w w' hw h => by
    obtain ⟨bb, cap, h1, h2, h3, h4, h5, h6⟩ := h
    refine ⟨bb, cap, fun h0 => ?_, fun i hi => ?_, h3, h4, h5, h6⟩
    · rw [hw b ((h5 b).2 (.inl ⟨h0, rfl⟩))]; exact h1 h0
    · rw [hw (bb i) ((h5 _).2 (.inr ⟨i, hi, rfl⟩))]; exact h2 i hi
  lt := fun b F w h x hx => by
    obtain ⟨bb, cap, h1, h2, h3, h4, h5, h6⟩ := h
    rcases (h5 x).1 hx with ⟨h0, rfl⟩ | ⟨i, hi, rfl⟩
    · obtain ⟨cs, T, h9, _⟩ := h1 h0
      exact (Array.getElem?_eq_some_iff.1 h9).1
    · obtain ⟨_, cs, T, h9, _⟩ := h2 i hi
      exact (Array.getElem?_eq_some_iff.1 h9).1
theorem pgs_weak (m : MM) (ks ks' : List Int) (rs rs' : List Nat) (b : Nat) (F : Nat → Prop) (w : World) (h : (pgsA m (ks ++ ks') (rs ++ rs')).P b F w) : (pgsA m ks rs).P b F w := by
  obtain ⟨bb, cap, h1, h2, h3, h4, h5, h6⟩ := h
  refine ⟨bb, cap, h1, h2, h3, h4, h5, fun i k c hk hc => h6 i k c ?_ ?_⟩
  · rw [List.getElem?_append_left (List.getElem?_eq_some_iff.1 hk).1]; exact hk
  · rw [List.getElem?_append_left (List.getElem?_eq_some_iff.1 hc).1]; exact hc
def RmP (m : MM) (rs : List Nat) (b : Nat) (F : Nat → Prop) (w : World) : Prop := (∀ x, F x ↔ x = b) ∧ ∃ (c0 c1 : Value) (T : TypeId), w.heap[b]? = some (.cells #[c0, c1] T) ∧ ∀ r, rs[0]? = some r → if m.keys.length = 0 then c0 = .slice none 0 0 else ∃ cap, m.keys.length ≤ cap ∧ c0 = .slice (some ⟨r, 0, none⟩) m.keys.length cap
def rmA (m : MM) (rs : List Nat) : Abs where
  P := RmP m rs
  stable := fun b F w w' hw h => by
    obtain ⟨h1, c0, c1, T, h2, h3⟩ := h
    exact ⟨h1, c0, c1, T, by rw [hw b ((h1 b).2 rfl)]; exact h2, h3⟩
  lt := fun b F w h x hx => by
    obtain ⟨h1, c0, c1, T, h2, h3⟩ := h
    obtain rfl := (h1 x).1 hx
    exact (Array.getElem?_eq_some_iff.1 h2).1
theorem rm_weak (m : MM) (rs rs' : List Nat) (b : Nat) (F : Nat → Prop) (w : World) (h : (rmA m (rs ++ rs')).P b F w) : (rmA m rs).P b F w := by
  obtain ⟨h1, c0, c1, T, h2, h3⟩ := h
  refine ⟨h1, c0, c1, T, h2, fun r hr => h3 r ?_⟩
  rw [List.getElem?_append_left (List.getElem?_eq_some_iff.1 hr).1]; exact hr
def GrowP (m : MM) (ks : List Int) (rs : List Nat) (b : Nat) (F : Nat → Prop) (w : World) : Prop := match ks with
  | at0 :: len :: _ => (∀ x, F x ↔ x = b) ∧ 0 ≤ len ∧ ∃ (cs : List Value), w.heap[b]? = some (.cells cs.toArray byteT) ∧ len ≤ (cs.length : Int) ∧ (∀ κ, rs[0]? = some κ → κ = cs.length) ∧ ∀ j : Nat, (j : Int) < len → cs[j]? = some (.int .u8 (m.at8 ((at0 + j) % 4294967296)))
  | _ => ∀ x, F x → x < w.heap.size
theorem growP_lt {m : MM} {ks : List Int} {rs : List Nat} {b : Nat} {F : Nat → Prop} {w : World} (h : GrowP m ks rs b F w) : ∀ x, F x → x < w.heap.size := by
  unfold GrowP at h
  split at h
  · obtain ⟨h1, _, cs, h2, _⟩ := h
    intro x hx
    obtain rfl := (h1 x).1 hx
    exact (Array.getElem?_eq_some_iff.1 h2).1
  · exact h
def growA (m : MM) (ks : List Int) (rs : List Nat) : Abs where
  P := GrowP m ks rs
  stable := fun b F w w' hw h => by
    unfold GrowP at h ⊢
    split at h
    · obtain ⟨h1, h3, cs, h2, h5⟩ := h
      exact ⟨h1, h3, cs, by rw [hw b ((h1 b).2 rfl)]; exact h2, h5⟩
    · intro x hx
      have := h x hx
      have hs := hw x hx
      rw [Array.getElem?_eq_getElem this] at hs
      exact (Array.getElem?_eq_some_iff.1 hs).1
  lt := fun b F w h => growP_lt h
theorem grow_weak (m : MM) (ks ks' : List Int) (rs rs' : List Nat) (b : Nat) (F : Nat → Prop) (w : World) (h : (growA m (ks ++ ks') (rs ++ rs')).P b F w) : (growA m ks rs).P b F w := by
  have hl := growP_lt (m := m) h
  show GrowP m ks rs b F w
  match ks, h with
  | at0 :: len :: r, ⟨h1, h2, cs, h3, h4, h5, h6⟩ =>
    refine ⟨h1, h2, cs, h3, h4, fun κ hκ => h5 κ ?_, h6⟩
    rw [List.getElem?_append_left (List.getElem?_eq_some_iff.1 hκ).1]; exact hκ
  | [], _ => exact hl
  | [_], _ => exact hl

def memFi (m : MM) : Nat → List Int → Int
  | 70, [k] => m.pos k
  | 71, [i] => m.num i
  | 72, [i] => m.rt (m.num i)
  | 73, [] => m.keys.length
  | 51, [k] => m.rt k
  | 52, [k, j] => m.bt k j
  | 55, [a, n, q] => (badF m a n.toNat q).1
  | _, _ => 0
def memFb (m : MM) : Nat → List Int → Bool
  | 50, [k] => m.dom k
  | 55, [a, n, q] => (badF m a n.toNat q).2
  | _, _ => false
def isPMap : Nat → Bool
  | 50 => true
  | 1050 => true
  | _ => false
def memAbs (m : MM) : Nat → List Int → List Nat → Abs
  | 50, ks, rs => pmapA m ks rs
  | 1050, ks, rs => pmapA m ks rs
  | 1060, _, rs => memA rs
  | 60, ks, _ => bufA m ks
  | 1070, _, rs => rmA m rs
  | 1080, ks, rs => pgsA m ks rs
  | 61, ks, rs => growA m ks rs
  | _, _, _ => Abs.no
@[reducible] def memVal (m : MM) (ints : Nat → Int) (bools : Nat → Bool) : Val := ⟨ints, bools, memFi m, memFb m, memAbs m, fun t ks ks' rs rs' b F w h => by
  unfold memAbs at h ⊢
  split at h
  · exact pmap_weak _ _ _ _ _ _ _ _ h
  · exact pmap_weak _ _ _ _ _ _ _ _ h
  · exact mem_weak _ _ _ _ _ h
  · exact buf_weak _ _ _ _ _ _ h
  · exact rm_weak _ _ _ _ _ _ h
  · exact pgs_weak _ _ _ _ _ _ _ _ h
  · exact grow_weak _ _ _ _ _ _ _ _ h
  · exact h.elim⟩
theorem memAbs_pmap (m : MM) {t : Nat} (ht : isPMap t = true) (ks : List Int) (rs : List Nat) : memAbs m t ks rs = pmapA m ks rs := by
  unfold isPMap at ht
  split at ht <;> first | rfl | cases ht
def snocT : Tms → Tm → Tms
  | .nil, k => .cons k .nil
  | .cons a l, k => .cons a (snocT l k)
theorem snocT_v [Val] : ∀ (l : Tms) (k : Tm), (snocT l k).v = l.v ++ [k.v]
  | .nil, k => rfl
  | .cons a l, k => by simp [snocT, Tms.v, snocT_v l k]
def keyAt : Tms → List Nat → Nat → Option Tm
  | .cons k l, h :: r, j => match Nat.beq h j with
    | true => some k
    | false => keyAt l r j
  | _, _, _ => none
theorem keyAt_ok [Val] {ρ : Env} : ∀ {l : Tms} {r : List Nat} {j : Nat} {k : Tm} {rs : List Nat}, keyAt l r j = some k → DenRs ρ r rs → ∃ (i c : Nat), l.v[i]? = some k.v ∧ rs[i]? = some c ∧ ρ j = some c
  | .nil, r, j, k, rs, h, _ => by cases r <;> cases h
  | .cons a l, [], j, k, rs, h, _ => by cases h
  | .cons a l, x :: r, j, k, rs, h, hd => by
    obtain ⟨b, rs', rfl, e2, e3⟩ := hd
    unfold keyAt at h
    split at h
    · rename_i hx
      cases h
      have hx := Nat.eq_of_beq_eq_true hx; subst hx
      exact ⟨0, b, rfl, rfl, e2⟩
    · obtain ⟨i, c, h1, h2, h3⟩ := keyAt_ok h e3
      exact ⟨i + 1, c, by simpa [Tms.v] using h1, by simpa using h2, h3⟩
theorem denRs_snoc {ρ : Env} {h b : Nat} (hb : ρ h = some b) : ∀ {l rs : List Nat}, DenRs ρ l rs → DenRs ρ (l ++ [h]) (rs ++ [b])
  | [], rs, hd => by cases hd; exact ⟨b, [], rfl, hb, rfl⟩
  | x :: l, rs, hd => by
    obtain ⟨c, rs', rfl, e2, e3⟩ := hd
    exact ⟨c, rs' ++ [b], rfl, e2, denRs_snoc hb e3⟩
theorem denRs_len {ρ : Env} : ∀ {l rs : List Nat}, DenRs ρ l rs → rs.length = l.length
  | [], rs, hd => by cases hd; rfl
  | x :: l, rs, hd => by
    obtain ⟨c, rs', rfl, e2, e3⟩ := hd
    simp [denRs_len e3]
def Tms.len : Tms → Nat
  | .nil => 0
  | .cons _ l => l.len + 1
theorem Tms.len_v [Val] : ∀ l : Tms, l.v.length = l.len
  | .nil => rfl
  | .cons _ l => by simp [Tms.v, Tms.len, Tms.len_v l]
def pmapAx (P : Program) (hp : Nat) : Ax := fun look id o xs => match o, xs with
  | .lookup t _ _ false, some [.map h, .int .i64 k] => match look h with
    | some (.abs t0 args refs) => match isPMap t0, mapOf P t, Nat.beq args.len refs.length with
      | true, some (_, _, .nilp), true => some (.split (.fn 50 (.cons k.tm .nil)) (.val (.ptr id (.lit 0)) [.set h (.abs t0 (snocT args k.tm) (refs ++ [id]))] []) (.val .nilp [] []))
      | _, _, _ => none
    | _ => none
  | .load t _, some [.ptr j (.lit 0)] => match look hp with
    | some (.abs t0 args refs) => match isPMap t0, keyAt args refs j with
      | true, some k => match tyOf P t with
        | some ti => match ti.desc.isRow with
          | false => some (.val (.int .i64 (.sym (.fn .i64 51 (.cons k .nil)))) [] [])
          | true => none
        | none => none
      | _, _ => none
    | _ => none
  | .load t _, some [.ptr h (.lit 1)] => match look h, tyOf P t with
    | some (.abs 1060 _ (r :: _)), some ti => match ti.desc.isRow with
      | false => some (.val (.map r) [] [])
      | true => none
    | _, _ => none
  | _, _ => none
theorem pmapAx_safe (P : Program) (hp : Nat) : AxSafe (pmapAx P hp) := fun look id o => by
  cases o <;> try rfl
  rename_i t x i c
  cases c <;> rfl
theorem pmapAx_okV [V : Val] {m : MM} (hm : m.Ok) (h51 : ∀ k, V.fi 51 [k] = m.rt k) (h50 : ∀ k, V.fb 50 [k] = m.dom k) (habs : ∀ t ks rs, isPMap t = true → V.abs t ks rs = pmapA m ks rs) (h1060 : ∀ ks rs, V.abs 1060 ks rs = memA rs) (P : Program) (hp : Nat) : AxOk P (pmapAx P hp) := by
  intro look id o xs out h ρ X w0 w fresh e op ho hxs d hid hid1
  unfold pmapAx at h
  split at h <;> try (cases h; done)
  · -- a page
    rename_i t x i h0 k heq
    cases heq
    split at h <;> try (cases h; done)
    rename_i t0 args refs hl
    split at h <;> cases h
    rename_i kt et ht0 hmo hlen
    have hlen := Nat.eq_of_beq_eq_true hlen
    obtain ⟨k0, j, zv, u1, u2, u3, u4, u5⟩ := mapOf_spec hmo
    have hz : zv = .pointer none := by
      have := ofVal_den (ρ := ρ) u5
      simpa only [SV.Den] using this
    subst hz
    have hops : op.op.operands.toList = [x, i] := by rw [ho]; rfl
    rw [show (Op.lookup t x i false).operands.toList = [x, i] from rfl] at hxs
    obtain ⟨v1, _, e1, h1, r1⟩ := denL_cons.1 hxs
    obtain ⟨v2, _, e2, h2, r2⟩ := denL_cons.1 r1
    subst e2
    simp only [List.map_cons, List.map_nil, List.cons.injEq, and_true] at e1
    obtain ⟨e1, e2, _⟩ := e1
    simp only [SV.Den] at h1 h2
    obtain ⟨b, hb, hv1⟩ := h1
    have d2 := d
    obtain ⟨φ, dd⟩ := d2
    obtain ⟨b', hb', rs, hrs, hPP⟩ := dd.obj _ _ hl
    rw [show (Val.abs t0 args.v rs) = pmapA m args.v rs from habs _ _ _ ht0] at hPP
    obtain ⟨es, clock, pb, g1, g2, g3, g4, g5, g6, g7, g8⟩ := hPP
    obtain rfl : b' = b := by rw [hb] at hb'; injection hb' with q; exact q.symm
    have hkey : (getE k.v es).map (·.2) = if m.dom k.v then some (.pointer (some ⟨pb k.v, 0, none⟩)) else none := g3 k.v
    have hf : Instr.findNow (.int k0) (.int .i64 k.v) es 0 = some ((getE k.v es).map fun p => (0 + p.1, p.2)) := findNow_eq 0 g2
    have hdom : (Bm.fn 50 (.cons k.tm .nil)).v = m.dom k.v := by
      show Val.fb 50 [k.tm.v] = _
      rw [h50, SI.tm_v]
    have hrun : ∀ v : Value, (getE k.v es).map (·.2) = (if m.dom k.v then some v else none) → (Instr.lookup t (e x) (e i) false).run P w = .ok (if m.dom k.v then v else .pointer none) w := fun v hv => by
      rw [e1, e2, hv1, h2]
      cases hg : getE k.v es with
      | none =>
        rw [hg] at hv hf
        have : m.dom k.v = false := by
          cases hq : m.dom k.v with
          | false => rfl
          | true => rw [hq] at hv; simp at hv
        simp [Instr.lookup, run_underlying u1, run_checkKey_int u2, Instr.findKey, run_underlying u2, getMap g1, hf, zeroValue, typeInfo, u3, u4, this]
      | some p =>
        rw [hg] at hv hf
        have hq : m.dom k.v = true := by
          cases hq : m.dom k.v with
          | true => rfl
          | false => rw [hq] at hv; simp at hv
        rw [hq] at hv
        have hp2 : p.2 = v := by simpa using hv
        simp [Instr.lookup, run_underlying u1, run_checkKey_int u2, Instr.findKey, run_underlying u2, getMap g1, hf, hq, hp2]
    have hr := hrun _ hkey
    have hex : execOp e op = (do pure (.value (← Instr.lookup t (e x) (e i) false))) := by
      obtain ⟨dst, op', ty, pos, after, guard⟩ := op
      dsimp only at ho; subst ho
      rfl
    rw [hex]
    refine ⟨fun hb1 => ?_, fun hb1 => ?_⟩
    · rw [hdom] at hb1
      rw [hb1, if_pos rfl] at hr
      have hle : ρ.le (ρ.put id (pb k.v)) := Env.le_put _ (d.newName hid)
      refine ⟨.value (.pointer (some ⟨pb k.v, 0, none⟩)), .pointer (some ⟨pb k.v, 0, none⟩), ρ.put id (pb k.v), w, by simp only [Sem.run_bind, hr, Result.andThen_ok, Sem.run_pure], .inl rfl, hle, ?_, ?_⟩
      · simp only [SV.Den, SOff.Den]
        exact ⟨pb k.v, 0, Env.put_same _ _ _, rfl, rfl⟩
      · refine d.seen hl (by rfl) hle (o' := .abs t0 (snocT args k.tm) (refs ++ [id])) (fun b2 F hb2 hO => ?_) (fun j => rfl) fun j hj => ?_
        · obtain ⟨rs', hrs', hPP'⟩ := hO
          rw [show (Val.abs t0 args.v rs') = pmapA m args.v rs' from habs _ _ _ ht0] at hPP'
          obtain ⟨es', clock', pb', q1, q2, q3, q4, q5, q6, q7, q8⟩ := hPP'
          obtain rfl : b2 = b' := by rw [hb] at hb2; injection hb2 with q; exact q.symm
          rw [g1] at q1
          have q1 : es = es' ∧ clock = clock' := by
            injection q1 with q1; injection q1 with q1 q1'
            exact ⟨by simpa using q1, q1'⟩
          obtain ⟨rfl, rfl⟩ := q1
          have hpb : ∀ k, m.dom k = true → pb k = pb' k := fun k hk => by
            have a1 := g3 k
            rw [q3 k, hk, if_pos rfl, if_pos rfl] at a1
            injection a1 with a1; injection a1 with a1; injection a1 with a1; injection a1 with a1
            exact a1.symm
          refine ⟨rs' ++ [pb' k.v], denRs_snoc (by rw [Env.put_same, hpb _ hb1]) (hrs'.mono hle), ?_⟩
          rw [show (Val.abs t0 (snocT args k.tm).v (rs' ++ [pb' k.v])) = pmapA m (snocT args k.tm).v (rs' ++ [pb' k.v]) from habs _ _ _ ht0]
          refine ⟨es, clock, pb', g1, q2, q3, q4, q5, q6, q7, fun i k' c hk' hc => ?_⟩
          rw [snocT_v, SI.tm_v] at hk'
          have hl1 : args.v.length = rs'.length := by rw [Tms.len_v, hlen, denRs_len hrs']
          by_cases hi : i < args.v.length
          · rw [List.getElem?_append_left hi] at hk'
            rw [List.getElem?_append_left (by omega)] at hc
            exact q8 i k' c hk' hc
          · rw [List.getElem?_append_right (by omega)] at hk'
            rw [List.getElem?_append_right (by omega)] at hc
            have hi0 : i - args.v.length = 0 := by
              have := (List.getElem?_eq_some_iff.1 hk').1
              simpa using this
            have hi1 : i - rs'.length = 0 := by omega
            rw [hi0] at hk'
            rw [hi1] at hc
            simp at hk' hc
            subst hk' hc
            exact ⟨hb1, rfl⟩
        · rw [Env.put_other _ _ hj.2.1]; exact d.newName hj.1
    · rw [hdom] at hb1
      rw [hb1] at hr
      exact Good.value d hr (by simp [SV.Den])
  · -- its rights
    rename_i t a j heq
    cases heq
    split at h <;> try (cases h; done)
    rename_i t0 args refs hl
    split at h <;> try (cases h; done)
    rename_i k ht0 hk
    split at h <;> try (cases h; done)
    rename_i ti hti
    split at h <;> cases h
    rename_i hrow
    obtain ⟨_, _, hu, _, _, _⟩ := tyOf_spec hti
    rw [show (Op.load t a).operands.toList = [a] from rfl] at hxs
    obtain ⟨v1, _, e1, h1, r1⟩ := denL_cons.1 hxs
    simp only [List.map_cons, List.map_nil, List.cons.injEq] at e1
    obtain ⟨e1, _⟩ := e1
    simp only [SV.Den, SOff.Den] at h1
    obtain ⟨b, mm, hb, hm0, hv1⟩ := h1
    subst hm0
    have d2 := d
    obtain ⟨φ, dd⟩ := d2
    obtain ⟨b', hb', rs, hrs, hPP⟩ := dd.obj _ _ hl
    rw [show (Val.abs t0 args.v rs) = pmapA m args.v rs from habs _ _ _ ht0] at hPP
    obtain ⟨es, clock, pb, g1, g2, g3, g4, g5, g6, g7, g8⟩ := hPP
    obtain ⟨i, c, c1, c2, c3⟩ := keyAt_ok hk hrs
    rw [hb] at c3; cases c3
    obtain ⟨hd, rfl⟩ := g8 i k.v b c1 c2
    obtain ⟨cs, T, p1, p2, p3, p4⟩ := g4 _ hd
    have hcell : w.cell? ⟨pb k.v, 0, none⟩ = some (.int .i64 (m.rt k.v)) := cell_of_heap p1 (by simpa using p3)
    have hex : execOp e op = (do pure (.value (← Instr.loadAt t (e a)))) := by
      obtain ⟨dst, op', ty, pos, after, guard⟩ := op
      dsimp only at ho; subst ho
      rfl
    rw [hex, e1, hv1]
    refine Good.value d (run_loadAt_cell hu hrow hcell) ?_
    simp only [SV.Den, SI.sym_v]
    show _ = Value.int .i64 (IntKind.i64.wrap (Val.fi 51 [k.v]))
    rw [h51, hm.rt]
  · -- the map of a memory
    rename_i t a j heq
    cases heq
    split at h <;> try (cases h; done)
    rename_i args r refs ti hl hti
    split at h <;> cases h
    rename_i hrow
    obtain ⟨_, _, hu, _, _, _⟩ := tyOf_spec hti
    rw [show (Op.load t a).operands.toList = [a] from rfl] at hxs
    obtain ⟨v1, _, e1, h1, r1⟩ := denL_cons.1 hxs
    simp only [List.map_cons, List.map_nil, List.cons.injEq] at e1
    obtain ⟨e1, _⟩ := e1
    simp only [SV.Den, SOff.Den] at h1
    obtain ⟨b, mm, hb, hm0, hv1⟩ := h1
    subst hm0
    have d2 := d
    obtain ⟨φ, dd⟩ := d2
    obtain ⟨b', hb', rs, hrs, hPP⟩ := dd.obj _ _ hl
    rw [h1060] at hPP
    obtain ⟨g1, c0, c1, c2, T, g2, g3, g4⟩ := hPP
    obtain rfl : b' = b := by rw [hb] at hb'; injection hb' with q; exact q.symm
    obtain ⟨c, rs', rfl, q2, q3⟩ := hrs
    have hc1 := g3 c rfl
    subst hc1
    have hcell : w.cell? ⟨b', 1, none⟩ = some (.map (some c)) := cell_of_heap g2 rfl
    have hex : execOp e op = (do pure (.value (← Instr.loadAt t (e a)))) := by
      obtain ⟨dst, op', ty, pos, after, guard⟩ := op
      dsimp only at ho; subst ho
      rfl
    rw [hex, e1, hv1]
    refine Good.value d (run_loadAt_cell hu hrow hcell) ?_
    simp only [SV.Den]
    exact ⟨c, q2, rfl⟩
theorem pmapAx_ok {m : MM} (hm : m.Ok) (ints : Nat → Int) (bools : Nat → Bool) (P : Program) (hp : Nat) : letI := memVal m ints bools; AxOk P (pmapAx P hp) := by
  letI := memVal m ints bools
  exact pmapAx_okV hm (fun _ => rfl) (fun _ => rfl) (fun t ks rs ht => memAbs_pmap m ht ks rs) (fun _ _ => rfl) P hp
end Go.Sx
