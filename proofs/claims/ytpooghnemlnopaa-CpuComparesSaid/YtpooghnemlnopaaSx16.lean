/- Symbolic runs, and the calls that they show. -/
import Derived.Test.YtpooghnemlnopaaSx15
namespace Go.Sx
set_option linter.unusedSimpArgs false
set_option linter.unusedVariables false
open Go Go.RowKit Go.Cd Go.Proofs.Ytpooghnemlnopaa Go.MapKept
section
variable {P : Program} {X : Nat → Prop} {w0 : World} {F : Nat → Prop} {lo : Nat} {cs : List Frame}

theorem sCode_ok [Val] (hok : FnOk P) {dr : Ext} (hdr : ExtOk P dr) {ρ : Env} {S : SState} {Q : SState → Prop} {fn : FuncId} {tm : Array Value} {c : Code} {k : List Item} {sk : List SItem} {ds : List Deferred} {kd : CallKind} {ro : Option Nat} {frs : List Frame} {w : World}
    (hfr : S.top.Den ρ ⟨fn, tm, .code c :: k, ds, .run, kd, ro⟩) (hmode : S.top.mode = .run) (hk : DenIs ρ sk k) (hfs : DenFs ρ S.stk frs) (hd : DenH ρ X w0 (find S.ents) (Fr F lo S.next) w) (hF : FrOk F lo S.next S.hi)
    (hq : (sCode P dr S c sk).sat Q) : Goes P ρ X w0 F lo cs Q (lone ⟨fn, tm, .code c :: k, ds, .run, kd, ro⟩ (frs ++ cs) w) := by
  have tto : ∀ {td : List SItem} {l : List Item}, DenIs ρ td l → DenS ρ X w0 F lo cs { S with top := { S.top with todo := td } } (lone ⟨fn, tm, l, ds, .run, kd, ro⟩ (frs ++ cs) w) := fun h =>
    ⟨_, frs, w, rfl, ⟨hfr.fn, hfr.tmps, h, hfr.defers, by rw [hmode]; rfl, hfr.kind, hfr.round⟩, hfs, hd, hF⟩
  cases c with
  | skip => exact .one (Env.le_refl _) hq st_skip (tto hk)
  | label l => exact .one (Env.le_refl _) hq st_label (tto hk)
  | seq a b => exact .one (Env.le_refl _) hq st_seq (tto ⟨_, _, rfl, rfl, _, _, rfl, rfl, hk⟩)
  | block n a => exact .one (Env.le_refl _) hq st_block (tto ⟨_, _, rfl, rfl, _, _, rfl, rfl, hk⟩)
  | loop a => exact .one (Env.le_refl _) hq st_loop (tto ⟨_, _, rfl, rfl, _, _, rfl, rfl, hk⟩)
  | scope a => exact .one (Env.le_refl _) hq st_scope (tto ⟨_, _, rfl, rfl, _, _, rfl, rfl, hk⟩)
  | cond x a b =>
    simp only [sCode] at hq
    split at hq
    · rename_i hx
      have hv := evalS_ok hfr.tmps _ _ hx
      simp only [SV.Den, SB.lit_v] at hv
      have hst := st_cond (P := P) (fn := fn) (k := k) (ds := ds) (kd := kd) (ro := ro) (cs := frs ++ cs) (w := w) (a := a) (b := b) hv
      exact .one (Env.le_refl _) hq hst (tto ⟨_, _, rfl, rfl, hk⟩)
    · rename_i hx
      have hv := evalS_ok hfr.tmps _ _ hx
      simp only [SV.Den, SB.lit_v] at hv
      have hst := st_cond (P := P) (fn := fn) (k := k) (ds := ds) (kd := kd) (ro := ro) (cs := frs ++ cs) (w := w) (a := a) (b := b) hv
      exact .one (Env.le_refl _) hq hst (tto ⟨_, _, rfl, rfl, hk⟩)
    · rename_i t hx
      have hv := evalS_ok hfr.tmps _ _ hx
      simp only [SV.Den, SB.sym_v] at hv
      cases hb : t.v with
      | true =>
        rw [hb] at hv
        have hst := st_cond (P := P) (fn := fn) (k := k) (ds := ds) (kd := kd) (ro := ro) (cs := frs ++ cs) (w := w) (a := a) (b := b) hv
        exact .one (Env.le_refl _) (hq.1 hb) hst (tto ⟨_, _, rfl, rfl, hk⟩)
      | false =>
        rw [hb] at hv
        have hst := st_cond (P := P) (fn := fn) (k := k) (ds := ds) (kd := kd) (ro := ro) (cs := frs ++ cs) (w := w) (a := a) (b := b) hv
        exact .one (Env.le_refl _) (hq.2 hb) hst (tto ⟨_, _, rfl, rfl, hk⟩)
    · exact hq.elim
  | exit n =>
    simp only [sCode] at hq
    have he := sexitTo_ok (n := n) hk
    split at hq
    · rename_i k' hk'
      rw [hk'] at he
      obtain ⟨l, h1, h2⟩ := he
      exact .one (Env.le_refl _) hq (st_exit h1) (tto h2)
    · rename_i hk'
      rw [hk'] at he
      exact sLeave_ok hfr hmode hfs hd hF (.inr (.inr (.inl ⟨n, k, rfl, he, rfl, rfl⟩))) hq
  | goto n =>
    simp only [sCode] at hq
    have he := sgotoIn_ok (n := n) hk
    split at hq
    · rename_i k' hk'
      rw [hk'] at he
      obtain ⟨l, h1, h2⟩ := he
      exact .one (Env.le_refl _) hq (st_goto h1) (tto h2)
    · rename_i hk'
      rw [hk'] at he
      exact sLeave_ok hfr hmode hfs hd hF (.inr (.inr (.inr ⟨n, k, rfl, he, rfl, rfl⟩))) hq
  | ret => exact sLeave_ok hfr hmode hfs hd hF (.inr (.inl ⟨⟨k, rfl⟩, rfl, rfl⟩)) hq
  | region n ops draw =>
    simp only [sCode] at hq
    split at hq
    · exact .one (Env.le_refl _) hq st_region (tto ⟨_, _, rfl, rfl, hk⟩)
    · split at hq
      · rename_i tmps' ents' next' log' rest hdd
        obtain ⟨ρ', tm', w', h1, h2, h3, h4, h5⟩ := hdr.dr _ _ _ _ _ _ _ _ _ _ _ hdd ρ X w0 F lo (frs ++ cs) fn tm k ds kd ro { w with drawn := w.drawn + 1 } (w.tape w.drawn (.order fn n)) hfr.tmps (hd.drawn _) hF
        exact ⟨ρ', _, _, h1, hq, .head st_region_draw h2, _, frs, w', rfl, ⟨hfr.fn, h3, ⟨_, _, rfl, rfl, hk.mono h1⟩, hfr.defers.mono h1, by rw [hmode]; rfl, hfr.kind, hfr.round.mono h1⟩, hfs.mono h1, h4, hF.more h5⟩
      · exact hq.elim
  | rangeFunc f params assign body => exact sRangeFunc_ok hok hfr hmode hk hfs hd hF hq
  | refuse why => exact hq.elim
theorem sItem_ok [Val] (hok : FnOk P) {dr : Ext} (hdr : ExtOk P dr) {ρ : Env} {S : SState} {Q : SState → Prop} {fn : FuncId} {tm : Array Value} {it : Item} {si : SItem} {k : List Item} {sk : List SItem} {ds : List Deferred} {kd : CallKind} {ro : Option Nat} {frs : List Frame} {w : World}
    (hfr : S.top.Den ρ ⟨fn, tm, it :: k, ds, .run, kd, ro⟩) (hmode : S.top.mode = .run) (hi : si.Den ρ it) (hk : DenIs ρ sk k) (hfs : DenFs ρ S.stk frs) (hd : DenH ρ X w0 (find S.ents) (Fr F lo S.next) w) (hF : FrOk F lo S.next S.hi)
    (hq : (sItem P dr S si sk).sat Q) : Goes P ρ X w0 F lo cs Q (lone ⟨fn, tm, it :: k, ds, .run, kd, ro⟩ (frs ++ cs) w) := by
  have tto : ∀ {td : List SItem} {l : List Item}, DenIs ρ td l → DenS ρ X w0 F lo cs { S with top := { S.top with todo := td } } (lone ⟨fn, tm, l, ds, .run, kd, ro⟩ (frs ++ cs) w) := fun h =>
    ⟨_, frs, w, rfl, ⟨hfr.fn, hfr.tmps, h, hfr.defers, by rw [hmode]; rfl, hfr.kind, hfr.round⟩, hfs, hd, hF⟩
  cases si with
  | code c => simp only [SItem.Den] at hi; subst hi; exact sCode_ok hok hdr hfr hmode hk hfs hd hF hq
  | inBlock n => simp only [SItem.Den] at hi; subst hi; exact .one (Env.le_refl _) hq st_inBlock (tto hk)
  | inScope c => simp only [SItem.Den] at hi; subst hi; exact .one (Env.le_refl _) hq st_inScope (tto hk)
  | inLoop c => simp only [SItem.Den] at hi; subst hi; exact .one (Env.le_refl _) hq st_inLoop (tto ⟨_, _, rfl, rfl, _, _, rfl, rfl, hk⟩)
  | inRegion ops l =>
    simp only [SItem.Den] at hi; subst hi
    cases l with
    | nil => exact .one (Env.le_refl _) hq st_region_end (tto hk)
    | cons i rest => exact sOp_ok hok hdr hfr hmode hk hfs hd hF hq
  | inRangeFunc h => exact hq.elim
  | endRangeFunc h =>
    obtain ⟨l, hl, rfl⟩ := hi
    simp only [sItem] at hq
    split at hq <;> try exact hq.elim
    rename_i L hL
    obtain ⟨b, obj, hb, hobj, hden⟩ := hd.at hL rfl
    obtain rfl : b = l := by rw [hl] at hb; injection hb with e; exact e.symm
    obtain ⟨LL, hLL, rfl⟩ := hden
    split at hq
    · exact hq.elim
    · rename_i hne
      have hst := st_endRangeFunc (P := P) (fn := fn) (tmps := tm) (k := k) (ds := ds) (kd := kd) (ro := ro) (cs := frs ++ cs) (run_endLoop hobj (by rw [hLL.state]; exact fun e => hne e))
      refine .one (Env.le_refl _) hq hst ⟨_, frs, _, rfl, ⟨hfr.fn, hfr.tmps, ?_, hfr.defers, by rw [hmode]; rfl, hfr.kind, hfr.round⟩, hfs, ?_, hF⟩
      · dsimp only
        rw [hLL.pending]
        cases L.pending with
        | none => simpa using hk
        | some c => exact ⟨_, _, rfl, rfl, by simpa using hk⟩
      · exact hd.put hL rfl hb (o' := .loop { L with state := .exhausted }) rfl (World.putObj_heap_same (lt_of_heap hobj)) (only_putObj _ _ _) ⟨{ LL with state := .exhausted }, ⟨rfl, hLL.pending, hLL.fn, hLL.tmps, hLL.params, hLL.assign, hLL.body, hLL.defers⟩, rfl⟩ (fun j => find_upd _ _ _ j)
  | beginRound =>
    simp only [SItem.Den] at hi; subst hi
    simp only [sItem] at hq
    split at hq <;> try exact hq.elim
    rename_i h hr
    split at hq <;> try exact hq.elim
    rename_i L hL
    have hro := hfr.round
    rw [hr] at hro
    obtain ⟨l, hl, e⟩ := hro
    dsimp only at e; subst e
    obtain ⟨b, obj, hb, hobj, hden⟩ := hd.at hL rfl
    obtain rfl : b = l := by rw [hl] at hb; injection hb with e; exact e.symm
    obtain ⟨LL, hLL, rfl⟩ := hden
    split at hq <;> try exact hq.elim
    rename_i hs
    have hst := st_beginRound (P := P) (fn := fn) (tmps := tm) (k := k) (ds := ds) (kd := kd) (cs := frs ++ cs) (run_beginRound hobj (by rw [hLL.state, hs]))
    refine .one (Env.le_refl _) hq hst ⟨_, frs, _, rfl, ⟨hfr.fn, hfr.tmps, hk, hfr.defers, by rw [hmode]; rfl, hfr.kind, hfr.round⟩, hfs, ?_, hF⟩
    exact hd.put hL rfl hb (o' := .loop { L with state := .busy }) rfl (World.putObj_heap_same (lt_of_heap hobj)) (only_putObj _ _ _) ⟨{ LL with state := .busy }, ⟨rfl, hLL.pending, hLL.fn, hLL.tmps, hLL.params, hLL.assign, hLL.body, hLL.defers⟩, rfl⟩ (fun j => find_upd _ _ _ j)
theorem sstep_ok [Val] (hok : FnOk P) {dr : Ext} (hdr : ExtOk P dr) {ρ : Env} {S : SState} {Q : SState → Prop} {m : Machine} (hS : DenS ρ X w0 F lo cs S m) (hq : (sstep P dr S).sat Q) : Goes P ρ X w0 F lo cs Q m := by
  obtain ⟨fr, frs, w, rfl, hfr, hfs, hd, hF⟩ := hS
  have hm := hfr.mode
  have htd := hfr.todo
  unfold sstep at hq
  split at hq
  · rename_i hmode
    split at hq
    · rename_i hto
      rw [hto] at htd
      exact sLeave_ok hfr hmode hfs hd hF (.inl ⟨htd, rfl, rfl⟩) hq
    · rename_i si sk hto
      rw [hto] at htd
      obtain ⟨it, k, e, h1, h2⟩ := htd
      obtain ⟨fn, tm, td, ds, md, kd, ro⟩ := fr
      dsimp only at e; subst e
      rw [hmode] at hm
      simp only [SMode.Den] at hm; subst hm
      exact sItem_ok hok hdr hfr hmode h1 h2 hfs hd hF hq
  · rename_i hmode
    exact sUnwind_ok hok hfr hmode hfs hd hF hq
/-! What the tests on the way have said. -/
abbrev Facts := List (Bm × Bool)
def FactsOk [Val] (fs : Facts) : Prop := ∀ p ∈ fs, p.1.v = p.2
def lookF : Facts → Bm → Option Bool
  | [], _ => none
  | (c, t) :: fs, b => match Bm.same c b with
    | true => some t
    | false => lookF fs b
theorem lookF_ok [Val] {b : Bm} {t : Bool} : ∀ {fs : Facts}, FactsOk fs → lookF fs b = some t → b.v = t
  | [], _, h => by cases h
  | (c, u) :: fs, hf, h => by
    unfold lookF at h
    split at h
    · rename_i hs
      cases h
      have e := Bm.same_eq hs; subst e
      exact hf _ (List.mem_cons_self ..)
    · exact lookF_ok (fun p hp => hf p (List.mem_cons_of_mem _ hp)) h
def known (fs : Facts) : Bm → Option Bool
  | .lit b => some b
  | .not a => match known fs a with
    | some x => some (!x)
    | none => none
  | .lop o a b => match o, known fs a, known fs b with
    | o, some x, some y => some (o.f x y)
    | .and, some false, _ => some false
    | .and, _, some false => some false
    | .or, some true, _ => some true
    | .or, _, some true => some true
    | _, _, _ => lookF fs (.lop o a b)
  | .ite c a b => match known fs c with
    | some true => known fs a
    | some false => known fs b
    | none => lookF fs (.ite c a b)
  | .var i => lookF fs (.var i)
  | .cmp o a b => lookF fs (.cmp o a b)
  | .fn f l => lookF fs (.fn f l)
theorem known_ok [Val] {fs : Facts} (hf : FactsOk fs) : ∀ (b : Bm) {t : Bool}, known fs b = some t → b.v = t
  | .lit b, t, h => by simp only [known, Option.some.injEq] at h; simpa [Bm.v] using h
  | .not a, t, h => by
    simp only [known] at h
    split at h <;> cases h
    rename_i x hx
    rw [Bm.v, known_ok hf a hx]
  | .lop o a b, t, h => by
    simp only [known] at h
    split at h
    · rename_i x y hx hy
      cases h
      rw [Bm.v, known_ok hf a hx, known_ok hf b hy]
    · rename_i hx _
      cases h
      rw [Bm.v, known_ok hf a hx]; rfl
    · rename_i hx _
      cases h
      rw [Bm.v, known_ok hf b hx]; simp [LOp.f]
    · rename_i hx _
      cases h
      rw [Bm.v, known_ok hf a hx]; rfl
    · rename_i hx _
      cases h
      rw [Bm.v, known_ok hf b hx]; simp [LOp.f]
    · exact lookF_ok hf h
  | .ite c a b, t, h => by
    simp only [known] at h
    split at h
    · rename_i hx
      rw [Bm.v, known_ok hf c hx, if_pos rfl]; exact known_ok hf a h
    · rename_i hx
      rw [Bm.v, known_ok hf c hx, if_neg (by decide)]; exact known_ok hf b h
    · exact lookF_ok hf h
  | .var i, t, h => lookF_ok hf h
  | .cmp o a b, t, h => lookF_ok hf h
  | .fn f l, t, h => lookF_ok hf h
def addF (fs : Facts) : Bm → Bool → Facts
  | .not a, t => addF fs a (!t)
  | .lop .and a b, true => addF (addF fs a true) b true
  | .lop .or a b, false => addF (addF fs a false) b false
  | b, t => (b, t) :: fs
theorem addF_ok [Val] : ∀ {b : Bm} {t : Bool} {fs : Facts}, FactsOk fs → b.v = t → FactsOk (addF fs b t) := by
  have base : ∀ {b : Bm} {t : Bool} {fs : Facts}, FactsOk fs → b.v = t → FactsOk ((b, t) :: fs) := fun hf h p hp => by
    rcases List.mem_cons.1 hp with rfl | hp
    · exact h
    · exact hf p hp
  intro b t fs
  fun_induction addF fs b t with
  | case1 fs t a ih => exact fun hf h => ih hf (by simp only [Bm.v] at h; rw [← h]; simp)
  | case2 fs a b ih2 ih1 =>
    intro hf h
    simp only [Bm.v, LOp.f, Bool.and_eq_true] at h
    exact ih1 (ih2 hf h.1) h.2
  | case3 fs a b ih2 ih1 =>
    intro hf h
    simp only [Bm.v, LOp.f, Bool.or_eq_false_iff] at h
    exact ih1 (ih2 hf h.1) h.2
  | case4 => exact fun hf h => base hf h
/-- Go on, knowing what the tests have said. -/
def Tree.go {α β : Type} (fs : Facts) (f : Facts → α → Tree β) : Tree α → Tree β
  | .leaf a => f fs a
  | .split b x y => match known fs b with
    | some true => Tree.go fs f x
    | some false => Tree.go fs f y
    | none => .split b (Tree.go (addF fs b true) f x) (Tree.go (addF fs b false) f y)
  | .need p x => match known fs p with
    | some true => Tree.go fs f x
    | some false => .stuck 111
    | none => .need p (Tree.go (addF fs p true) f x)
  | .stuck n => .stuck n
theorem Tree.sat_go [Val] {α β : Type} {f : Facts → α → Tree β} {Q : β → Prop} : ∀ {t : Tree α} {fs : Facts}, FactsOk fs → (Tree.go fs f t).sat Q → t.sat fun a => ∃ fs', FactsOk fs' ∧ (f fs' a).sat Q
  | .leaf a, fs, hf, h => ⟨fs, hf, h⟩
  | .split b x y, fs, hf, h => by
    simp only [Tree.go] at h
    split at h
    · rename_i hk
      have e := known_ok hf b hk
      exact ⟨fun _ => Tree.sat_go hf h, fun e' => by rw [e] at e'; cases e'⟩
    · rename_i hk
      have e := known_ok hf b hk
      exact ⟨fun e' => (by rw [e] at e'; cases e'), fun _ => Tree.sat_go hf h⟩
    · exact ⟨fun e => Tree.sat_go (addF_ok hf e) (h.1 e), fun e => Tree.sat_go (addF_ok hf e) (h.2 e)⟩
  | .need p x, fs, hf, h => by
    simp only [Tree.go] at h
    split at h
    · rename_i hk
      exact ⟨known_ok hf p hk, Tree.sat_go hf h⟩
    · exact h.elim
    · exact ⟨h.1, Tree.sat_go (addF_ok hf h.1) h.2⟩
  | .stuck _, _, _, h => h.elim
def srun (P : Program) (dr : Ext) : Nat → Facts → SState → Tree SState
  | 0, _, _ => .stuck 110
  | n + 1, fs, S => match sDone S with
    | true => .leaf S
    | false => Tree.go fs (srun P dr n) (sstep P dr S)
theorem srun_ok [Val] (hok : FnOk P) {dr : Ext} (hdr : ExtOk P dr) : ∀ {n : Nat} {fs : Facts} {ρ : Env} {S : SState} {Q : SState → Prop} {m : Machine}, FactsOk fs → DenS ρ X w0 F lo cs S m → (srun P dr n fs S).sat Q → Goes P ρ X w0 F lo cs (fun S' => Q S' ∧ sDone S' = true) m
  | 0, _, _, _, _, _, _, _, hq => hq.elim
  | n + 1, fs, ρ, S, Q, m, hf, hS, hq => by
    unfold srun at hq
    split at hq
    · rename_i hdn
      exact ⟨ρ, S, m, Env.le_refl _, ⟨hq, hdn⟩, Steps.refl _ _, hS⟩
    · obtain ⟨ρ1, S1, m1, h1, ⟨fs', hf', h2⟩, h3, h4⟩ := sstep_ok hok hdr hS (Tree.sat_go hf hq)
      obtain ⟨ρ2, S2, m2, g1, g2, g3, g4⟩ := srun_ok hok hdr hf' h4 h2
      exact ⟨ρ2, S2, m2, Env.le_trans h1 g1, g2, Steps.trans h3 g3, g4⟩
/-- The value with which the lowest frame of the function f leaves. -/
def sValue (P : Program) (f : FuncId) (S : SState) : Option SV :=
  match Nat.beq S.top.fn f, S.top.mode, S.top.kind, fnOf P f with
  | true, .returning, .normal, some i => resultS P (find S.ents) S.top.tmps i.results
  | _, _, _, _ => none
def sStart (i : FnI) (f : FuncId) (args : List SV) (ents : Ents) (next hi : Nat) : SState := { top := enterS i f args .normal, stk := [], ents, next, hi, log := [] }
/-- What a call leaves. -/
theorem calls_of_run [Val] (hok : FnOk P) {dr : Ext} (hdr : ExtOk P dr) {n : Nat} {f : FuncId} {i : FnI} {args : List SV} {vs : List Value} {ents : Ents} {next hi : Nat} {ρ : Env} {w : World} {R : Ending → World → Prop} (hi' : fnOf P f = some i)
    (ha : SV.DenL ρ args vs) (hd : DenH ρ X w0 (find ents) (Fr F lo next) w) (hF : FrOk F lo next hi)
    (h : (srun P dr n [] (sStart i f args ents next hi)).sat fun S => ∃ s, sValue P f S = some s ∧ ∀ ρ' v w', ρ.le ρ' → s.Den ρ' v → DenH ρ' X w0 (find S.ents) (Fr F lo S.next) w' → R (.returned v) w') : Calls P f vs.toArray w R := by
  intro cs
  have hS : DenS ρ X w0 F lo cs (sStart i f args ents next hi) (lone (Frame.enter P f vs.toArray .normal) cs w) := ⟨_, [], w, rfl, enterS_den hi' ha, rfl, hd, hF⟩
  obtain ⟨ρ', S', m', h1, ⟨⟨s, h2, h3⟩, hdn⟩, h4, fr, frs, w', rfl, hfr, hfs, hd', hF'⟩ := srun_ok hok hdr (fs := []) (fun p hp => absurd hp (by simp)) hS h
  obtain ⟨F, hF, hFb, hFn, hFr⟩ := fnOf_spec hi'
  unfold sValue at h2
  split at h2 <;> try cases h2
  rename_i i' hb hm hk hi2
  rw [hi'] at hi2
  injection hi2 with hi2; subst hi2
  have hb := Nat.eq_of_beq_eq_true hb
  unfold sDone at hdn
  split at hdn <;> try cases hdn
  · rename_i hstk hm2 hdf
    rw [hstk] at hfs
    simp only [DenFs] at hfs; subst hfs
    have hmode := hfr.mode
    rw [hm] at hmode
    simp only [SMode.Den] at hmode
    have hdefers := hfr.defers
    rw [hdf] at hdefers
    simp only [DenDs] at hdefers
    have hfn : fr.fn = f := hfr.fn.trans hb
    rw [← hFr] at h2
    obtain ⟨v, hv, hsv⟩ := resultS_ok hd' hfr.tmps h2
    exact ⟨.returned v, w', fr, h3 ρ' v w' h1 hsv hd', h4, hfn, hmode, hdefers, hfr.kind.trans hk, F, by rw [hfn]; exact hF, hv⟩
  · rename_i hm2 _
    rw [hm] at hm2; cases hm2
/-- What the frame's rule says where nothing of the caller's may be written. -/
theorem new_of_den [Val] {ρ : Env} {look : Look} {fresh : Nat → Prop} {w w' : World} (h : DenH ρ (fun _ => False) w look fresh w') : New w w' := by
  obtain ⟨φ, d⟩ := h
  exact ⟨d.os, d.tape, d.output, d.size, fun k hk => d.frame k hk (fun q => q)⟩
end
/-- No region that draws. -/
def noDr : Dr := fun _ _ _ _ _ _ => none
theorem noDr_ok [Val] (P : Program) : DrOk P noDr := fun _ _ _ _ _ _ _ _ _ _ _ h => by cases h
end Go.Sx
