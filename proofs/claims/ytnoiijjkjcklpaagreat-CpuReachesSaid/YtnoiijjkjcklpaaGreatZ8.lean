/- Parts of the proof: Sx16, Sx17. -/
import Derived.Test.YtnoiijjkjcklpaaGreatZ7
/- Symbolic runs, and the calls that they show. -/
namespace Go.Sx
set_option linter.unusedSimpArgs false
set_option linter.unusedVariables false
open Go Go.RowKit Go.Cd Go.Proofs.YtnoiijjkjcklpaaGreat Go.MapKept
section
variable {P : Program} {X : Nat → Prop} {w0 : World} {F : Nat → Prop} {lo : Nat} {cs : List Frame}

theorem sCode_ok [Val] (hok : FnOk P) {dr : Ext} (hdr : ExtOk P dr) {ρ : Env} {S : SState} {Q : SState → Prop} {fn : FuncId} {tm : Array Value} {c : Code} {k : List Item} {sk : List SItem} {ds : List Deferred} {kd : CallKind} {ro : Option Nat} {frs : List Frame} {w : World}
    (hfr : S.top.Den ρ ⟨fn, tm, .code c :: k, ds, .run, kd, ro⟩) (hmode : S.top.mode = .run) (hk : DenIs ρ sk k) (hfs : DenFs ρ S.stk frs) (hd : DenH ρ X w0 (find S.ents) (Fr F lo S.next) w) (hF : FrOk F lo S.next S.hi)
    (hq : (sCode P dr S c sk).sat Q) : Goes P ρ X w0 F lo cs Q (lone ⟨fn, tm, .code c :: k, ds, .run, kd, ro⟩ (frs ++ cs) w) := by
  have tto : ∀ {td : List SItem} {l : List Item}, DenIs ρ td l → DenS ρ X w0 F lo cs { S with top := { S.top with todo := td } } (lone ⟨fn, tm, l, ds, .run, kd, ro⟩ (frs ++ cs) w) := fun h =>
    ⟨_, frs, w, rfl, ⟨hfr.fn, hfr.tmps, h, hfr.defers, by rw [hmode]; rfl, hfr.kind, hfr.round⟩, hfs, hd, hF⟩
  cases c with
  | skip => exact .one (Env.le_refl _) hq st_skip (tto hk)
  | label l => exact .one (Env.le_refl _) hq st_label (tto hk)
  | seq a b => exact .one (Env.le_refl _) hq st_seq (tto ⟨_, _, rfl, rfl, _, _, rfl, rfl, hk⟩)
  | block n a => exact .one (Env.le_refl _) hq st_block (tto ⟨_, _, rfl, rfl, _, _, rfl, rfl, hk⟩)
  | loop a => exact .one (Env.le_refl _) hq st_loop (tto ⟨_, _, rfl, rfl, _, _, rfl, rfl, hk⟩)
  | scope a => exact .one (Env.le_refl _) hq st_scope (tto ⟨_, _, rfl, rfl, _, _, rfl, rfl, hk⟩)
  | cond x a b =>
    simp only [sCode] at hq
    split at hq
    · rename_i hx
      have hv := evalS_ok hfr.tmps _ _ hx
      simp only [SV.Den, SB.lit_v] at hv
      have hst := st_cond (P := P) (fn := fn) (k := k) (ds := ds) (kd := kd) (ro := ro) (cs := frs ++ cs) (w := w) (a := a) (b := b) hv
      exact .one (Env.le_refl _) hq hst (tto ⟨_, _, rfl, rfl, hk⟩)
    · rename_i hx
      have hv := evalS_ok hfr.tmps _ _ hx
      simp only [SV.Den, SB.lit_v] at hv
      have hst := st_cond (P := P) (fn := fn) (k := k) (ds := ds) (kd := kd) (ro := ro) (cs := frs ++ cs) (w := w) (a := a) (b := b) hv
      exact .one (Env.le_refl _) hq hst (tto ⟨_, _, rfl, rfl, hk⟩)
    · rename_i t hx
      have hv := evalS_ok hfr.tmps _ _ hx
      simp only [SV.Den, SB.sym_v] at hv
      split at hq
      · rename_i r n hm
        unfold sMeet at hm
        split at hm <;> try (cases hm; done)
        rename_i ta na tb nb hca hcb
        split at hm <;> cases hm
        rename_i hr
        have fin : ∀ (c : Code) (tc : List SV) (nc : Nat), strCode P S.ents S.hi c S.top.tmps S.next = some (tc, nc) → (∀ j, j ∈ dstsC c → j ∈ dstsC a ++ dstsC b) → nc ≤ Nat.max na nb → ((t.v = true → tc = ta) ∧ (t.v = false → tc = tb)) →
            step P (lone ⟨fn, tm, .code (.cond x a b) :: k, ds, .run, kd, ro⟩ (frs ++ cs) w) = .next (lone ⟨fn, tm, .code c :: k, ds, .run, kd, ro⟩ (frs ++ cs) w) →
            Goes P ρ X w0 F lo cs Q (lone ⟨fn, tm, .code (.cond x a b) :: k, ds, .run, kd, ro⟩ (frs ++ cs) w) := fun c tc nc hc hsub hnc htc hst => by
          obtain ⟨ρ', tm', w', g1, g2, g3, g4, g5, g6, g7⟩ := strCode_ok (fn := fn) (ds := ds) (kd := kd) (ro := ro) (cs := frs ++ cs) (k := k) hok hc hfr.tmps hd hF
          have hmono : ∀ j, Fr F lo (Nat.max na nb) j → Fr F lo nc j := fun j hj => ⟨hj.1, by
            have := hj.2; omega⟩
          refine ⟨ρ', _, _, g1, hq, .head hst g2, _, frs, w', rfl, ⟨hfr.fn, ?_, hk.mono g1, hfr.defers.mono g1, by rw [hmode]; rfl, hfr.kind, hfr.round.mono g1⟩, hfs.mono g1, g4.fresh_mono hmono, hF.more (show S.next ≤ Nat.max na nb by omega)⟩
          refine mergeW_den hr (hfr.tmps.mono g1) (fun ht => by rw [← htc.1 ht]; exact g3) (fun ht => by rw [← htc.2 ht]; exact g3) (fun j hj => ?_) (by simpa using g6)
          have := g7 j fun h => hj (by rw [Nat.zero_add]; exact hsub j h)
          simpa using this
        cases hb : t.v with
        | true =>
          rw [hb] at hv
          exact fin a ta na hca (fun j hj => List.mem_append_left _ hj) (Nat.le_max_left _ _) ⟨fun _ => rfl, fun h => by rw [hb] at h; cases h⟩ (st_cond hv)
        | false =>
          rw [hb] at hv
          exact fin b tb nb hcb (fun j hj => List.mem_append_right _ hj) (Nat.le_max_right _ _) ⟨fun h => (by rw [hb] at h; cases h), fun _ => rfl⟩ (st_cond hv)
      cases hb : t.v with
      | true =>
        rw [hb] at hv
        have hst := st_cond (P := P) (fn := fn) (k := k) (ds := ds) (kd := kd) (ro := ro) (cs := frs ++ cs) (w := w) (a := a) (b := b) hv
        exact .one (Env.le_refl _) (hq.1 hb) hst (tto ⟨_, _, rfl, rfl, hk⟩)
      | false =>
        rw [hb] at hv
        have hst := st_cond (P := P) (fn := fn) (k := k) (ds := ds) (kd := kd) (ro := ro) (cs := frs ++ cs) (w := w) (a := a) (b := b) hv
        exact .one (Env.le_refl _) (hq.2 hb) hst (tto ⟨_, _, rfl, rfl, hk⟩)
    · exact hq.elim
  | exit n =>
    simp only [sCode] at hq
    have he := sexitTo_ok (n := n) hk
    split at hq
    · rename_i k' hk'
      rw [hk'] at he
      obtain ⟨l, h1, h2⟩ := he
      exact .one (Env.le_refl _) hq (st_exit h1) (tto h2)
    · rename_i hk'
      rw [hk'] at he
      exact sLeave_ok hfr hmode hfs hd hF (.inr (.inr (.inl ⟨n, k, rfl, he, rfl, rfl⟩))) hq
  | goto n =>
    simp only [sCode] at hq
    have he := sgotoIn_ok (n := n) hk
    split at hq
    · rename_i k' hk'
      rw [hk'] at he
      obtain ⟨l, h1, h2⟩ := he
      exact .one (Env.le_refl _) hq (st_goto h1) (tto h2)
    · rename_i hk'
      rw [hk'] at he
      exact sLeave_ok hfr hmode hfs hd hF (.inr (.inr (.inr ⟨n, k, rfl, he, rfl, rfl⟩))) hq
  | ret => exact sLeave_ok hfr hmode hfs hd hF (.inr (.inl ⟨⟨k, rfl⟩, rfl, rfl⟩)) hq
  | region id ops draw =>
    simp only [sCode] at hq
    split at hq
    · exact .one (Env.le_refl _) hq st_region (tto ⟨_, _, rfl, rfl, hk⟩)
    · have key : ∀ (n : Nat) (as' : List (Bm × Bool)), (drTree dr S ops sk n as').sat Q → Goes P ρ X w0 F lo cs Q (lone ⟨fn, tm, .code (.region id ops true) :: k, ds, .run, kd, ro⟩ (frs ++ cs) w) := by
        intro n
        induction n with
        | zero => exact fun _ h => h.elim
        | succ n ih =>
          intro as' hq
          unfold drTree at hq
          split at hq
          · rename_i ps tmps' ents' next' log' rest hdd
            obtain ⟨hps, hq⟩ := needAll_sat hq
            obtain ⟨ρ', tm', w', h1, h2, h3, h4, h5⟩ := hdr.dr _ _ _ _ _ _ _ _ _ _ _ _ _ hdd hps ρ X w0 F lo (frs ++ cs) fn tm k ds kd ro { w with drawn := w.drawn + 1 } (w.tape w.drawn (.order fn id)) hfr.tmps (hd.drawn _) hF
            exact ⟨ρ', _, _, h1, hq, .head st_region_draw h2, _, frs, w', rfl, ⟨hfr.fn, h3, ⟨_, _, rfl, rfl, hk.mono h1⟩, hfr.defers.mono h1, by rw [hmode]; rfl, hfr.kind, hfr.round.mono h1⟩, hfs.mono h1, h4, hF.more h5⟩
          · split at hq
            · rename_i b _
              obtain ⟨g1, g2⟩ := hq
              cases hb : b.v with
              | true => exact ih _ (g1 hb)
              | false => exact ih _ (g2 hb)
            · exact hq.elim
      exact key 60 [] hq
  | rangeFunc f params assign body => exact sRangeFunc_ok hok hfr hmode hk hfs hd hF hq
  | refuse why => exact hq.elim
theorem sItem_ok [Val] (hok : FnOk P) {dr : Ext} (hdr : ExtOk P dr) {ρ : Env} {S : SState} {Q : SState → Prop} {fn : FuncId} {tm : Array Value} {it : Item} {si : SItem} {k : List Item} {sk : List SItem} {ds : List Deferred} {kd : CallKind} {ro : Option Nat} {frs : List Frame} {w : World}
    (hfr : S.top.Den ρ ⟨fn, tm, it :: k, ds, .run, kd, ro⟩) (hmode : S.top.mode = .run) (hi : si.Den ρ it) (hk : DenIs ρ sk k) (hfs : DenFs ρ S.stk frs) (hd : DenH ρ X w0 (find S.ents) (Fr F lo S.next) w) (hF : FrOk F lo S.next S.hi)
    (hq : (sItem P dr S si sk).sat Q) : Goes P ρ X w0 F lo cs Q (lone ⟨fn, tm, it :: k, ds, .run, kd, ro⟩ (frs ++ cs) w) := by
  have tto : ∀ {td : List SItem} {l : List Item}, DenIs ρ td l → DenS ρ X w0 F lo cs { S with top := { S.top with todo := td } } (lone ⟨fn, tm, l, ds, .run, kd, ro⟩ (frs ++ cs) w) := fun h =>
    ⟨_, frs, w, rfl, ⟨hfr.fn, hfr.tmps, h, hfr.defers, by rw [hmode]; rfl, hfr.kind, hfr.round⟩, hfs, hd, hF⟩
  cases si with
  | code c => simp only [SItem.Den] at hi; subst hi; exact sCode_ok hok hdr hfr hmode hk hfs hd hF hq
  | inBlock n => simp only [SItem.Den] at hi; subst hi; exact .one (Env.le_refl _) hq st_inBlock (tto hk)
  | inScope c => simp only [SItem.Den] at hi; subst hi; exact .one (Env.le_refl _) hq st_inScope (tto hk)
  | inLoop c => simp only [SItem.Den] at hi; subst hi; exact .one (Env.le_refl _) hq st_inLoop (tto ⟨_, _, rfl, rfl, _, _, rfl, rfl, hk⟩)
  | inRegion ops l =>
    simp only [SItem.Den] at hi; subst hi
    cases l with
    | nil => exact .one (Env.le_refl _) hq st_region_end (tto hk)
    | cons i rest => exact sOp_ok hok hdr hfr hmode hk hfs hd hF hq
  | inRangeFunc h => exact hq.elim
  | endRangeFunc h =>
    obtain ⟨l, hl, rfl⟩ := hi
    simp only [sItem] at hq
    split at hq <;> try exact hq.elim
    rename_i L hL
    obtain ⟨b, obj, hb, hobj, hden⟩ := hd.at hL rfl
    obtain rfl : b = l := by rw [hl] at hb; injection hb with e; exact e.symm
    obtain ⟨LL, hLL, rfl⟩ := hden
    split at hq
    · exact hq.elim
    · rename_i hne
      have hst := st_endRangeFunc (P := P) (fn := fn) (tmps := tm) (k := k) (ds := ds) (kd := kd) (ro := ro) (cs := frs ++ cs) (run_endLoop hobj (by rw [hLL.state]; exact fun e => hne e))
      refine .one (Env.le_refl _) hq hst ⟨_, frs, _, rfl, ⟨hfr.fn, hfr.tmps, ?_, hfr.defers, by rw [hmode]; rfl, hfr.kind, hfr.round⟩, hfs, ?_, hF⟩
      · dsimp only
        rw [hLL.pending]
        cases L.pending with
        | none => simpa using hk
        | some c => exact ⟨_, _, rfl, rfl, by simpa using hk⟩
      · exact hd.put hL rfl hb (o' := .loop { L with state := .exhausted }) rfl (World.putObj_heap_same (lt_of_heap hobj)) (only_putObj _ _ _) ⟨{ LL with state := .exhausted }, ⟨rfl, hLL.pending, hLL.fn, hLL.tmps, hLL.params, hLL.assign, hLL.body, hLL.defers⟩, rfl⟩ (fun j => find_upd _ _ _ j)
  | beginRound =>
    simp only [SItem.Den] at hi; subst hi
    simp only [sItem] at hq
    split at hq <;> try exact hq.elim
    rename_i h hr
    split at hq <;> try exact hq.elim
    rename_i L hL
    have hro := hfr.round
    rw [hr] at hro
    obtain ⟨l, hl, e⟩ := hro
    dsimp only at e; subst e
    obtain ⟨b, obj, hb, hobj, hden⟩ := hd.at hL rfl
    obtain rfl : b = l := by rw [hl] at hb; injection hb with e; exact e.symm
    obtain ⟨LL, hLL, rfl⟩ := hden
    split at hq <;> try exact hq.elim
    rename_i hs
    have hst := st_beginRound (P := P) (fn := fn) (tmps := tm) (k := k) (ds := ds) (kd := kd) (cs := frs ++ cs) (run_beginRound hobj (by rw [hLL.state, hs]))
    refine .one (Env.le_refl _) hq hst ⟨_, frs, _, rfl, ⟨hfr.fn, hfr.tmps, hk, hfr.defers, by rw [hmode]; rfl, hfr.kind, hfr.round⟩, hfs, ?_, hF⟩
    exact hd.put hL rfl hb (o' := .loop { L with state := .busy }) rfl (World.putObj_heap_same (lt_of_heap hobj)) (only_putObj _ _ _) ⟨{ LL with state := .busy }, ⟨rfl, hLL.pending, hLL.fn, hLL.tmps, hLL.params, hLL.assign, hLL.body, hLL.defers⟩, rfl⟩ (fun j => find_upd _ _ _ j)
theorem sstep_ok [Val] (hok : FnOk P) {dr : Ext} (hdr : ExtOk P dr) {ρ : Env} {S : SState} {Q : SState → Prop} {m : Machine} (hS : DenS ρ X w0 F lo cs S m) (hq : (sstep P dr S).sat Q) : Goes P ρ X w0 F lo cs Q m := by
  obtain ⟨fr, frs, w, rfl, hfr, hfs, hd, hF⟩ := hS
  have hm := hfr.mode
  have htd := hfr.todo
  unfold sstep at hq
  split at hq
  · rename_i hmode
    split at hq
    · rename_i hto
      rw [hto] at htd
      exact sLeave_ok hfr hmode hfs hd hF (.inl ⟨htd, rfl, rfl⟩) hq
    · rename_i si sk hto
      rw [hto] at htd
      obtain ⟨it, k, e, h1, h2⟩ := htd
      obtain ⟨fn, tm, td, ds, md, kd, ro⟩ := fr
      dsimp only at e; subst e
      rw [hmode] at hm
      simp only [SMode.Den] at hm; subst hm
      exact sItem_ok hok hdr hfr hmode h1 h2 hfs hd hF hq
  · rename_i hmode
    exact sUnwind_ok hok hfr hmode hfs hd hF hq
abbrev Facts := List (Bm × Bool)
def FactsOk [Val] (fs : Facts) : Prop := ∀ p ∈ fs, p.1.v = p.2
def lookF : Facts → Bm → Option Bool
  | [], _ => none
  | (c, t) :: fs, b => match Bm.same c b with
    | true => some t
    | false => lookF fs b
theorem lookF_ok [Val] {b : Bm} {t : Bool} : ∀ {fs : Facts}, FactsOk fs → lookF fs b = some t → b.v = t
  | [], _, h => by cases h
  | (c, u) :: fs, hf, h => by
    unfold lookF at h
    split at h
    · rename_i hs
      cases h
      have e := Bm.same_eq hs; subst e
      exact hf _ (List.mem_cons_self ..)
    · exact lookF_ok (fun p hp => hf p (List.mem_cons_of_mem _ hp)) h
structure Bd where
  lo : Option Int
  hi : Option Int
def Bd.has (b : Bd) (x : Int) : Prop := (∀ l, b.lo = some l → l ≤ x) ∧ ∀ h, b.hi = some h → x ≤ h
def Bd.lo' (b : Bd) (n : Int) : Bd := match b.lo with
  | some l => match decide (l ≤ n) with
    | true => ⟨some n, b.hi⟩
    | false => b
  | none => ⟨some n, b.hi⟩
def Bd.hi' (b : Bd) (n : Int) : Bd := match b.hi with
  | some h => match decide (n ≤ h) with
    | true => ⟨b.lo, some n⟩
    | false => b
  | none => ⟨b.lo, some n⟩
theorem Bd.lo'_has {b : Bd} {n x : Int} (h : b.has x) (hn : n ≤ x) : (b.lo' n).has x := by
  unfold Bd.lo'
  split
  · split
    · exact ⟨fun l e => by injection e with e; omega, h.2⟩
    · exact h
  · exact ⟨fun l e => by injection e with e; omega, h.2⟩
theorem Bd.hi'_has {b : Bd} {n x : Int} (h : b.has x) (hn : x ≤ n) : (b.hi' n).has x := by
  unfold Bd.hi'
  split
  · split
    · exact ⟨h.1, fun l e => by injection e with e; omega⟩
    · exact h
  · exact ⟨h.1, fun l e => by injection e with e; omega⟩
def bdF (t : Tm) : Facts → Bd
  | [] => ⟨none, none⟩
  | (b, v) :: fs => match b, v with
    | .cmp .eq u (.lit n), true => match Tm.same u t with
      | true => ((bdF t fs).lo' n).hi' n
      | false => bdF t fs
    | .cmp .eq u (.lit n), false => match Tm.same u t with
      | true => match t.rng 6 with
        | some (l, h) => match decide (l = n) with
          | true => (bdF t fs).lo' (n + 1)
          | false => match decide (h = n) with
            | true => (bdF t fs).hi' (n - 1)
            | false => bdF t fs
        | none => bdF t fs
      | false => bdF t fs
    | .cmp .lt u (.lit n), v => match Tm.same u t, v with
      | true, true => (bdF t fs).hi' (n - 1)
      | true, false => (bdF t fs).lo' n
      | false, _ => bdF t fs
    | .cmp .lt (.lit n) u, v => match Tm.same u t, v with
      | true, true => (bdF t fs).lo' (n + 1)
      | true, false => (bdF t fs).hi' n
      | false, _ => bdF t fs
    | _, _ => bdF t fs
theorem lt_t [Val] {a b : Tm} (h : (Bm.cmp .lt a b).v = true) : a.v < b.v := of_decide_eq_true h
theorem lt_f [Val] {a b : Tm} (h : (Bm.cmp .lt a b).v = false) : b.v ≤ a.v := Int.not_lt.1 (of_decide_eq_false h)
theorem bdF_has [Val] {t : Tm} : ∀ {fs : Facts}, FactsOk fs → (bdF t fs).has t.v
  | [], _ => by
    refine ⟨fun _ e => ?_, fun _ e => ?_⟩ <;> simp [bdF] at e
  | (b, v) :: fs, hf => by
    have ih := bdF_has (t := t) (fs := fs) fun p hp => hf p (List.mem_cons_of_mem _ hp)
    have h := hf _ (List.mem_cons_self ..)
    dsimp only at h
    unfold bdF
    split
    · rename_i u n
      split
      · rename_i hs
        have e := Tm.same_eq hs; subst e
        simp only [Bm.v, COp.f, Tm.v, beq_iff_eq] at h
        exact Bd.hi'_has (Bd.lo'_has ih (by omega)) (by omega)
      · exact ih
    · rename_i u n
      split
      · rename_i hs
        have e := Tm.same_eq hs; subst e
        simp only [Bm.v, COp.f, Tm.v, beq_eq_false_iff_ne] at h
        split
        · rename_i l hh hr
          obtain ⟨r1, r2⟩ := Tm.rng_has 6 _ _ _ hr
          split
          · rename_i hl
            have hl := of_decide_eq_true hl
            exact Bd.lo'_has ih (by omega)
          · split
            · rename_i hl
              have hl := of_decide_eq_true hl
              exact Bd.hi'_has ih (by omega)
            · exact ih
        · exact ih
      · exact ih
    · rename_i v u n
      split
      · rename_i hs
        have e := Tm.same_eq hs; subst e
        have h : _ < _ := lt_t h
        simp only [Tm.v] at h
        exact Bd.hi'_has ih (by omega)
      · rename_i hs
        have e := Tm.same_eq hs; subst e
        have h : _ ≤ _ := lt_f h
        simp only [Tm.v] at h
        exact Bd.lo'_has ih (by omega)
      · exact ih
    · rename_i v n u _
      split
      · rename_i hs
        have e := Tm.same_eq hs; subst e
        have h : _ < _ := lt_t h
        simp only [Tm.v] at h
        exact Bd.lo'_has ih (by omega)
      · rename_i hs
        have e := Tm.same_eq hs; subst e
        have h : _ ≤ _ := lt_f h
        simp only [Tm.v] at h
        exact Bd.hi'_has ih (by omega)
      · exact ih
    · exact ih
def ltB (b : Bd) (n : Int) : Option Bool :=
  match (match b.hi with
    | some h => decide (h < n)
    | none => false) with
  | true => some true
  | false => match b.lo with
    | some l => match decide (n ≤ l) with
      | true => some false
      | false => none
    | none => none
theorem ltB_ok {b : Bd} {n x : Int} {t : Bool} (hb : b.has x) (h : ltB b n = some t) : decide (x < n) = t := by
  unfold ltB at h
  split at h
  · rename_i e
    cases h
    split at e
    · rename_i q hq
      have := hb.2 _ hq
      have e := of_decide_eq_true e
      exact decide_eq_true (by omega)
    · cases e
  · split at h
    · rename_i l hl
      split at h <;> cases h
      rename_i e
      have e := of_decide_eq_true e
      have := hb.1 _ hl
      exact decide_eq_false (by omega)
    · cases h
def eqB (bd : Bd) (n : Int) : Option Bool :=
  match ltB bd n, ltB bd (n + 1) with
  | some true, _ => some false
  | _, some false => some false
  | some false, some true => some true
  | _, _ => none
theorem eqB_ok {b : Bd} {n x : Int} {t : Bool} (hb : b.has x) (h : eqB b n = some t) : (x == n) = t := by
  unfold eqB at h
  split at h <;> cases h
  · rename_i e
    have := of_decide_eq_true (ltB_ok hb e)
    exact beq_eq_false_iff_ne.2 (by omega)
  · rename_i e _
    have := of_decide_eq_false (ltB_ok hb e)
    exact beq_eq_false_iff_ne.2 (by omega)
  · rename_i e2 e1
    have h1 := of_decide_eq_true (ltB_ok hb e1)
    have h2 := of_decide_eq_false (ltB_ok hb e2)
    exact beq_iff_eq.2 (by omega)
def lookB (fs : Facts) (b : Bm) : Option Bool :=
  match b with
  | .cmp .eq t (.lit n) => eqB (bdF t fs) n
  | .cmp .lt t (.lit n) => ltB (bdF t fs) n
  | .cmp .lt (.lit n) t => match ltB (bdF t fs) (n + 1) with
    | some x => some (!x)
    | none => none
  | _ => none
theorem lookB_ok [Val] {fs : Facts} (hf : FactsOk fs) {b : Bm} {t : Bool} (h : lookB fs b = some t) : b.v = t := by
  unfold lookB at h
  split at h
  · rename_i u n
    have hb := bdF_has (t := u) hf
    simp only [Bm.v, COp.f, Tm.v]
    exact eqB_ok hb h
  · rename_i u n
    simp only [Bm.v, COp.f, Tm.v]
    exact ltB_ok (bdF_has hf) h
  · rename_i n u _
    split at h <;> cases h
    rename_i x e
    have := ltB_ok (bdF_has hf) e
    have key : ∀ y : Int, decide (y < n + 1) = x → decide (n < y) = !x := fun y hy => by
      cases x with
      | true =>
        have := of_decide_eq_true hy
        exact decide_eq_false (by omega)
      | false =>
        have := of_decide_eq_false hy
        exact decide_eq_true (by omega)
    exact key _ this
  · cases h
def lookFB (fs : Facts) (b : Bm) : Option Bool :=
  match lookF fs b with
  | some t => some t
  | none => lookB fs b
theorem lookFB_ok [Val] {fs : Facts} (hf : FactsOk fs) {b : Bm} {t : Bool} (h : lookFB fs b = some t) : b.v = t := by
  unfold lookFB at h
  split at h
  · rename_i t' e
    cases h
    exact lookF_ok hf e
  · exact lookB_ok hf h
def known (fs : Facts) : Bm → Option Bool
  | .lit b => some b
  | .not a => match known fs a with
    | some x => some (!x)
    | none => none
  | .lop o a b => match o, known fs a, known fs b with
    | o, some x, some y => some (o.f x y)
    | .and, some false, _ => some false
    | .and, _, some false => some false
    | .or, some true, _ => some true
    | .or, _, some true => some true
    | _, _, _ => lookF fs (.lop o a b)
  | .ite c a b => match known fs c with
    | some true => known fs a
    | some false => known fs b
    | none => lookF fs (.ite c a b)
  | .var i => lookF fs (.var i)
  | .cmp o a b => lookFB fs (.cmp o a b)
  | .fn f l => lookF fs (.fn f l)
theorem known_ok [Val] {fs : Facts} (hf : FactsOk fs) : ∀ (b : Bm) {t : Bool}, known fs b = some t → b.v = t
  | .lit b, t, h => by simp only [known, Option.some.injEq] at h; simpa [Bm.v] using h
  | .not a, t, h => by
    simp only [known] at h
    split at h <;> cases h
    rename_i x hx
    rw [Bm.v, known_ok hf a hx]
  | .lop o a b, t, h => by
    simp only [known] at h
    split at h
    · rename_i x y hx hy
      cases h
      rw [Bm.v, known_ok hf a hx, known_ok hf b hy]
    · rename_i hx _
      cases h
      rw [Bm.v, known_ok hf a hx]; rfl
    · rename_i hx _
      cases h
      rw [Bm.v, known_ok hf b hx]; simp [LOp.f]
    · rename_i hx _
      cases h
      rw [Bm.v, known_ok hf a hx]; rfl
    · rename_i hx _
      cases h
      rw [Bm.v, known_ok hf b hx]; simp [LOp.f]
    · exact lookF_ok hf h
  | .ite c a b, t, h => by
    simp only [known] at h
    split at h
    · rename_i hx
      rw [Bm.v, known_ok hf c hx, if_pos rfl]; exact known_ok hf a h
    · rename_i hx
      rw [Bm.v, known_ok hf c hx, if_neg (by decide)]; exact known_ok hf b h
    · exact lookF_ok hf h
  | .var i, t, h => lookF_ok hf h
  | .cmp o a b, t, h => lookFB_ok hf h
  | .fn f l, t, h => lookF_ok hf h
def addF (fs : Facts) : Bm → Bool → Facts
  | .not a, t => addF fs a (!t)
  | .lop .and a b, true => addF (addF fs a true) b true
  | .lop .or a b, false => addF (addF fs a false) b false
  | b, t => (b, t) :: fs
theorem addF_ok [Val] : ∀ {b : Bm} {t : Bool} {fs : Facts}, FactsOk fs → b.v = t → FactsOk (addF fs b t) := by
  have base : ∀ {b : Bm} {t : Bool} {fs : Facts}, FactsOk fs → b.v = t → FactsOk ((b, t) :: fs) := fun hf h p hp => by
    rcases List.mem_cons.1 hp with rfl | hp
    · exact h
    · exact hf p hp
  intro b t fs
  fun_induction addF fs b t with
  | case1 fs t a ih => exact fun hf h => ih hf (by simp only [Bm.v] at h; rw [← h]; simp)
  | case2 fs a b ih2 ih1 =>
    intro hf h
    simp only [Bm.v, LOp.f, Bool.and_eq_true] at h
    exact ih1 (ih2 hf h.1) h.2
  | case3 fs a b ih2 ih1 =>
    intro hf h
    simp only [Bm.v, LOp.f, Bool.or_eq_false_iff] at h
    exact ih1 (ih2 hf h.1) h.2
  | case4 => exact fun hf h => base hf h
def rngB (fs : Facts) (t : Tm) : Rg := match t.rng 6, bdF t fs with
  | some (l, h), b => some ((match b.lo with
    | some x => match decide (l ≤ x) with
      | true => x
      | false => l
    | none => l), (match b.hi with
    | some x => match decide (x ≤ h) with
      | true => x
      | false => h
    | none => h))
  | none, _ => none
theorem rngB_has [Val] {fs : Facts} (hf : FactsOk fs) (t : Tm) : (rngB fs t).has t.v := by
  unfold rngB
  have hb := bdF_has (t := t) hf
  split
  · rename_i l h b hr
    obtain ⟨r1, r2⟩ := Tm.rng_has 6 t _ _ hr
    intro l' h' e
    injection e with e; injection e with e1 e2; subst e1 e2
    constructor
    · split
      · rename_i x hx
        split
        · exact hb.1 _ hx
        · exact r1
      · exact r1
    · split
      · rename_i x hx
        split
        · exact hb.2 _ hx
        · exact r2
      · exact r2
  · exact none_has _
def shiftR (k : IntKind) (l h : Int) : Rg := match decide (k.min ≤ l), decide (h ≤ k.max) with
  | true, true => some (l, h)
  | _, _ => match decide (k.min ≤ l - 2 ^ k.bits), decide (h - 2 ^ k.bits ≤ k.max) with
    | true, true => some (l - 2 ^ k.bits, h - 2 ^ k.bits)
    | _, _ => none
theorem shiftR_has {k : IntKind} {l h x : Int} (h1 : l ≤ x) (h2 : x ≤ h) : (shiftR k l h).has (k.wrap x) := by
  unfold shiftR
  split
  · rename_i a b
    have a := of_decide_eq_true a
    have b := of_decide_eq_true b
    intro l' h' e
    injection e with e; injection e with e1 e2; subst e1 e2
    rw [wrap_same k (by omega) (by omega)]
    exact ⟨h1, h2⟩
  · split
    · rename_i a b
      have a := of_decide_eq_true a
      have b := of_decide_eq_true b
      intro l' h' e
      injection e with e; injection e with e1 e2; subst e1 e2
      have : k.wrap x = k.wrap (x - 2 ^ k.bits) := wrap_congr k (by rw [Int.sub_emod, Int.emod_self, Int.sub_zero, Int.emod_emod])
      rw [this, wrap_same k (by omega) (by omega)]
      exact ⟨by omega, by omega⟩
    · exact none_has _
def rngF (fs : Facts) (t : Tm) : Rg := match t with
  | .op (.sub k) (.lit c) n => match rngB fs n with
    | some (l, h) => shiftR k (c - h) (c - l)
    | none => none
  | .op (.add k) n (.lit c) => match rngB fs n with
    | some (l, h) => shiftR k (l + c) (h + c)
    | none => none
  | t => rngB fs t
theorem rngF_has [Val] {fs : Facts} (hf : FactsOk fs) (t : Tm) : (rngF fs t).has t.v := by
  unfold rngF
  split
  · rename_i k c n
    split
    · rename_i l h hr
      obtain ⟨r1, r2⟩ := rngB_has hf n _ _ hr
      simp only [Tm.v, IOp.f]
      exact shiftR_has (by omega) (by omega)
    · exact none_has _
  · rename_i k n c
    split
    · rename_i l h hr
      obtain ⟨r1, r2⟩ := rngB_has hf n _ _ hr
      simp only [Tm.v, IOp.f]
      exact shiftR_has (by omega) (by omega)
    · exact none_has _
  · exact rngB_has hf t
def remF (fs : Facts) (a : Tm) (m : Int) : Tm := match rngF fs a with
  | some (l, h) => match decide (0 ≤ l), decide (h ≤ m - 1) with
    | true, true => a
    | _, _ => mkOp .rem a (.lit m)
  | none => mkOp .rem a (.lit m)
theorem remF_v [Val] {fs : Facts} (hf : FactsOk fs) (a : Tm) (m : Int) : (remF fs a m).v = a.v.tmod m := by
  unfold remF
  split
  · rename_i l h hr
    obtain ⟨r1, r2⟩ := rngF_has hf a _ _ hr
    split
    · rename_i h1 h2
      have h1 := of_decide_eq_true h1
      have h2 := of_decide_eq_true h2
      exact (Int.tmod_eq_of_lt (by omega) (by omega)).symm
    · rw [mkOp_v]; rfl
  · rw [mkOp_v]; rfl
def redOp (fs : Facts) (o : IOp) (a b : Tm) : Tm := match o, b with
  | .rem, .lit m => remF fs a m
  | o, b => mkOp o a b
theorem redOp_v [Val] {fs : Facts} (hf : FactsOk fs) (o : IOp) (a b : Tm) : (redOp fs o a b).v = o.f a.v b.v := by
  unfold redOp
  split
  · rw [remF_v hf]; rfl
  · exact mkOp_v _ _ _
def exactT (fs : Facts) (t : Tm) : Tm := match bdF t fs with
  | ⟨some l, some h⟩ => match decide (l = h) with
    | true => .lit l
    | false => t
  | _ => t
theorem exactT_v [Val] {fs : Facts} (hf : FactsOk fs) (t : Tm) : (exactT fs t).v = t.v := by
  unfold exactT
  have hb := bdF_has (t := t) hf
  split
  · rename_i l h hr
    rw [hr] at hb
    split
    · rename_i e
      have e := of_decide_eq_true e
      have h1 := hb.1 l rfl
      have h2 := hb.2 h rfl
      simp only [Tm.v]; omega
    · rfl
  · rfl
mutual
def Tm.red (fs : Facts) : Tm → Tm
  | .ite c a b => match known fs c with
    | some true => a.red fs
    | some false => b.red fs
    | none => match known fs (c.red fs) with
      | some true => a.red fs
      | some false => b.red fs
      | none => mkIte c (a.red fs) (b.red fs)
  | .op o a b => redOp fs o (a.red fs) (b.red fs)
  | .un (.wrap k) a => mkWrap k (a.red fs)
  | .sel l i => exactT fs (.sel l i)
  | .var k i => exactT fs (.var k i)
  | t => t
def Bm.red (fs : Facts) : Bm → Bm
  | .cmp o a b => (SI.cmp o (SI.ofTm (a.red fs)) (SI.ofTm (b.red fs))).bm
  | .not a => .not (a.red fs)
  | .lop o a b => .lop o (a.red fs) (b.red fs)
  | b => b
end
mutual
theorem Tm.red_v [Val] {fs : Facts} (hf : FactsOk fs) : ∀ t : Tm, (t.red fs).v = t.v
  | .ite c a b => by
    unfold Tm.red
    split
    · rename_i h; rw [Tm.red_v hf a]; simp only [Tm.v, known_ok hf c h]; rfl
    · rename_i h; rw [Tm.red_v hf b]; simp only [Tm.v, known_ok hf c h]; rfl
    · split
      · rename_i h; have h := known_ok hf _ h; rw [Bm.red_v hf c] at h; rw [Tm.red_v hf a]; simp only [Tm.v, h]; rfl
      · rename_i h; have h := known_ok hf _ h; rw [Bm.red_v hf c] at h; rw [Tm.red_v hf b]; simp only [Tm.v, h]; rfl
      · rw [mkIte_v, Tm.red_v hf a, Tm.red_v hf b]; simp only [Tm.v]
  | .op o a b => by
    unfold Tm.red
    rw [redOp_v hf, Tm.red_v hf a, Tm.red_v hf b]; simp only [Tm.v]
  | .un o a => by
    cases o with
    | wrap k => unfold Tm.red; rw [mkWrap_v, Tm.red_v hf a]; simp only [Tm.v, UOp.f]
    | neg k => unfold Tm.red; rfl
    | not k => unfold Tm.red; rfl
  | .var _ _ => by unfold Tm.red; exact exactT_v hf _
  | .lit _ => by unfold Tm.red; rfl
  | .sel _ _ => by unfold Tm.red; exact exactT_v hf _
  | .fn _ _ _ => by unfold Tm.red; rfl
theorem Bm.red_v [Val] {fs : Facts} (hf : FactsOk fs) : ∀ b : Bm, (b.red fs).v = b.v
  | .cmp o a b => by
    unfold Bm.red
    rw [SB.bm_v, SI.cmp_v, SI.ofTm_v, SI.ofTm_v, Tm.red_v hf a, Tm.red_v hf b]; simp only [Bm.v]
  | .not a => by unfold Bm.red; simp only [Bm.v, Bm.red_v hf a]
  | .lop o a b => by unfold Bm.red; simp only [Bm.v, Bm.red_v hf a, Bm.red_v hf b]
  | .var _ => by unfold Bm.red; rfl
  | .lit _ => by unfold Bm.red; rfl
  | .ite _ _ _ => by unfold Bm.red; rfl
  | .fn _ _ => by unfold Bm.red; rfl
end
def knownR (fs : Facts) : Bm → Option Bool
  | .cmp o a b => match known fs (.cmp o a b) with
    | some t => some t
    | none => match cmpR o (rngF fs (a.red fs)) (rngF fs (b.red fs)) with
      | some t => some t
      | none => match SI.cmp o (SI.ofTm (a.red fs)) (SI.ofTm (b.red fs)) with
        | .lit t => some t
        | .sym c => known fs c
  | .not a => match knownR fs a with
    | some x => some (!x)
    | none => none
  | .lop o a b => match o, knownR fs a, knownR fs b with
    | o, some x, some y => some (o.f x y)
    | .and, some false, _ => some false
    | .and, _, some false => some false
    | .or, some true, _ => some true
    | .or, _, some true => some true
    | _, _, _ => known fs (.lop o a b)
  | b => known fs b
theorem knownR_ok [Val] {fs : Facts} (hf : FactsOk fs) : ∀ {b : Bm} {t : Bool}, knownR fs b = some t → b.v = t
  | .cmp o a b, t, h => by
    unfold knownR at h
    split at h
    · rename_i x hx; cases h; exact known_ok hf _ hx
    · split at h
      · rename_i x hx
        cases h
        have := cmpR_ok hx (rngF_has hf (a.red fs)) (rngF_has hf (b.red fs))
        rw [Tm.red_v hf, Tm.red_v hf] at this
        simp only [Bm.v]; exact this
      · have e : (SI.cmp o (SI.ofTm (a.red fs)) (SI.ofTm (b.red fs))).v = (Bm.cmp o a b).v := by
          rw [SI.cmp_v, SI.ofTm_v, SI.ofTm_v, Tm.red_v hf, Tm.red_v hf]; simp only [Bm.v]
        rw [← e]
        split at h
        · rename_i x hx; cases h; rw [hx]; rfl
        · rename_i c hc; rw [hc]; exact known_ok hf _ h
  | .not a, t, h => by
    unfold knownR at h
    split at h <;> cases h
    rename_i x hx
    rw [Bm.v, knownR_ok hf hx]
  | .lop o a b, t, h => by
    unfold knownR at h
    split at h
    · rename_i x y hx hy
      cases h
      simp only [Bm.v, knownR_ok hf hx, knownR_ok hf hy]
    · rename_i hx _
      cases h
      simp only [Bm.v, LOp.f, knownR_ok hf hx, Bool.false_and]
    · rename_i hx _
      cases h
      simp only [Bm.v, LOp.f, knownR_ok hf hx, Bool.and_false]
    · rename_i hx _
      cases h
      simp only [Bm.v, LOp.f, knownR_ok hf hx, Bool.true_or]
    · rename_i hx _
      cases h
      simp only [Bm.v, LOp.f, knownR_ok hf hx, Bool.or_true]
    · exact known_ok hf _ h
  | .var _, t, h => known_ok hf _ h
  | .lit _, t, h => known_ok hf _ h
  | .ite _ _ _, t, h => known_ok hf _ h
  | .fn _ _, t, h => known_ok hf _ h
def Tree.go {α β : Type} (fs : Facts) (f : Facts → α → Tree β) : Tree α → Tree β
  | .leaf a => f fs a
  | .split b x y => match knownR fs b with
    | some true => Tree.go fs f x
    | some false => Tree.go fs f y
    | none => .split b (Tree.go (addF fs b true) f x) (Tree.go (addF fs b false) f y)
  | .need p x => match knownR fs p with
    | some true => Tree.go fs f x
    | some false => .stuck 111
    | none => .need p (Tree.go (addF fs p true) f x)
  | .stuck n => .stuck n
theorem Tree.sat_go [Val] {α β : Type} {f : Facts → α → Tree β} {Q : β → Prop} : ∀ {t : Tree α} {fs : Facts}, FactsOk fs → (Tree.go fs f t).sat Q → t.sat fun a => ∃ fs', FactsOk fs' ∧ (f fs' a).sat Q
  | .leaf a, fs, hf, h => ⟨fs, hf, h⟩
  | .split b x y, fs, hf, h => by
    simp only [Tree.go] at h
    split at h
    · rename_i hk
      have e := knownR_ok hf hk
      exact ⟨fun _ => Tree.sat_go hf h, fun e' => by rw [e] at e'; cases e'⟩
    · rename_i hk
      have e := knownR_ok hf hk
      exact ⟨fun e' => (by rw [e] at e'; cases e'), fun _ => Tree.sat_go hf h⟩
    · exact ⟨fun e => Tree.sat_go (addF_ok hf e) (h.1 e), fun e => Tree.sat_go (addF_ok hf e) (h.2 e)⟩
  | .need p x, fs, hf, h => by
    simp only [Tree.go] at h
    split at h
    · rename_i hk
      exact ⟨knownR_ok hf hk, Tree.sat_go hf h⟩
    · exact h.elim
    · exact ⟨h.1, Tree.sat_go (addF_ok hf h.1) h.2⟩
  | .stuck _, _, _, h => h.elim
def srun (P : Program) (dr : Ext) : Nat → Facts → SState → Tree SState
  | 0, _, _ => .stuck 110
  | n + 1, fs, S => match sDone S with
    | true => .leaf S
    | false => Tree.go fs (srun P dr n) (sstep P dr S)
theorem srun_ok [Val] (hok : FnOk P) {dr : Ext} (hdr : ExtOk P dr) : ∀ {n : Nat} {fs : Facts} {ρ : Env} {S : SState} {Q : SState → Prop} {m : Machine}, FactsOk fs → DenS ρ X w0 F lo cs S m → (srun P dr n fs S).sat Q → Goes P ρ X w0 F lo cs (fun S' => Q S' ∧ sDone S' = true) m
  | 0, _, _, _, _, _, _, _, hq => hq.elim
  | n + 1, fs, ρ, S, Q, m, hf, hS, hq => by
    unfold srun at hq
    split at hq
    · rename_i hdn
      exact ⟨ρ, S, m, Env.le_refl _, ⟨hq, hdn⟩, Steps.refl _ _, hS⟩
    · obtain ⟨ρ1, S1, m1, h1, ⟨fs', hf', h2⟩, h3, h4⟩ := sstep_ok hok hdr hS (Tree.sat_go hf hq)
      obtain ⟨ρ2, S2, m2, g1, g2, g3, g4⟩ := srun_ok hok hdr hf' h4 h2
      exact ⟨ρ2, S2, m2, Env.le_trans h1 g1, g2, Steps.trans h3 g3, g4⟩
def sValue (P : Program) (f : FuncId) (S : SState) : Option SV :=
  match Nat.beq S.top.fn f, S.top.mode, S.top.kind, fnOf P f with
  | true, .returning, .normal, some i => resultS P (find S.ents) S.top.tmps i.results
  | _, _, _, _ => none
def sStart (i : FnI) (f : FuncId) (args : List SV) (ents : Ents) (next hi : Nat) : SState := { top := enterS i f args .normal, stk := [], ents, next, hi, log := [] }
theorem calls_of_runF [Val] (hok : FnOk P) {dr : Ext} (hdr : ExtOk P dr) {fs0 : Facts} (hfs0 : FactsOk fs0) {n : Nat} {f : FuncId} {i : FnI} {args : List SV} {vs : List Value} {ents : Ents} {next hi : Nat} {ρ : Env} {w : World} {R : Ending → World → Prop} (hi' : fnOf P f = some i)
    (ha : SV.DenL ρ args vs) (hd : DenH ρ X w0 (find ents) (Fr F lo next) w) (hF : FrOk F lo next hi)
    (h : (srun P dr n fs0 (sStart i f args ents next hi)).sat fun S => ∃ s, sValue P f S = some s ∧ ∀ ρ' v w', ρ.le ρ' → s.Den ρ' v → DenH ρ' X w0 (find S.ents) (Fr F lo S.next) w' → R (.returned v) w') : Calls P f vs.toArray w R := by
  intro cs
  have hS : DenS ρ X w0 F lo cs (sStart i f args ents next hi) (lone (Frame.enter P f vs.toArray .normal) cs w) := ⟨_, [], w, rfl, enterS_den hi' ha, rfl, hd, hF⟩
  obtain ⟨ρ', S', m', h1, ⟨⟨s, h2, h3⟩, hdn⟩, h4, fr, frs, w', rfl, hfr, hfs, hd', hF'⟩ := srun_ok hok hdr hfs0 hS h
  obtain ⟨F, hF, hFb, hFn, hFr⟩ := fnOf_spec hi'
  unfold sValue at h2
  split at h2 <;> try cases h2
  rename_i i' hb hm hk hi2
  rw [hi'] at hi2
  injection hi2 with hi2; subst hi2
  have hb := Nat.eq_of_beq_eq_true hb
  unfold sDone at hdn
  split at hdn <;> try cases hdn
  · rename_i hstk hm2 hdf
    rw [hstk] at hfs
    simp only [DenFs] at hfs; subst hfs
    have hmode := hfr.mode
    rw [hm] at hmode
    simp only [SMode.Den] at hmode
    have hdefers := hfr.defers
    rw [hdf] at hdefers
    simp only [DenDs] at hdefers
    have hfn : fr.fn = f := hfr.fn.trans hb
    rw [← hFr] at h2
    obtain ⟨v, hv, hsv⟩ := resultS_ok hd' hfr.tmps h2
    exact ⟨.returned v, w', fr, h3 ρ' v w' h1 hsv hd', h4, hfn, hmode, hdefers, hfr.kind.trans hk, F, by rw [hfn]; exact hF, hv⟩
  · rename_i hm2 _
    rw [hm] at hm2; cases hm2
theorem calls_of_run [Val] (hok : FnOk P) {dr : Ext} (hdr : ExtOk P dr) {n : Nat} {f : FuncId} {i : FnI} {args : List SV} {vs : List Value} {ents : Ents} {next hi : Nat} {ρ : Env} {w : World} {R : Ending → World → Prop} (hi' : fnOf P f = some i)
    (ha : SV.DenL ρ args vs) (hd : DenH ρ X w0 (find ents) (Fr F lo next) w) (hF : FrOk F lo next hi)
    (h : (srun P dr n [] (sStart i f args ents next hi)).sat fun S => ∃ s, sValue P f S = some s ∧ ∀ ρ' v w', ρ.le ρ' → s.Den ρ' v → DenH ρ' X w0 (find S.ents) (Fr F lo S.next) w' → R (.returned v) w') : Calls P f vs.toArray w R :=
  calls_of_runF hok hdr (fs0 := []) (fun p hp => absurd hp (by simp)) hi' ha hd hF h
theorem new_of_den [Val] {ρ : Env} {look : Look} {fresh : Nat → Prop} {w w' : World} (h : DenH ρ (fun _ => False) w look fresh w') : New w w' := by
  obtain ⟨φ, d⟩ := h
  exact ⟨d.os, d.tape, d.output, d.size, fun k hk => d.frame k hk (fun q => q)⟩
end
def noDr : Dr := fun _ _ _ _ _ _ _ => none
theorem noDr_ok [Val] (P : Program) : DrOk P noDr := fun _ _ _ _ _ _ _ _ _ _ _ _ _ h => by cases h
end Go.Sx
/- On what an operation's outcome hangs. -/
namespace Go.Sx
set_option linter.unusedSimpArgs false
set_option linter.unusedVariables false
open Go Go.RowKit Go.Cd Go.Proofs.YtnoiijjkjcklpaaGreat Go.MapKept

def hs : SV → List Nat
  | .ptr h _ => [h]
  | .sl h _ _ _ => [h]
  | .map h => [h]
  | _ => []
section
variable {P : Program} {look look' : Look}
theorem sLoad_congr [Val] {t : TypeId} {p : SV} (h : ∀ x ∈ hs p, look x = look' x) : sLoad P look t p = sLoad P look' t p := by
  unfold sLoad
  cases p <;> first | rfl | (simp only [hs, List.mem_singleton, forall_eq] at h; simp only [h])
theorem sStore_congr [Val] {t : TypeId} {p x : SV} (h : ∀ x ∈ hs p, look x = look' x) : sStore P look t p x = sStore P look' t p x := by
  unfold sStore
  cases p <;> first | rfl | (simp only [hs, List.mem_singleton, forall_eq] at h; simp only [h])
theorem sLookup_congr [Val] {t : TypeId} {m k : SV} {ok : Bool} (h : ∀ x ∈ hs m, look x = look' x) : sLookup P look t m k ok = sLookup P look' t m k ok := by
  unfold sLookup
  cases m <;> first | rfl | (simp only [hs, List.mem_singleton, forall_eq] at h; simp only [h])
theorem sMapEntry_congr [Val] {t : TypeId} {m k : SV} (h : ∀ x ∈ hs m, look x = look' x) : sMapEntry P look t m k = sMapEntry P look' t m k := by
  unfold sMapEntry
  cases k <;> try rfl
  rename_i kk n
  cases n <;> try rfl
  cases m <;> first | rfl | (simp only [hs, List.mem_singleton, forall_eq] at h; simp only [h])
theorem sMapUpdate_congr [Val] {t : TypeId} {m k x : SV} (h : ∀ x ∈ hs m, look x = look' x) : sMapUpdate P look t m k x = sMapUpdate P look' t m k x := by
  unfold sMapUpdate
  cases k <;> try rfl
  rename_i kk n
  cases n <;> try rfl
  cases m <;> first | rfl | (simp only [hs, List.mem_singleton, forall_eq] at h; simp only [h])
theorem sEntryStore_congr [Val] {m s x : SV} (h : ∀ x ∈ hs m, look x = look' x) : sEntryStore look m s x = sEntryStore look' m s x := by
  unfold sEntryStore
  cases s <;> try (cases m <;> rfl)
  rename_i kk n
  cases n <;> try (cases m <;> rfl)
  rename_i i
  cases i <;> try (cases m <;> rfl)
  cases m <;> first | rfl | (simp only [hs, List.mem_singleton, forall_eq] at h; simp only [h])
theorem sNext_congr [Val] {x : SV} {b : Bool} (h : ∀ y ∈ hs x, look y = look' y) : sNext look x b = sNext look' x b := by
  unfold sNext
  cases b <;> try (cases x <;> rfl)
  cases x <;> try rfl
  rename_i g o
  simp only [hs, List.mem_singleton, forall_eq] at h
  cases o <;> try rfl
  rename_i n
  cases n <;> first | rfl | simp only [h]
theorem sLen_congr [Val] {t : TypeId} {x : SV} (h : ∀ y ∈ hs x, look y = look' y) : sLen P look t x = sLen P look' t x := by
  unfold sLen
  cases tyOf P t with
  | none => rfl
  | some ti =>
    simp only
    cases ti.desc <;> try (cases x <;> rfl)
    cases x <;> first | rfl | (simp only [hs, List.mem_singleton, forall_eq] at h; simp only [h])
theorem srcCells_congr [Val] {sz n : Nat} {x : SV} (h : ∀ y ∈ hs x, look y = look' y) : srcCells look sz n x = srcCells look' sz n x := by
  unfold srcCells
  cases x <;> try rfl
  rename_i g o l c
  simp only [hs, List.mem_singleton, forall_eq] at h
  cases o <;> try rfl
  cases l <;> first | rfl | simp only [h]
theorem sAppend_congr [Val] {id : Nat} {t u : TypeId} {s x : SV} (h : ∀ y ∈ hs s ++ hs x, look y = look' y) : sAppend P look id t u s x = sAppend P look' id t u s x := by
  have h1 : ∀ sz n, srcCells look sz n x = srcCells look' sz n x := fun sz n => srcCells_congr fun y hy => h y (by simp [hy])
  have h2 : ∀ sz n, srcCells look sz n s = srcCells look' sz n s := fun sz n => srcCells_congr fun y hy => h y (by simp [hy])
  have h3 : ∀ y ∈ hs s, look y = look' y := fun y hy => h y (by simp [hy])
  unfold sAppend
  simp only [h1]
  cases s <;> try rfl
  rename_i g o l c
  simp only [hs, List.mem_singleton, forall_eq] at h3
  simp only [h2, h3]
  cases o <;> try rfl
  rename_i n
  cases l <;> try rfl
  cases c <;> first
    | rfl
    | (cases n <;> first | rfl | simp only [h3])
theorem sCopy_congr [Val] {t : TypeId} {x y : SV} (h : ∀ z ∈ hs x ++ hs y, look z = look' z) : sCopy P look t x y = sCopy P look' t x y := by
  have h1 : ∀ sz n, srcCells look sz n y = srcCells look' sz n y := fun sz n => srcCells_congr fun z hz => h z (by simp [hz])
  have h3 : ∀ z ∈ hs x, look z = look' z := fun z hz => h z (by simp [hz])
  unfold sCopy
  simp only [h1]
  cases x <;> try rfl
  rename_i g o l c
  simp only [hs, List.mem_singleton, forall_eq] at h3
  cases o <;> try rfl
  cases l <;> first | rfl | simp only [h3]
end
def hsO (ev : Ev) (x : Operand) : List Nat :=
  match ev x with
  | some s => hs s
  | none => []
def hsL (ev : Ev) : List Operand → List Nat
  | [] => []
  | x :: l => hsO ev x ++ hsL ev l
def sReads (ev : Ev) (o : Op) : List Nat :=
  match o with
  | .load _ a => hsO ev a
  | .store _ a _ => hsO ev a
  | .insert _ m _ _ => hsO ev m
  | .mapUpdate _ m _ _ => hsO ev m
  | .lookup _ m _ _ => hsO ev m
  | .mapEntry _ m _ => hsO ev m
  | .entryStore _ m _ _ => hsO ev m
  | .next x _ => hsO ev x
  | .call c => hsL ev c.args.toList
  | _ => []
theorem evs_congr [Val] {ev ev' : Ev} : ∀ {l : List Operand}, (∀ x ∈ l, ev x = ev' x) → evs ev l = evs ev' l
  | [], _ => rfl
  | x :: l, h => by
    unfold evs
    rw [h x (by simp), evs_congr fun y hy => h y (by simp [hy])]
theorem evps_congr [Val] {ev ev' : Ev} : ∀ {l : List (Nat × Operand)}, (∀ x ∈ l.map (·.2), ev x = ev' x) → evps ev l = evps ev' l
  | [], _ => rfl
  | (i, x) :: l, h => by
    unfold evps
    rw [h x (by simp), evps_congr fun y hy => h y (by simp only [List.map_cons, List.mem_cons]; exact .inr hy)]
theorem evo_congr [Val] {ev ev' : Ev} {o : Option Operand} (h : ∀ x, o = some x → ev x = ev' x) : evo ev o = evo ev' o := by
  cases o with
  | none => rfl
  | some x => simp only [evo, h x rfl]
theorem hsL_of_evs [Val] {ev : Ev} : ∀ {l : List Operand} {r : List SV}, evs ev l = some r → ∀ s ∈ r, ∀ h ∈ hs s, h ∈ hsL ev l
  | [], _, e, s, hs', _, _ => by simp only [evs, Option.some.injEq] at e; subst e; simp at hs'
  | x :: l, _, e, s, hs', h, hh => by
    unfold evs at e
    split at e <;> try cases e
    rename_i a ha
    split at e <;> cases e
    rename_i r hr
    unfold hsL
    rcases List.mem_cons.1 hs' with rfl | hs'
    · refine List.mem_append_left _ ?_
      simp only [hsO, ha]; exact hh
    · exact List.mem_append_right _ (hsL_of_evs hr s hs' h hh)
theorem sBuiltin_congr [Val] {P : Program} {look look' : Look} {id : Nat} {b : Builtin} {ts : List TypeId} {args : List SV} (h : ∀ s ∈ args, ∀ y ∈ hs s, look y = look' y) : sBuiltin P look id b ts args = sBuiltin P look' id b ts args := by
  cases b <;> simp only [sBuiltin]
  case append =>
    split
    · rename_i t u x y
      rw [sAppend_congr fun z hz => by
        rcases List.mem_append.1 hz with h1 | h1
        · exact h x (by simp) z h1
        · exact h y (by simp) z h1]
    · rfl
  case copy =>
    split
    · rename_i t u x y
      rw [sCopy_congr fun z hz => by
        rcases List.mem_append.1 hz with h1 | h1
        · exact h x (by simp) z h1
        · exact h y (by simp) z h1]
    · rfl
  case len =>
    split
    · rename_i t x
      rw [sLen_congr fun z hz => h x (by simp) z hz]
    · rfl
theorem with1_congr [Val] {ev ev' : Ev} {x : Operand} {k k' : SV → OOut} (h : ev x = ev' x) (hk : ∀ s, ev x = some s → k s = k' s) : with1 ev x k = with1 ev' x k' := by
  unfold with1
  rw [← h]
  cases hx : ev x with
  | none => rfl
  | some s => exact hk s hx
theorem with2_congr [Val] {ev ev' : Ev} {x y : Operand} {k k' : SV → SV → OOut} (h : ev x = ev' x) (h' : ev y = ev' y) (hk : ∀ s t, ev x = some s → ev y = some t → k s t = k' s t) : with2 ev x y k = with2 ev' x y k' := by
  unfold with2
  rw [← h, ← h']
  cases hx : ev x with
  | none => rfl
  | some s =>
    cases hy : ev y with
    | none => rfl
    | some t => exact hk s t hx hy
theorem sop_congr [Val] {P : Program} {look look' : Look} {id : Nat} {ev ev' : Ev} {o : Op} (he : ∀ x ∈ o.operands, ev x = ev' x) (hl : ∀ h ∈ sReads ev o, look h = look' h) : sop P look id ev o = sop P look' id ev' o := by
  have one : ∀ {x : Operand} {s : SV}, ev x = some s → (∀ h ∈ hsO ev x, look h = look' h) → ∀ h ∈ hs s, look h = look' h := fun hx hh h h1 => hh h (by simp only [hsO, hx]; exact h1)
  cases o <;> simp only [sop] <;> simp only [Op.operands] at he <;> simp only [sReads] at hl
  case move x => exact with1_congr (he x (by simp)) fun _ _ => rfl
  case assign x => exact with1_congr (he x (by simp)) fun _ _ => rfl
  case pick c a b => exact with1_congr (he c (by simp)) fun _ _ => with2_congr (he a (by simp)) (he b (by simp)) fun _ _ _ _ => rfl
  case box t x => exact with1_congr (he x (by simp)) fun _ _ => rfl
  case build t ps => rw [evps_congr fun x hx => he x (by simpa using hx)]
  case buildSlice t n ps => rw [evps_congr fun x hx => he x (by simpa using hx)]
  case insert t m k x => exact with1_congr (he m (by simp)) fun s hs' => with2_congr (he k (by simp)) (he x (by simp)) fun _ _ _ _ => by rw [sMapUpdate_congr (one hs' hl)]
  case mapUpdate t m k x => exact with1_congr (he m (by simp)) fun s hs' => with2_congr (he k (by simp)) (he x (by simp)) fun _ _ _ _ => by rw [sMapUpdate_congr (one hs' hl)]
  case load t a => exact with1_congr (he a (by simp)) fun s hs' => by rw [sLoad_congr (one hs' hl)]
  case store t a x => exact with2_congr (he a (by simp)) (he x (by simp)) fun s _ hs' _ => by rw [sStore_congr (one hs' hl)]
  case nilCheck x => exact with1_congr (he x (by simp)) fun _ _ => rfl
  case binOp op t x y yt => exact with2_congr (he x (by simp)) (he y (by simp)) fun _ _ _ _ => rfl
  case unOp op t x => exact with1_congr (he x (by simp)) fun _ _ => rfl
  case convert s t x => exact with1_congr (he x (by simp)) fun _ _ => rfl
  case makeInterface t x => exact with1_congr (he x (by simp)) fun _ _ => rfl
  case makeFunc f first cap =>
    rw [evs_congr (l := first.toList) fun x hx => he x (by simp at hx; simp [hx]), evs_congr (l := cap.toList) fun x hx => he x (by simp at hx; simp [hx])]
  case makeMap t h => rw [evo_congr fun x hx => he x (by simp [hx])]
  case makeSlice t l c => exact with2_congr (he l (by simp)) (he c (by simp)) fun _ _ _ _ => rfl
  case slice t x lo hi mx =>
    refine with1_congr (he x (by simp)) fun _ _ => ?_
    rw [evo_congr (o := lo) fun x hx => he x (by simp [hx]), evo_congr (o := hi) fun x hx => he x (by simp [hx]), evo_congr (o := mx) fun x hx => he x (by simp [hx])]
  case fieldAddr t x f => exact with1_congr (he x (by simp)) fun _ _ => rfl
  case field t x f => exact with1_congr (he x (by simp)) fun _ _ => rfl
  case indexAddr t x i => exact with2_congr (he x (by simp)) (he i (by simp)) fun _ _ _ _ => rfl
  case index t x i => exact with2_congr (he x (by simp)) (he i (by simp)) fun _ _ _ _ => rfl
  case lookup t m k ok => exact with2_congr (he m (by simp)) (he k (by simp)) fun s _ hs' _ => by rw [sLookup_congr (one hs' hl)]
  case mapEntry t m k => exact with2_congr (he m (by simp)) (he k (by simp)) fun s _ hs' _ => by rw [sMapEntry_congr (one hs' hl)]
  case entryStore t m s x => exact with1_congr (he m (by simp)) fun sm hs' => with2_congr (he s (by simp)) (he x (by simp)) fun _ _ _ _ => by rw [sEntryStore_congr (one hs' hl)]
  case range t x => exact with1_congr (he x (by simp)) fun _ _ => rfl
  case next x str => exact with1_congr (he x (by simp)) fun s hs' => by rw [sNext_congr (one hs' hl)]
  case typeAssert x xt t ok => exact with1_congr (he x (by simp)) fun _ _ => rfl
  case extract x i => exact with1_congr (he x (by simp)) fun _ _ => rfl
  case call c =>
    have ha : ∀ x ∈ c.args.toList, ev x = ev' x := fun x hx => he x (by simp at hx; simp [Call.operands, hx])
    rw [← evs_congr ha]
    cases hv : evs ev c.args.toList with
    | none => rfl
    | some xs =>
      simp only
      cases hc : c.callee with
      | value f => exact with1_congr (he f (by simp [Call.operands, hc])) fun _ _ => rfl
      | builtin b => exact sBuiltin_congr fun s hs' y hy => hl y (hsL_of_evs hv s hs' y hy)
      | invoke _ _ => rfl
  case defer c =>
    have ha : ∀ x ∈ c.args.toList, ev x = ev' x := fun x hx => he x (by simp at hx; simp [Call.operands, hx])
    rw [← evs_congr ha]
    cases hv : evs ev c.args.toList with
    | none => rfl
    | some xs =>
      simp only
      cases hc : c.callee with
      | value f => exact with1_congr (he f (by simp [Call.operands, hc])) fun _ _ => rfl
      | builtin b => rfl
      | invoke _ _ => rfl
  case panic x => exact with1_congr (he x (by simp)) fun _ _ => rfl
end Go.Sx
