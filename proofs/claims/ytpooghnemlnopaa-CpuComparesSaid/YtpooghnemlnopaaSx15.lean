/- The symbolic machine's step is right; runs; calls. -/
import Derived.Test.YtpooghnemlnopaaSx14
namespace Go.Sx
set_option linter.unusedSimpArgs false
set_option linter.unusedVariables false
open Go Go.RowKit Go.Cd Go.Proofs.Ytpooghnemlnopaa Go.MapKept
section
variable {P : Program} {X : Nat → Prop} {w0 : World} {F : Nat → Prop} {lo : Nat} {cs : List Frame}

theorem sDo_ok [Val] (hok : FnOk P) {e : Ext} (he : ExtOk P e) {ρ : Env} {S : SState} {td : List SItem} {k : List Item} {Q : SState → Prop} {fn : FuncId} {tm : Array Value} {ops : Array Oper} {i : Nat} {rest : List Nat} {ds : List Deferred} {kd : CallKind} {ro : Option Nat} {frs : List Frame} {w : World} {o : Oper}
    (hfr : S.top.Den ρ ⟨fn, tm, .inRegion ops (i :: rest) :: k, ds, .run, kd, ro⟩) (hmode : S.top.mode = .run) (htd : ∀ ρ', ρ.le ρ' → DenIs ρ' td (.inRegion ops rest :: k)) (hfs : DenFs ρ S.stk frs) (hd : DenH ρ X w0 (find S.ents) (Fr F lo S.next) w) (hF : FrOk F lo S.next S.hi)
    (ho : ops[i]? = some o) (hw : Region.wanted o (yielded ops tm) = true) (hq : (sDo P e S td o).sat Q) :
    Goes P ρ X w0 F lo cs Q (lone ⟨fn, tm, .inRegion ops (i :: rest) :: k, ds, .run, kd, ro⟩ (frs ++ cs) w) := by
  have hdef : (∀ h, isDefer o.op = true → S.top.round = some h → False) → ro = none ∨ isDefer o.op = false := fun hh => by
    cases hdd : isDefer o.op with
    | false => exact .inr rfl
    | true =>
      left
      have hro := hfr.round
      cases hr : S.top.round with
      | none => rw [hr] at hro; exact hro
      | some h => exact (hh h hdd hr).elim
  unfold sDo at hq
  split at hq
  · exact hq.elim
  · rename_i hne
    split at hq
    · rename_i hb
      have hb := Nat.le_of_ble_eq_true hb
      have hf : Fr F lo S.next S.next := hF.self 0 (by omega)
      have hf1 : Fr F lo S.next (S.next + 1) := hF.self 1 (by omega)
      exact sOut_ok hok he hfr hmode htd hfs hd hF hb ho hw (hdef fun h e1 e2 => hne h e1 e2) _ (sop_ok hok (evalS_ok hfr.tmps) hd hf hf1 o) hq
    · exact hq.elim
theorem sSkip_ok [Val] {ρ : Env} {S : SState} {td : List SItem} {k : List Item} {Q : SState → Prop} {fn : FuncId} {tm : Array Value} {ops : Array Oper} {i : Nat} {rest : List Nat} {ds : List Deferred} {kd : CallKind} {ro : Option Nat} {frs : List Frame} {w : World} {dst : Option Tmp}
    (hfr : S.top.Den ρ ⟨fn, tm, .inRegion ops (i :: rest) :: k, ds, .run, kd, ro⟩) (hmode : S.top.mode = .run) (htd : DenIs ρ td (.inRegion ops rest :: k)) (hfs : DenFs ρ S.stk frs) (hd : DenH ρ X w0 (find S.ents) (Fr F lo S.next) w) (hF : FrOk F lo S.next S.hi)
    (hw : ((ops[i]?).map (Region.wanted · (yielded ops tm))).getD false = false) (hdst : (ops[i]?).bind (·.dst) = dst) (hq : (sSkip S td dst).sat Q) :
    Goes P ρ X w0 F lo cs Q (lone ⟨fn, tm, .inRegion ops (i :: rest) :: k, ds, .run, kd, ro⟩ (frs ++ cs) w) := by
  have hst := st_op_skip (P := P) (cs := frs ++ cs) (w := w) (k := k) (ds := ds) (kd := kd) (ro := ro) (fn := fn) (rest := rest) hw
  rw [hdst] at hst
  exact .one (Env.le_refl _) hq hst ⟨_, frs, w, rfl, ⟨hfr.fn, putS_den hfr.tmps undefS_den _, htd, hfr.defers, by rw [hmode]; rfl, hfr.kind, hfr.round⟩, hfs, hd, hF⟩
theorem sOp_ok [Val] (hok : FnOk P) {e : Ext} (he : ExtOk P e) {ρ : Env} {S : SState} {sk : List SItem} {k : List Item} {Q : SState → Prop} {fn : FuncId} {tm : Array Value} {ops : Array Oper} {i : Nat} {rest : List Nat} {ds : List Deferred} {kd : CallKind} {ro : Option Nat} {frs : List Frame} {w : World}
    (hfr : S.top.Den ρ ⟨fn, tm, .inRegion ops (i :: rest) :: k, ds, .run, kd, ro⟩) (hmode : S.top.mode = .run) (hk : DenIs ρ sk k) (hfs : DenFs ρ S.stk frs) (hd : DenH ρ X w0 (find S.ents) (Fr F lo S.next) w) (hF : FrOk F lo S.next S.hi)
    (hq : (sOp P e S ops i rest sk).sat Q) : Goes P ρ X w0 F lo cs Q (lone ⟨fn, tm, .inRegion ops (i :: rest) :: k, ds, .run, kd, ro⟩ (frs ++ cs) w) := by
  have htd : ∀ ρ', ρ.le ρ' → DenIs ρ' (.inRegion ops rest :: sk) (.inRegion ops rest :: k) := fun ρ' h => ⟨_, _, rfl, rfl, hk.mono h⟩
  unfold sOp at hq
  split at hq
  · rename_i ho
    exact sSkip_ok hfr hmode (htd _ (Env.le_refl _)) hfs hd hF (by simp [ho]) (by simp [ho]) hq
  · rename_i o ho
    have hwant := wantS_ok hfr.tmps (ops := ops) o
    have skip : ∀ b, Region.wanted o (yielded ops tm) = b → b = false → (sSkip S (.inRegion ops rest :: sk) o.dst).sat Q → Goes P ρ X w0 F lo cs Q (lone ⟨fn, tm, .inRegion ops (i :: rest) :: k, ds, .run, kd, ro⟩ (frs ++ cs) w) := fun b h1 h2 h3 => by
      subst h2
      exact sSkip_ok hfr hmode (htd _ (Env.le_refl _)) hfs hd hF (by simp [ho, h1]) (by simp [ho]) h3
    have doit : ∀ b, Region.wanted o (yielded ops tm) = b → b = true → (sDo P e S (.inRegion ops rest :: sk) o).sat Q → Goes P ρ X w0 F lo cs Q (lone ⟨fn, tm, .inRegion ops (i :: rest) :: k, ds, .run, kd, ro⟩ (frs ++ cs) w) := fun b h1 h2 h3 => by
      subst h2
      exact sDo_ok hok he hfr hmode htd hfs hd hF ho h1 h3
    split at hq
    · rename_i hwn
      rw [hwn] at hwant
      exact doit _ hwant rfl hq
    · rename_i hwn
      rw [hwn] at hwant
      exact skip _ hwant rfl hq
    · rename_i b want hwn
      rw [hwn] at hwant
      simp only at hwant
      split at hq
      · cases hb : b.v with
        | true => rw [hb] at hwant; exact doit _ hwant rfl (hq.1 hb)
        | false => rw [hb] at hwant; exact skip _ hwant rfl (hq.2 hb)
      · cases hb : b.v with
        | true => rw [hb] at hwant; exact skip _ hwant rfl (hq.1 hb)
        | false => rw [hb] at hwant; exact doit _ hwant rfl (hq.2 hb)
    · exact hq.elim
theorem finishS_ok [Val] {ρ : Env} {c c' : SFrame} {f : Frame} {s : SV} {v : Value} (h : finishS c s = some c') (hc : c.Den ρ f) (hs : s.Den ρ v) : c'.Den ρ (f.finish v) := by
  obtain ⟨fn, tm, td, ds, md, kd, ro⟩ := f
  have htd := hc.todo
  unfold finishS at h
  split at h
  · rename_i ops i rest k hto
    cases h
    rw [hto] at htd
    obtain ⟨it, l', hl, h1, h2⟩ := htd
    simp only [SItem.Den] at h1; subst h1
    dsimp only at hl; subst hl
    rw [finish_region]
    exact ⟨hc.fn, putS_den hc.tmps hs _, ⟨_, _, rfl, rfl, h2⟩, hc.defers, hc.mode, hc.kind, hc.round⟩
  · rename_i hh k hto
    cases h
    rw [hto] at htd
    obtain ⟨it, l', hl, ⟨l, h1, rfl⟩, h2⟩ := htd
    dsimp only at hl; subst hl
    rw [finish_rangeFunc]
    exact ⟨hc.fn, hc.tmps, ⟨_, _, rfl, ⟨l, h1, rfl⟩, h2⟩, hc.defers, hc.mode, hc.kind, hc.round⟩
  · cases h
theorem denPans_append [Val] {ρ : Env} : ∀ {a b : List SPan} {x y : List PanicEntry}, DenPans ρ a x → DenPans ρ b y → DenPans ρ (a ++ b) (x ++ y)
  | [], _, _, _, h, h' => by simp only [DenPans] at h; subst h; simpa using h'
  | _ :: _, _, _, _, ⟨v, l, rfl, h1, h2⟩, h' => ⟨v, _, rfl, h1, denPans_append h2 h'⟩
theorem raiseS_ok [Val] {ρ : Env} {c : SFrame} {f : Frame} {l : List SPan} {ch : List PanicEntry} (hc : c.Den ρ f) (hl : DenPans ρ l ch) : (raiseS c l).Den ρ (f.raise ch) := by
  have hm := hc.mode
  unfold raiseS
  split
  · rename_i old ho
    rw [ho] at hm
    obtain ⟨o, h1, h2⟩ := hm
    have e : f.raise ch = { f with mode := .panicking (ch ++ o) } := by simp [Frame.raise, h2]
    rw [e]
    exact ⟨hc.fn, hc.tmps, hc.todo, hc.defers, ⟨_, denPans_append hl h1, rfl⟩, hc.kind, hc.round⟩
  · rename_i hne
    have e : f.raise ch = { f with mode := .panicking ch } := by
      cases hmm : c.mode with
      | run => rw [hmm] at hm; simp only [SMode.Den] at hm; simp [Frame.raise, hm]
      | returning => rw [hmm] at hm; simp only [SMode.Den] at hm; simp [Frame.raise, hm]
      | panicking l => exact absurd hmm (hne l)
    rw [e]
    exact ⟨hc.fn, hc.tmps, hc.todo, hc.defers, ⟨_, hl, rfl⟩, hc.kind, hc.round⟩
theorem settleS_ok [Val] {ρ : Env} {m : SMode} {fm : FrameMode} (h : m.Den ρ fm) : (settleS m).Den ρ (settle fm) := by
  have drop : ∀ {l : List SPan} {c : List PanicEntry}, DenPans ρ l c → c.dropWhile (!·.goexit) = [] := fun {l} => by
    induction l with
    | nil => intro c hc; simp only [DenPans] at hc; subst hc; rfl
    | cons p l ih =>
      intro c hc
      obtain ⟨x, c', rfl, _, h2⟩ := hc
      simp [List.dropWhile_cons, ih h2]
  cases m with
  | run => simp only [SMode.Den] at h; subst h; rfl
  | returning => simp only [SMode.Den] at h; subst h; rfl
  | panicking l =>
    obtain ⟨c, hc, rfl⟩ := h
    cases l with
    | nil => simp only [DenPans] at hc; subst hc; exact ⟨[], rfl, rfl⟩
    | cons p l =>
      obtain ⟨x, c', rfl, h1, h2⟩ := hc
      obtain ⟨pv, pr⟩ := p
      cases pr with
      | true => simp only [settleS, settle, drop h2, SMode.Den]
      | false => exact ⟨_, ⟨x, c', rfl, h1, h2⟩, rfl⟩
theorem denDs_append [Val] {ρ : Env} : ∀ {a b : List SDef} {x y : List Deferred}, DenDs ρ a x → DenDs ρ b y → DenDs ρ (a ++ b) (x ++ y)
  | [], _, _, _, h, h' => by simp only [DenDs] at h; subst h; simpa using h'
  | _ :: _, _, _, _, ⟨v, l, rfl, h1, h2⟩, h' => ⟨v, _, rfl, h1, denDs_append h2 h'⟩
theorem sUnwind_ok [Val] (hok : FnOk P) {ρ : Env} {S : SState} {Q : SState → Prop} {fr : Frame} {frs : List Frame} {w : World} (hfr : S.top.Den ρ fr) (hmode : S.top.mode ≠ .run) (hfs : DenFs ρ S.stk frs) (hd : DenH ρ X w0 (find S.ents) (Fr F lo S.next) w) (hF : FrOk F lo S.next S.hi)
    (hq : (sUnwind P S).sat Q) : Goes P ρ X w0 F lo cs Q (lone fr (frs ++ cs) w) := by
  obtain ⟨fn, tm, td, ds, md, kd, ro⟩ := fr
  have hmd : md ≠ .run := fun e => by
    have := hfr.mode
    cases hm : S.top.mode with
    | run => exact hmode hm
    | returning => rw [hm] at this; simp only [SMode.Den] at this; rw [this] at e; cases e
    | panicking l => rw [hm] at this; obtain ⟨c, _, h2⟩ := this; dsimp only at h2; rw [h2] at e; cases e
  have hdf := hfr.defers
  unfold sUnwind at hq
  split at hq
  · rename_i h ds' hds
    split at hq <;> try exact hq.elim
    rename_i l hl
    rw [hds] at hdf
    obtain ⟨dd, dr, e, ⟨b, hb, rfl⟩, h2⟩ := hdf
    dsimp only at e; subst e
    obtain ⟨b', obj, hb', hobj, hden⟩ := hd.at hl rfl
    obtain rfl : b' = b := by rw [hb] at hb'; injection hb' with e; exact e.symm
    obtain ⟨xs, hxs, rfl⟩ := hden
    have hst := st_collected (P := P) (fn := fn) (tmps := tm) (td := td) (kd := kd) (ro := ro) (cs := frs ++ cs) (ds := dr) hmd (run_takeDeferred hobj)
    refine .one (Env.le_refl _) hq hst ⟨_, frs, _, rfl, ⟨hfr.fn, hfr.tmps, hfr.todo, denDs_append hxs h2, hfr.mode, hfr.kind, hfr.round⟩, hfs, ?_, hF⟩
    exact hd.put hl rfl hb (o' := .defs none) rfl (World.putObj_heap_same (lt_of_heap hobj)) (only_putObj _ _ _) rfl (fun j => find_upd _ _ _ j)
  · rename_i f c a ds' hds
    split at hq <;> try exact hq.elim
    rename_i i hi
    rw [hds] at hdf
    obtain ⟨dd, dr, e, ⟨c', a', hc, ha, rfl⟩, h2⟩ := hdf
    dsimp only at e; subst e
    have hinv : (invoke (.fn (.func f) c'.toArray) a'.toArray).run P w = .ok (.enter f (a' ++ c').toArray) w := by
      simp [invoke, run_callFunc hok hi]
    have hst := st_defer (P := P) (fn := fn) (tmps := tm) (td := td) (kd := kd) (ro := ro) (cs := frs ++ cs) (ds := dr) hmd hinv
    exact .one (Env.le_refl _) hq hst ⟨_, _ :: frs, w, rfl, enterS_den hi (denL_append ha hc), ⟨_, _, rfl, ⟨hfr.fn, hfr.tmps, hfr.todo, h2, hfr.mode, hfr.kind, hfr.round⟩, hfs⟩, hd, hF⟩
  · rename_i hds
    rw [hds] at hdf
    simp only [DenDs] at hdf; subst hdf
    split at hq
    · exact hq.elim
    · rename_i c rest hstk
      rw [hstk] at hfs
      obtain ⟨cf, frs', rfl, hc, hfs'⟩ := hfs
      split at hq <;> try exact hq.elim
      rename_i i hi
      obtain ⟨Fu, hFu, hFb, hFn, hFr⟩ := fnOf_spec hi
      have hfn : fn = S.top.fn := hfr.fn
      rw [← hfn] at hFu
      have hm := hfr.mode
      split at hq
      · rename_i l hl
        rw [hl] at hm
        obtain ⟨ch, hch, e⟩ := hm
        dsimp only at e; subst e
        have hst := st_raise (P := P) (tmps := tm) (td := td) (kd := kd) (ro := ro) (cs := frs' ++ cs) (w := w) (c := cf) (chain := ch) hFu
        exact .one (Env.le_refl _) hq hst ⟨_, frs', w, rfl, raiseS_ok hc hch, hfs', hd, hF⟩
      · rename_i hl
        rw [hl] at hm
        simp only [SMode.Den] at hm; subst hm
        split at hq
        · exact hq.elim
        · rename_i s hs
          rw [← hFr] at hs
          obtain ⟨v, hv, hsv⟩ := resultS_ok hd hfr.tmps hs
          have hkd : kd = S.top.kind := hfr.kind
          split at hq
          · rename_i hk
            split at hq <;> try exact hq.elim
            rename_i c' hc'
            have hst := st_return (P := P) (tmps := tm) (td := td) (kd := kd) (ro := ro) (cs := frs' ++ cs) (w := w) (c := cf) hFu hv (by rw [hkd, hk])
            exact .one (Env.le_refl _) hq hst ⟨_, frs', w, rfl, finishS_ok hc' hc hsv, hfs', hd, hF⟩
          · rename_i hk
            obtain rfl : kd = .deferred := by rw [hkd, hk]
            have hst := st_return_deferred (P := P) (tmps := tm) (td := td) (ro := ro) (cs := frs' ++ cs) (w := w) (c := cf) hFu hv
            exact .one (Env.le_refl _) hq hst ⟨_, frs', w, rfl, ⟨hc.fn, hc.tmps, hc.todo, hc.defers, settleS_ok hc.mode, hc.kind, hc.round⟩, hfs', hd, hF⟩
          · exact hq.elim
      · exact hq.elim
theorem sLeave_ok [Val] {ρ : Env} {S : SState} {Q : SState → Prop} {fr : Frame} {frs : List Frame} {w : World} {jump : Option Code} {ret : Bool} (hfr : S.top.Den ρ fr) (hmode : S.top.mode = .run) (hfs : DenFs ρ S.stk frs) (hd : DenH ρ X w0 (find S.ents) (Fr F lo S.next) w) (hF : FrOk F lo S.next S.hi)
    (hj : fr.todo = [] ∧ jump = none ∧ ret = true ∨ (∃ k, fr.todo = .code .ret :: k) ∧ jump = some .ret ∧ ret = true ∨ (∃ n k, fr.todo = .code (.exit n) :: k ∧ exitTo n k = none ∧ jump = some (.exit n) ∧ ret = false) ∨ (∃ n k, fr.todo = .code (.goto n) :: k ∧ gotoIn n k = none ∧ jump = some (.goto n) ∧ ret = false))
    (hq : (sLeave S jump ret).sat Q) : Goes P ρ X w0 F lo cs Q (lone fr (frs ++ cs) w) := by
  obtain ⟨fn, tm, td, ds, md, kd, ro⟩ := fr
  have hm := hfr.mode
  rw [hmode] at hm
  simp only [SMode.Den] at hm; subst hm
  have hro := hfr.round
  unfold sLeave at hq
  split at hq
  · rename_i hr
    rw [hr] at hro
    simp only [DenOh] at hro; subst hro
    split at hq
    · have fin : Goes P ρ X w0 F lo cs Q (lone ⟨fn, tm, td, ds, .run, kd, none⟩ (frs ++ cs) w) := by
        have hD : DenS ρ X w0 F lo cs { S with top := { S.top with mode := .returning } } (lone ⟨fn, tm, td, ds, .returning, kd, none⟩ (frs ++ cs) w) :=
          ⟨_, frs, w, rfl, ⟨hfr.fn, hfr.tmps, hfr.todo, hfr.defers, rfl, hfr.kind, hfr.round⟩, hfs, hd, hF⟩
        rcases hj with ⟨h1, h2, h3⟩ | ⟨⟨k, h1⟩, h2, h3⟩ | ⟨n, k, h1, h2, h3, h4⟩ | ⟨n, k, h1, h2, h3, h4⟩
        · dsimp only at h1; subst h1
          exact .one (Env.le_refl _) hq st_end0 hD
        · dsimp only at h1; subst h1
          exact .one (Env.le_refl _) hq st_ret0 hD
        · cases h4
        · cases h4
      exact fin
    · exact hq.elim
  · unfold sRoundEnd at hq
    split at hq <;> try exact hq.elim
    rename_i h c rest hr hk hstk
    rw [hr] at hro
    obtain ⟨l, hl, e⟩ := hro
    dsimp only at e; subst e
    rw [hstk] at hfs
    obtain ⟨cf, frs', rfl, hc, hfs'⟩ := hfs
    split at hq <;> try exact hq.elim
    rename_i L hL
    split at hq <;> try exact hq.elim
    rename_i c' hc'
    obtain ⟨b, obj, hb, hobj, hden⟩ := hd.at hL rfl
    obtain rfl : b = l := by rw [hl] at hb; injection hb with e; exact e.symm
    obtain ⟨LL, hLL, rfl⟩ := hden
    obtain rfl : kd = .normal := hfr.kind.trans hk
    have hst := st_endRound (P := P) (fn := fn) (tmps := tm) (ds := ds) (cs := frs' ++ cs) (c := cf) (td := td) (run_endRound jump hobj) (by
      rcases hj with ⟨h1, h2, h3⟩ | ⟨⟨k, h1⟩, h2, h3⟩ | ⟨n, k, h1, h2, h3, h4⟩ | ⟨n, k, h1, h2, h3, h4⟩
      · exact .inl ⟨h1, h2⟩
      · exact .inr (.inl ⟨⟨k, h1⟩, h2⟩)
      · exact .inr (.inr (.inl ⟨n, k, h1, h2, h3⟩))
      · exact .inr (.inr (.inr ⟨n, k, h1, h2, h3⟩)))
    refine .one (Env.le_refl _) hq hst ⟨_, frs', _, rfl, finishS_ok hc' hc (by simp [SV.Den]), hfs', ?_, hF⟩
    refine hd.put hL rfl hb (o' := .loop { L with state := if jump.isNone then .ready else .done, pending := jump }) rfl (World.putObj_heap_same (lt_of_heap hobj)) (only_putObj _ _ _) ⟨{ LL with state := if jump.isNone then .ready else .done, pending := jump }, ⟨rfl, rfl, hLL.fn, hLL.tmps, hLL.params, hLL.assign, hLL.body, hLL.defers⟩, rfl⟩ (fun j => find_upd _ _ _ j)
theorem sRangeFunc_ok [Val] (hok : FnOk P) {ρ : Env} {S : SState} {Q : SState → Prop} {fn : FuncId} {tm : Array Value} {f : Operand} {params : Array Tmp} {assign body : Code} {k : List Item} {sk : List SItem} {ds : List Deferred} {kd : CallKind} {ro : Option Nat} {frs : List Frame} {w : World}
    (hfr : S.top.Den ρ ⟨fn, tm, .code (.rangeFunc f params assign body) :: k, ds, .run, kd, ro⟩) (hmode : S.top.mode = .run) (hk : DenIs ρ sk k) (hfs : DenFs ρ S.stk frs) (hd : DenH ρ X w0 (find S.ents) (Fr F lo S.next) w) (hF : FrOk F lo S.next S.hi)
    (hq : (sRangeFunc P S f params assign body sk).sat Q) : Goes P ρ X w0 F lo cs Q (lone ⟨fn, tm, .code (.rangeFunc f params assign body) :: k, ds, .run, kd, ro⟩ (frs ++ cs) w) := by
  unfold sRangeFunc at hq
  split at hq <;> try exact hq.elim
  rename_i g first cap hf
  have hfv := evalS_ok hfr.tmps _ _ hf
  simp only [SV.Den, SFn.Den] at hfv
  obtain ⟨gf, a, b, rfl, ha, hb, hfv⟩ := hfv
  split at hq <;> try exact hq.elim
  rename_i i hi hble
  have hble := Nat.le_of_ble_eq_true hble
  have hro := hfr.round
  have hf0 : Fr F lo S.next S.next := hF.self 0 (by omega)
  have hf1 : Fr F lo S.next (S.next + 1) := hF.self 1 (by omega)
  have hn0 : ρ S.next = none := hd.newName hf0
  have hn1 : ρ (S.next + 1) = none := hd.newName hf1
  have args : ∀ (ρ' : Env) (h l : Nat), ρ.le ρ' → ρ' h = some l → SV.DenL ρ' (first ++ [.fn (.yield h) [] []] ++ cap) (a ++ [.func (.yield l) #[] #[]] ++ b) := fun ρ' h l hle hl =>
    denL_append (denL_append (ha.mono hle) (denL_cons'.2 ⟨(by simp only [SV.Den, SFn.Den]; exact ⟨_, [], [], ⟨l, hl, rfl⟩, by simp, by simp, rfl⟩), by simp⟩)) (hb.mono hle)
  have earr : ∀ l, a.toArray ++ #[Value.func (.yield l) #[] #[]] ++ b.toArray = (a ++ [Value.func (.yield l) #[] #[]] ++ b).toArray := fun l => by simp
  split at hq
  · rename_i hr
    rw [hr] at hro
    simp only [DenOh] at hro; subst hro
    obtain ⟨W1, hW1⟩ : ∃ W1, W1 = w.alloc (.deferred (some [])) := ⟨_, rfl⟩
    obtain ⟨lp, hlo⟩ : ∃ lp : Loop, lp = { state := .ready, pending := none, fn, tmps := tm, params, assign, body, defers := w.heap.size } := ⟨_, rfl⟩
    have hst := st_rangeFunc (P := P) (fn := fn) (k := k) (ds := ds) (kd := kd) (ro := none) (cs := frs ++ cs) (run_enterLoop_outer (P := P) (w := w) fn tm params assign body) hfv (fun xs => run_callFunc hok hi xs _)
    rw [earr] at hst
    have hle1 : ρ.le (ρ.put S.next w.heap.size) := Env.le_put _ hn0
    have hle2 : (ρ.put S.next w.heap.size).le ((ρ.put S.next w.heap.size).put (S.next + 1) (w.heap.size + 1)) := Env.le_put _ (by rw [Env.put_other _ _ (by omega)]; exact hn1)
    have hle := Env.le_trans hle1 hle2
    have e0 : ((ρ.put S.next w.heap.size).put (S.next + 1) (w.heap.size + 1)) S.next = some w.heap.size := hle2 _ _ (Env.put_same _ _ _)
    have e1 : ((ρ.put S.next w.heap.size).put (S.next + 1) (w.heap.size + 1)) (S.next + 1) = some (w.heap.size + 1) := Env.put_same _ _ _
    have hd1 : DenH (ρ.put S.next w.heap.size) X w0 (find ((S.next, .defs (some [])) :: S.ents)) (Fr F lo (S.next + 1)) W1 := by
      rw [hW1]
      refine hd.alloc (h := S.next) (o := .defs (some [])) rfl hle1 hf0 (Env.put_same _ _ _) ⟨[], rfl, rfl⟩ (fun j => find_cons _ _ _ _) fun j hj => ?_
      obtain ⟨g1, g2⟩ := hF.ne (n := 1) hj
      rw [Env.put_other _ _ (show j ≠ S.next from g2 0 (by omega))]
      exact hd.newName g1
    have hsz : W1.heap.size = w.heap.size + 1 := by rw [hW1]; simp
    refine .one hle hq hst ⟨_, _ :: frs, _, rfl, enterS_den hi (args _ _ _ hle e1), ⟨_, _, rfl, ⟨hfr.fn, hfr.tmps.mono hle, ⟨_, _, rfl, ⟨_, e1, rfl⟩, hk.mono hle⟩, ⟨_, _, rfl, ⟨_, e0, rfl⟩, hfr.defers.mono hle⟩, by rw [hmode]; rfl, hfr.kind, hfr.round.mono hle⟩, hfs.mono hle⟩, ?_, hF.more (Nat.le_add_right _ _)⟩
    rw [← hW1, ← hlo]
    refine hd1.alloc (h := S.next + 1) (o := .loop { state := .ready, pending := none, fn := S.top.fn, tmps := S.top.tmps, params := params.toList, assign, body, defers := S.next }) rfl hle2 ((hF.more (Nat.le_succ _)).self 0 (by omega)) (by rw [hsz]; exact e1) ⟨lp, ?_, rfl⟩ (fun j => find_cons _ _ _ _) fun j hj => ?_
    · rw [hlo]
      exact ⟨rfl, rfl, hfr.fn, hfr.tmps.mono hle, rfl, rfl, rfl, e0⟩
    · obtain ⟨g1, g2⟩ := hF.ne (n := 2) hj
      rw [Env.put_other _ _ (show j ≠ S.next + 1 from g2 1 (by omega)), Env.put_other _ _ (show j ≠ S.next from g2 0 (by omega))]
      exact hd.newName g1
  · rename_i h hr
    split at hq <;> try exact hq.elim
    rename_i L hL
    rw [hr] at hro
    obtain ⟨l, hl, e⟩ := hro
    dsimp only at e; subst e
    obtain ⟨b', obj, hb', hobj, hden⟩ := hd.at hL rfl
    obtain rfl : b' = l := by rw [hl] at hb'; injection hb' with e; exact e.symm
    obtain ⟨LL, hLL, rfl⟩ := hden
    have hst := st_rangeFunc (P := P) (fn := fn) (k := k) (ds := ds) (kd := kd) (ro := some b') (cs := frs ++ cs) (run_enterLoop_inner (P := P) hobj fn tm params assign body) hfv (fun xs => run_callFunc hok hi xs _)
    rw [earr] at hst
    have hle : ρ.le (ρ.put S.next w.heap.size) := Env.le_put _ hn0
    have e1 : (ρ.put S.next w.heap.size) S.next = some w.heap.size := Env.put_same _ _ _
    refine .one hle hq hst ⟨_, _ :: frs, _, rfl, enterS_den hi (args _ _ _ hle e1), ⟨_, _, rfl, ⟨hfr.fn, hfr.tmps.mono hle, ⟨_, _, rfl, ⟨_, e1, rfl⟩, hk.mono hle⟩, hfr.defers.mono hle, by rw [hmode]; rfl, hfr.kind, hfr.round.mono hle⟩, hfs.mono hle⟩, ?_, hF.more (Nat.le_add_right _ _)⟩
    refine hd.alloc (h := S.next) (o := .loop { state := .ready, pending := none, fn := S.top.fn, tmps := S.top.tmps, params := params.toList, assign, body, defers := L.defers }) rfl hle hf0 e1 ⟨{ state := .ready, pending := none, fn, tmps := tm, params, assign, body, defers := LL.defers }, ⟨rfl, rfl, hfr.fn, hfr.tmps.mono hle, rfl, rfl, rfl, hle _ _ hLL.defers⟩, rfl⟩ (fun j => find_cons _ _ _ _) fun j hj => ?_
    obtain ⟨g1, g2⟩ := hF.ne (n := 2) hj
    rw [Env.put_other _ _ (show j ≠ S.next from g2 0 (by omega))]
    exact hd.newName g1
end
end Go.Sx
