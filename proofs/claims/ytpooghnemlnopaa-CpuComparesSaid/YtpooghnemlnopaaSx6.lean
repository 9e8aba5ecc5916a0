/- The operations on symbolic values: numbers, truth, comparisons. -/
import Derived.Test.YtpooghnemlnopaaSx5
import Derived.Test.YtpooghnemlnopaaKitEq
namespace Go.Sx
set_option linter.unusedSimpArgs false
set_option linter.unusedVariables false
open Go Go.RowKit Go.Cd Go.Proofs.Ytpooghnemlnopaa

@[simp] theorem SI.lit_v [Val] (n : Int) : (SI.lit n).v = n := rfl
@[simp] theorem SI.sym_v [Val] (n : Tm) : (SI.sym n).v = n.v := rfl
@[simp] theorem SB.lit_v [Val] (n : Bool) : (SB.lit n).v = n := rfl
@[simp] theorem SB.sym_v [Val] (n : Bm) : (SB.sym n).v = n.v := rfl
def SI.op (f : IOp) : SI → SI → SI
  | .lit a, .lit b => .lit (f.f a b)
  | a, b => .sym (.op f a.tm b.tm)
@[simp] theorem SI.op_v [Val] (f : IOp) (a b : SI) : (SI.op f a b).v = f.f a.v b.v := by cases a <;> cases b <;> simp [SI.op, SI.v, Tm.v, SI.tm]
def SB.not : SB → SB
  | .lit a => .lit (!a)
  | .sym (.not a) => .sym a
  | .sym a => .sym (.not a)
@[simp] theorem SB.not_v [Val] (a : SB) : (SB.not a).v = !a.v := by
  unfold SB.not
  split <;> simp [SB.v, Bm.v]
/-- A comparison, by '==' and '<' alone. -/
def mkCmp (f : COp) (a b : Tm) : SB :=
  match f with
  | .eq => .sym (.cmp .eq a b)
  | .ne => .sym (.not (.cmp .eq a b))
  | .lt => .sym (.cmp .lt a b)
  | .gt => .sym (.cmp .lt b a)
  | .le => .sym (.not (.cmp .lt b a))
  | .ge => .sym (.not (.cmp .lt a b))
@[simp] theorem mkCmp_v [Val] (f : COp) (a b : Tm) : (mkCmp f a b).v = f.f a.v b.v := by
  cases f <;> simp only [mkCmp, SB.v, Bm.v, COp.f] <;> first | rfl | (rw [Bool.eq_iff_iff]; simp; done) | (rw [Bool.eq_iff_iff]; simp; omega)
/-- A comparison that bounds decide. -/
def cmpR (f : COp) : Rg → Rg → Option Bool
  | some (a, b), some (c, d) => match decide (b < c) with
    | true => some (f.f 0 1)
    | false => match decide (d < a) with
      | true => some (f.f 1 0)
      | false => match f with
        | .le => match decide (b ≤ c) with
          | true => some true
          | false => none
        | .gt => match decide (b ≤ c) with
          | true => some false
          | false => none
        | .ge => match decide (d ≤ a) with
          | true => some true
          | false => none
        | .lt => match decide (d ≤ a) with
          | true => some false
          | false => none
        | _ => none
  | _, _ => none
theorem cmpR_ok {f : COp} {r s : Rg} {b : Bool} {x y : Int} (h : cmpR f r s = some b) (hx : r.has x) (hy : s.has y) : f.f x y = b := by
  unfold cmpR at h
  split at h
  · rename_i a b' c d
    have h1 := hx a b' rfl
    have h2 := hy c d rfl
    split at h
    · rename_i q
      have q := of_decide_eq_true q
      cases h
      cases f <;> simp [COp.f] <;> omega
    · split at h
      · rename_i q
        have q := of_decide_eq_true q
        cases h
        cases f <;> simp [COp.f] <;> omega
      · split at h
        all_goals first
          | (cases h; done)
          | (split at h <;> cases h
             have q := of_decide_eq_true (by assumption)
             simp [COp.f]; omega)
  · cases h
def SI.cmp (f : COp) : SI → SI → SB
  | .lit a, .lit b => .lit (f.f a b)
  | .sym a, .sym b => match Tm.same a b with
    | true => .lit f.self
    | false => match cmpR f (a.rng 6) (b.rng 6) with
      | some x => .lit x
      | none => mkCmp f a b
  | a, b => match cmpR f (a.tm.rng 6) (b.tm.rng 6) with
    | some x => .lit x
    | none => mkCmp f a.tm b.tm
@[simp] theorem SI.cmp_v [Val] (f : COp) (a b : SI) : (SI.cmp f a b).v = f.f a.v b.v := by
  have key : ∀ a b : SI, (match cmpR f (a.tm.rng 6) (b.tm.rng 6) with
      | some x => SB.lit x
      | none => mkCmp f a.tm b.tm).v = f.f a.v b.v := fun a b => by
    split
    · rename_i h
      have := cmpR_ok h (Tm.rng_has 6 a.tm) (Tm.rng_has 6 b.tm)
      simp only [SI.tm_v] at this
      exact this.symm
    · simp
  cases a <;> cases b <;> simp only [SI.cmp]
  · rfl
  · exact key _ _
  · exact key _ _
  · split
    · rename_i h
      rw [Tm.same_eq h]
      exact (COp.self_f _ _).symm
    · exact key (.sym _) (.sym _)
def SI.ap (f : UOp) : SI → SI
  | .lit a => .lit (f.f a)
  | .sym a => match f with
    | .wrap k => match a.within k.min k.max with
      | true => .sym a
      | false => .sym (.un f a)
    | f => .sym (.un f a)
@[simp] theorem SI.ap_v [Val] (f : UOp) (a : SI) : (SI.ap f a).v = f.f a.v := by
  cases a with
  | lit n => rfl
  | sym t =>
    cases f with
    | wrap k =>
      simp only [SI.ap]
      cases h : t.within k.min k.max with
      | true =>
        obtain ⟨h1, h2⟩ := Tm.within_ok h
        exact (wrap_same _ h1 h2).symm
      | false => simp [SI.v, Tm.v]
    | neg k => simp [SI.ap, SI.v, Tm.v]
    | not k => simp [SI.ap, SI.v, Tm.v]
/-- Is it known to lie within these bounds? -/
def SI.within (a : SI) (l h : Int) : Bool :=
  match a with
  | .lit n => match decide (l ≤ n) with
    | true => decide (n ≤ h)
    | false => false
  | .sym t => t.within l h
theorem SI.within_ok [Val] {a : SI} {l h : Int} (e : a.within l h = true) : l ≤ a.v ∧ a.v ≤ h := by
  cases a with
  | lit n =>
    simp only [SI.within] at e
    split at e
    · rename_i h1
      exact ⟨of_decide_eq_true h1, of_decide_eq_true e⟩
    · cases e
  | sym t => exact Tm.within_ok e
/-- Is it known not to be 0? -/
def SI.nonzero (a : SI) : Bool :=
  match a with
  | .lit n => match decide (n = 0) with
    | true => false
    | false => true
  | .sym t => match Tm.rng 6 t with
    | some (l, h) => match decide (0 < l) with
      | true => true
      | false => decide (h < 0)
    | none => false
theorem SI.nonzero_ok [Val] {a : SI} (e : a.nonzero = true) : a.v ≠ 0 := by
  cases a with
  | lit n =>
    simp only [SI.nonzero] at e
    split at e
    · cases e
    · exact of_decide_eq_false (by assumption)
  | sym t =>
    simp only [SI.nonzero] at e
    split at e
    · rename_i l h hr
      obtain ⟨g1, g2⟩ := Tm.rng_has 6 t _ _ hr
      simp only [SI.v]
      split at e
      · rename_i q; have := of_decide_eq_true q; omega
      · have := of_decide_eq_true e; omega
    · cases e
def SB.op (f : LOp) (a b : SB) : SB :=
  match f, a, b with
  | f, .lit a, .lit b => .lit (f.f a b)
  | .and, .lit true, b => b
  | .and, .lit false, _ => .lit false
  | .and, a, .lit true => a
  | .and, _, .lit false => .lit false
  | .or, .lit false, b => b
  | .or, .lit true, _ => .lit true
  | .or, a, .lit false => a
  | .or, _, .lit true => .lit true
  | .eq, .lit true, b => b
  | .eq, .lit false, b => SB.not b
  | .eq, a, .lit true => a
  | .eq, a, .lit false => SB.not a
  | f, .sym a, .sym b => .sym (.lop f a b)
@[simp] theorem SB.op_v [Val] (f : LOp) (a b : SB) : (SB.op f a b).v = f.f a.v b.v := by
  have hn : ∀ c : SB, (SB.not c).v = !c.v := SB.not_v
  unfold SB.op
  split
  all_goals first
    | (rw [hn]; show (!b.v) = (false == b.v); cases b.v <;> rfl)
    | (rw [hn]; show (!a.v) = (a.v == false); cases a.v <;> rfl)
    | (simp [LOp.f, SB.v, Bm.v]; done)
/-- One of two truths. -/
def SB.ite (t : Bm) (x y : SB) : SB :=
  match x, y with
  | .lit true, .lit false => .sym t
  | .lit false, .lit true => SB.not (.sym t)
  | .lit true, .lit true => .lit true
  | .lit false, .lit false => .lit false
  | .lit true, .sym y => SB.op .or (.sym t) (.sym y)
  | .lit false, .sym y => SB.op .and (SB.not (.sym t)) (.sym y)
  | .sym x, .lit false => SB.op .and (.sym t) (.sym x)
  | .sym x, .lit true => SB.op .or (SB.not (.sym t)) (.sym x)
  | .sym x, .sym y => .sym (.ite t x y)
theorem SB.ite_v [Val] (t : Bm) (x y : SB) : (SB.ite t x y).v = if t.v then x.v else y.v := by
  have hn : ∀ c : SB, (SB.not c).v = !c.v := SB.not_v
  unfold SB.ite
  split <;> (try rw [SB.op_v]) <;> (try rw [hn]) <;> simp only [SB.sym_v, SB.lit_v, LOp.f, Bm.v] <;> cases t.v <;> simp
section
variable {P : Program} {ρ : Env} {X : Nat → Prop} {w0 w : World} {look : Look} {fresh : Nat → Prop} {id : Nat} {r : SV × List Upd × List Nat}

/-! Parts of structs and arrays. -/
def sPart (P : Program) (t : TypeId) (l : List SV) (o : Nat) : Option SV :=
  match tyOf P t with
  | none => none
  | some ti => match ti.desc.isRow with
    | true => match takeN ti.size (dropN o l) with
      | some xs => some (.agg xs)
      | none => none
    | false => nth l o
theorem sPart_ok [Val] {t : TypeId} {l : List SV} {vs : List Value} {o : Nat} {s : SV} (hd : SV.DenL ρ l vs) (h : sPart P t l o = some s) (w : World) : ∃ v, (part t vs.toArray o).run P w = .ok v w ∧ s.Den ρ v := by
  unfold sPart at h
  split at h <;> try cases h
  rename_i ti hti
  split at h
  · rename_i hrow
    split at h <;> try cases h
    rename_i xs hxs
    obtain ⟨e1, e2⟩ := takeN_eq hxs
    rw [dropN_eq] at e1 e2
    have hys := denL_take ti.size (denL_drop o hd)
    rw [← e1] at hys
    exact ⟨_, run_part_row hti hrow vs o w, by simp only [SV.Den]; exact ⟨_, hys, rfl⟩⟩
  · rename_i hrow
    rw [nth_eq] at h
    obtain ⟨v, hv, hyv⟩ := denL_get hd h
    exact ⟨v, run_part_cell hti hrow hv w, hyv⟩

/-! '=='. -/
def eqFs (P : Program) (eq : TypeId → SV → SV → Option SB) : List Field → List SV → List SV → Option SB
  | [], _, _ => some (.lit true)
  | f :: fs, xs, ys => match decide (f.name = "_") with
    | true => none
    | false => match sPart P f.type xs f.offset, sPart P f.type ys f.offset with
      | some a, some b => match eq f.type a b with
        | some x => match eqFs P eq fs xs ys with
          | some y => some (SB.op .and x y)
          | none => none
        | none => none
      | _, _ => none
def eqIs (P : Program) (eq : TypeId → SV → SV → Option SB) (e : TypeId) (sz : Nat) : List Nat → List SV → List SV → Option SB
  | [], _, _ => some (.lit true)
  | i :: is, xs, ys => match sPart P e xs (i * sz), sPart P e ys (i * sz) with
    | some a, some b => match eq e a b with
      | some x => match eqIs P eq e sz is xs ys with
        | some y => some (SB.op .and x y)
        | none => none
      | none => none
    | _, _ => none
def eqS (P : Program) : Nat → TypeId → SV → SV → Option SB
  | 0, _, _, _ => none
  | d + 1, t, x, y => match tyOf P t with
    | none => none
    | some ti => match ti.desc, x, y with
      | .bool, .bool a, .bool b => some (SB.op .eq a b)
      | .int _, .int k a, .int k' b => match decide (k = k') with
        | true => some (SI.cmp .eq a b)
        | false => none
      | .struct fs, .agg xs, .agg ys => match P.stoodInHeld t with
        | true => none
        | false => eqFs P (eqS P d) fs.toList xs ys
      | .array n e, .agg xs, .agg ys => match tyOf P e with
        | none => none
        | some te => eqIs P (eqS P d) e te.size (List.range n) xs ys
      | _, _, _ => none
theorem eqS_ok [Val] : ∀ (d D : Nat) (t : TypeId) (x y : SV) (xv yv : Value) (s : SB) (w : World), d ≤ D → eqS P d t x y = some s → x.Den ρ xv → y.Den ρ yv → (Op.equalIn D t xv yv).run P w = .ok s.v w
  | 0, _, _, _, _, _, _, _, _, _, h, _, _ => by simp [eqS] at h
  | d + 1, 0, _, _, _, _, _, _, _, hD, _, _, _ => by omega
  | d + 1, D + 1, t, x, y, xv, yv, s, w, hD, h, hx, hy => by
    unfold eqS at h
    split at h <;> try cases h
    rename_i ti hti
    obtain ⟨i, hi, hu, _, _, _⟩ := tyOf_spec hti
    split at h <;> try cases h
    · rename_i a b hdesc
      rw [hdesc] at hu
      simp only [SV.Den] at hx hy; subst hx hy
      rw [run_equalIn_bool' _ _ _ _ _ hu]; simp [LOp.f]
    · rename_i k0 k a k' b hdesc
      rw [hdesc] at hu
      split at h <;> try cases h
      rename_i hk
      have hk := of_decide_eq_true hk; subst hk
      simp only [SV.Den] at hx hy; subst hx hy
      rw [run_equalIn_int _ _ _ _ _ _ _ hu]; simp [COp.f]
    · rename_i fs xs ys hdesc
      rw [hdesc] at hu
      split at h <;> try cases h
      rename_i hst
      simp only [SV.Den] at hx hy
      obtain ⟨vx, hvx, rfl⟩ := hx
      obtain ⟨vy, hvy, rfl⟩ := hy
      refine eq_struct hu hst ?_
      revert h
      generalize fs.toList = l
      intro h
      clear hu hdesc hti hi
      induction l generalizing s with
      | nil => simp only [eqFs, Option.some.injEq] at h; subst h; exact eqF_nil
      | cons f l ih =>
        unfold eqFs at h
        split at h <;> try cases h
        rename_i hn
        split at h <;> try cases h
        rename_i a b ha hb
        split at h <;> try cases h
        rename_i p hp
        split at h <;> try cases h
        rename_i q hq
        obtain ⟨av, ha1, ha2⟩ := sPart_ok hvx ha w
        obtain ⟨bv, hb1, hb2⟩ := sPart_ok hvy hb w
        rw [SB.op_v]
        exact eqF_cons (of_decide_eq_false hn) ha1 hb1 (eqS_ok d D _ _ _ _ _ _ w (by omega) hp ha2 hb2) (ih _ hq)
    · rename_i n e xs ys hdesc
      rw [hdesc] at hu
      split at h <;> try cases h
      rename_i te hte
      obtain ⟨j, hj, _, hsj, _, _⟩ := tyOf_spec hte
      simp only [SV.Den] at hx hy
      obtain ⟨vx, hvx, rfl⟩ := hx
      obtain ⟨vy, hvy, rfl⟩ := hy
      rw [run_equalIn_array w D _ _ hu hj]
      have hsz : P.cellsOf e = te.size := by simp [Program.cellsOf, hj, hsj]
      rw [hsz]
      revert h
      generalize List.range n = l
      intro h
      clear hu hdesc hti hi
      induction l generalizing s with
      | nil => simp only [eqIs, Option.some.injEq] at h; subst h; exact eqI_nil
      | cons f l ih =>
        unfold eqIs at h
        split at h <;> try cases h
        rename_i a b ha hb
        split at h <;> try cases h
        rename_i p hp
        split at h <;> try cases h
        rename_i q hq
        obtain ⟨av, ha1, ha2⟩ := sPart_ok hvx ha w
        obtain ⟨bv, hb1, hb2⟩ := sPart_ok hvy hb w
        rw [SB.op_v]
        exact eqI_cons ha1 hb1 (eqS_ok d D _ _ _ _ _ _ w (by omega) hp ha2 hb2) (ih _ hq)
/-- What compares with nil. -/
def nilEq : SV → SV → Option Bool
  | .ptr _ _, .nilp => some false
  | .nilp, .ptr _ _ => some false
  | .nilp, .nilp => some true
  | .sl _ _ _ _, .nils => some false
  | .nils, .sl _ _ _ _ => some false
  | .nils, .nils => some true
  | .map _, .nilm => some false
  | .nilm, .map _ => some false
  | .nilm, .nilm => some true
  | .fn _ _ _, .nilf => some false
  | .nilf, .fn _ _ _ => some false
  | .nilf, .nilf => some true
  | .iface _ _, .nili => some false
  | .nili, .iface _ _ => some false
  | .nili, .nili => some true
  | _, _ => none
/-- Whether the type's '==' is what 'nilEq' says. -/
def nilKind : TypeDesc → SV → SV → Bool
  | .pointer _, .ptr _ _, _ => true
  | .pointer _, .nilp, _ => true
  | .slice _, .sl _ _ _ _, _ => true
  | .slice _, .nils, _ => true
  | .map _ _, .map _, _ => true
  | .map _ _, .nilm, _ => true
  | .func _ _ _, .fn _ _ _, _ => true
  | .func _ _ _, .nilf, _ => true
  | .interface _, .iface _ _, _ => true
  | .interface ms, .nili, .nili => ms.isEmpty
  | .interface _, .nili, _ => true
  | _, _, _ => false
theorem nilEq_ok [Val] {t : TypeId} {ti : TyI} {x y : SV} {xv yv : Value} {b : Bool} {D : Nat} (hti : tyOf P t = some ti) (hk : nilKind ti.desc x y = true) (h : nilEq x y = some b) (hx : x.Den ρ xv) (hy : y.Den ρ yv) (w : World) :
    (Op.equalIn (D + 1) t xv yv).run P w = .ok b w ∧ ∀ (op : BinOp) (xo yo : Operand), (eqGuard op t xo yo xv yv).run P w = .ok () w := by
  obtain ⟨i, hi, hu, _, _, _⟩ := tyOf_spec hti
  generalize ti.desc = dd at *
  unfold nilEq at h
  split at h <;> first
    | (cases h; done)
    | (injection h with h; subst h
       cases dd <;> simp [nilKind] at hk
       all_goals
         simp only [SV.Den, SFn.Den] at hx hy
         (try obtain ⟨b1, m1, _, _, rfl⟩ := hx)
         (try obtain ⟨b1, m1, n1, c1, _, _, _, _, _, rfl⟩ := hx)
         (try obtain ⟨b1, _, rfl⟩ := hx)
         (try obtain ⟨g1, a1, c1, _, _, _, rfl⟩ := hx)
         (try obtain ⟨y1, _, rfl⟩ := hx)
         (try obtain ⟨b2, m2, _, _, rfl⟩ := hy)
         (try obtain ⟨b2, m2, n2, c2, _, _, _, _, _, rfl⟩ := hy)
         (try obtain ⟨b2, _, rfl⟩ := hy)
         (try obtain ⟨g2, a2, c2, _, _, _, rfl⟩ := hy)
         (try obtain ⟨y2, _, rfl⟩ := hy)
         (try subst hx)
         (try subst hy)
         first
           | (refine ⟨by simp [Op.equalIn, run_underlying hu], fun op xo yo => ?_⟩
              cases op <;> simp [eqGuard]
              done)
           | (refine ⟨by simp [Op.equalIn, run_underlying hu], fun op xo yo => ?_⟩
              have e : ∀ D, (Op.eqGuardIn (D + 1) t .nilIface .nilIface).run P w = .ok false w := fun D => by
                simp [Op.eqGuardIn, run_underlying hu, hk]
              have e : (Op.eqGuardIn Op.maxDepth t .nilIface .nilIface).run P w = .ok false w := e 9999
              have e2 : ∀ u : Sem Unit, (do if ← Op.eqGuardIn Op.maxDepth t .nilIface .nilIface then u else pure () : Sem Unit).run P w = .ok () w := fun u => by
                rw [Sem.run_bind, e]; rfl
              unfold eqGuard
              cases op <;> first
                | rfl
                | (simp only [Bool.not_true, Bool.false_eq_true, if_false]
                   cases xo <;> cases yo <;> first | rfl | exact e2 _)))
end
end Go.Sx
