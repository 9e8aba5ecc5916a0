/- Parts of the proof: Sx26, Sx27, Sx28. -/
import Derived.Test.YtkfocpgcdndpnaaGreatZ8
import Derived.Test.YtkfocpgcdndpnaaGreatZ10
/- A state that another one is an instance of: letters stand for terms, names for names. -/
namespace Go.Sx
set_option linter.unusedSimpArgs false
set_option linter.unusedVariables false
open Go Go.RowKit Go.Cd Go.Proofs.YtkfocpgcdndpnaaGreat Go.MapKept

def lookT : List (Nat × Tm) → Nat → Option Tm
  | [], _ => none
  | (j, u) :: l, i => match Nat.beq j i with
    | true => some u
    | false => lookT l i
def lookBm : List (Nat × Bm) → Nat → Option Bm
  | [], _ => none
  | (j, u) :: l, i => match Nat.beq j i with
    | true => some u
    | false => lookBm l i
def lookN : List (Nat × Nat) → Nat → Option Nat
  | [], _ => none
  | (j, u) :: l, i => match Nat.beq j i with
    | true => some u
    | false => lookN l i
/-- What letters stand for. -/
structure Su where
  t : List (Nat × Tm)
  b : List (Nat × Bm)
/-- The letters stand for what the terms were. -/
@[reducible] def Val.put (V : Val) (σ : Su) : Val :=
  ⟨fun i => match lookT σ.t i with
    | some u => @Tm.v V u
    | none => V.ints i, fun i => match lookBm σ.b i with
    | some u => @Bm.v V u
    | none => V.bools i, V.fi, V.fb, V.abs, V.weak⟩
theorem put_int_some {V : Val} {σ : Su} {i : Nat} {u : Tm} (h : lookT σ.t i = some u) : @Val.ints (V.put σ) i = @Tm.v V u := by
  show (match lookT σ.t i with
    | some u => @Tm.v V u
    | none => V.ints i) = _
  rw [h]
theorem put_int_none {V : Val} {σ : Su} {i : Nat} (h : lookT σ.t i = none) : @Val.ints (V.put σ) i = V.ints i := by
  show (match lookT σ.t i with
    | some u => @Tm.v V u
    | none => V.ints i) = _
  rw [h]
theorem put_bool_some {V : Val} {σ : Su} {i : Nat} {u : Bm} (h : lookBm σ.b i = some u) : @Val.bools (V.put σ) i = @Bm.v V u := by
  show (match lookBm σ.b i with
    | some u => @Bm.v V u
    | none => V.bools i) = _
  rw [h]
theorem put_bool_none {V : Val} {σ : Su} {i : Nat} (h : lookBm σ.b i = none) : @Val.bools (V.put σ) i = V.bools i := by
  show (match lookBm σ.b i with
    | some u => @Bm.v V u
    | none => V.bools i) = _
  rw [h]
mutual
def Tm.mt (σ : Su) : Tm → Tm → Bool
  | .var k i, t => match lookT σ.t i with
    | some u => match Tm.same u t with
      | true => t.within k.min k.max
      | false => false
    | none => Tm.same (.var k i) t
  | .lit n, .lit m => decide (n = m)
  | .op o a b, .op p c d => match decide (o = p) with
    | true => match Tm.mt σ a c with
      | true => Tm.mt σ b d
      | false => false
    | false => false
  | .un o a, .un p c => match decide (o = p) with
    | true => Tm.mt σ a c
    | false => false
  | .ite c a b, .ite d e f => match Bm.mt σ c d with
    | true => match Tm.mt σ a e with
      | true => Tm.mt σ b f
      | false => false
    | false => false
  | .sel l i, .sel m j => match Tms.mt σ l m with
    | true => Tm.mt σ i j
    | false => false
  | .fn k f l, .fn j g m => match decide (k = j) with
    | true => match Nat.beq f g with
      | true => Tms.mt σ l m
      | false => false
    | false => false
  | _, _ => false
def Tms.mt (σ : Su) : Tms → Tms → Bool
  | .nil, .nil => true
  | .cons a l, .cons b m => match Tm.mt σ a b with
    | true => Tms.mt σ l m
    | false => false
  | _, _ => false
def Bm.mt (σ : Su) : Bm → Bm → Bool
  | .var i, b => match lookBm σ.b i with
    | some u => Bm.same u b
    | none => Bm.same (.var i) b
  | .lit i, .lit j => decide (i = j)
  | .cmp o a b, .cmp p c d => match decide (o = p) with
    | true => match Tm.mt σ a c with
      | true => Tm.mt σ b d
      | false => false
    | false => false
  | .lop o a b, .lop p c d => match decide (o = p) with
    | true => match Bm.mt σ a c with
      | true => Bm.mt σ b d
      | false => false
    | false => false
  | .not a, .not b => Bm.mt σ a b
  | .ite c a b, .ite d e f => match Bm.mt σ c d with
    | true => match Bm.mt σ a e with
      | true => Bm.mt σ b f
      | false => false
    | false => false
  | .fn f l, .fn g m => match Nat.beq f g with
    | true => Tms.mt σ l m
    | false => false
  | _, _ => false
end
mutual
theorem Tm.mt_ok {V : Val} {σ : Su} : ∀ {a b : Tm}, Tm.mt σ a b = true → @Tm.v (V.put σ) a = @Tm.v V b
  | .var k i, b, h => by
    unfold Tm.mt at h
    split at h
    · rename_i u hu
      split at h
      · rename_i hs
        have e := Tm.same_eq hs; subst e
        obtain ⟨h1, h2⟩ := @Tm.within_ok V _ _ _ h
        simp only [Tm.v, put_int_some hu]
        exact wrap_same k h1 h2
      · cases h
    · rename_i hu
      have e := Tm.same_eq h; subst e
      simp only [Tm.v, put_int_none hu]
  | .lit i, b, h => by
    cases b <;> simp only [Tm.mt, Bool.false_eq_true] at h
    rw [of_decide_eq_true h]; rfl
  | .op o a b, x, h => by
    cases x <;> simp only [Tm.mt, Bool.false_eq_true] at h
    split at h
    · rename_i h1
      split at h
      · rename_i h2
        simp only [Tm.v]
        rw [of_decide_eq_true h1, Tm.mt_ok h2, Tm.mt_ok h]
      · cases h
    · cases h
  | .un o a, x, h => by
    cases x <;> simp only [Tm.mt, Bool.false_eq_true] at h
    split at h
    · rename_i h1
      simp only [Tm.v]
      rw [of_decide_eq_true h1, Tm.mt_ok h]
    · cases h
  | .ite c a b, x, h => by
    cases x <;> simp only [Tm.mt, Bool.false_eq_true] at h
    split at h
    · rename_i h1
      split at h
      · rename_i h2
        simp only [Tm.v]
        rw [Bm.mt_ok h1, Tm.mt_ok h2, Tm.mt_ok h]
      · cases h
    · cases h
  | .sel l i, x, h => by
    cases x <;> simp only [Tm.mt, Bool.false_eq_true] at h
    split at h
    · rename_i h1
      simp only [Tm.v]
      rw [Tms.mt_ok h1, Tm.mt_ok h]
    · cases h
  | .fn k f l, x, h => by
    cases x <;> simp only [Tm.mt, Bool.false_eq_true] at h
    split at h
    · rename_i h1
      split at h
      · rename_i h2
        simp only [Tm.v]
        rw [of_decide_eq_true h1, Nat.eq_of_beq_eq_true h2, Tms.mt_ok h]
        try rfl
      · cases h
    · cases h
theorem Tms.mt_ok {V : Val} {σ : Su} : ∀ {a b : Tms}, Tms.mt σ a b = true → @Tms.v (V.put σ) a = @Tms.v V b
  | .nil, b, h => by
    cases b <;> simp only [Tms.mt, Bool.false_eq_true] at h
    rfl
  | .cons a l, x, h => by
    cases x <;> simp only [Tms.mt, Bool.false_eq_true] at h
    split at h
    · rename_i h1
      simp only [Tms.v]
      rw [Tm.mt_ok h1, Tms.mt_ok h]
    · cases h
theorem Bm.mt_ok {V : Val} {σ : Su} : ∀ {a b : Bm}, Bm.mt σ a b = true → @Bm.v (V.put σ) a = @Bm.v V b
  | .var i, b, h => by
    unfold Bm.mt at h
    split at h
    · rename_i u hu
      have e := Bm.same_eq h; subst e
      simp only [Bm.v, put_bool_some hu]
    · rename_i hu
      have e := Bm.same_eq h; subst e
      simp only [Bm.v, put_bool_none hu]
  | .lit i, b, h => by
    cases b <;> simp only [Bm.mt, Bool.false_eq_true] at h
    rw [of_decide_eq_true h]; rfl
  | .cmp o a b, x, h => by
    cases x <;> simp only [Bm.mt, Bool.false_eq_true] at h
    split at h
    · rename_i h1
      split at h
      · rename_i h2
        simp only [Bm.v]
        rw [of_decide_eq_true h1, Tm.mt_ok h2, Tm.mt_ok h]
      · cases h
    · cases h
  | .lop o a b, x, h => by
    cases x <;> simp only [Bm.mt, Bool.false_eq_true] at h
    split at h
    · rename_i h1
      split at h
      · rename_i h2
        simp only [Bm.v]
        rw [of_decide_eq_true h1, Bm.mt_ok h2, Bm.mt_ok h]
      · cases h
    · cases h
  | .not a, x, h => by
    cases x <;> simp only [Bm.mt, Bool.false_eq_true] at h
    simp only [Bm.v]
    rw [Bm.mt_ok h]
  | .ite c a b, x, h => by
    cases x <;> simp only [Bm.mt, Bool.false_eq_true] at h
    split at h
    · rename_i h1
      split at h
      · rename_i h2
        simp only [Bm.v]
        rw [Bm.mt_ok h1, Bm.mt_ok h2, Bm.mt_ok h]
      · cases h
    · cases h
  | .fn f l, x, h => by
    cases x <;> simp only [Bm.mt, Bool.false_eq_true] at h
    split at h
    · rename_i h1
      simp only [Bm.v]
      rw [Nat.eq_of_beq_eq_true h1, Tms.mt_ok h]
      try rfl
    · cases h
end

/-! Names: those below npin are as they are. -/
structure Nm where
  npin : Nat
  τ : List (Nat × Nat)
def Nm.f (m : Nm) (h : Nat) : Option Nat := match Nat.blt h m.npin with
  | true => some h
  | false => match lookN m.τ h with
    | some j => match Nat.blt j m.npin with
      | true => none
      | false => some j
    | none => none
def Nm.is (m : Nm) (h j : Nat) : Bool := match m.f h with
  | some x => Nat.beq x j
  | none => false
theorem Nm.is_ok {m : Nm} {h j : Nat} (e : m.is h j = true) : m.f h = some j := by
  unfold Nm.is at e
  split at e
  · rename_i x hx; rw [hx, Nat.eq_of_beq_eq_true e]
  · cases e
/-- The names of the pattern, as they stand there. -/
def Nm.env (m : Nm) (ρ : Env) : Env := fun h => (m.f h).bind ρ
theorem Nm.env_of {m : Nm} {ρ : Env} {h j b : Nat} (e : m.is h j = true) (hb : ρ j = some b) : m.env ρ h = some b := by
  unfold Nm.env; rw [Nm.is_ok e]; exact hb
section
variable {V : Val} {σ : Su} {m : Nm} {ρ : Env}
def SI.mt (σ : Su) (a b : SI) : Bool := Tm.mt σ a.tm b.tm
theorem SI.mt_ok {a b : SI} (h : SI.mt σ a b = true) : @SI.v (V.put σ) a = @SI.v V b := by
  have := Tm.mt_ok (V := V) h
  rwa [@SI.tm_v (V.put σ), @SI.tm_v V] at this
def SB.mt (σ : Su) (a b : SB) : Bool := Bm.mt σ a.bm b.bm
theorem SB.mt_ok {a b : SB} (h : SB.mt σ a b = true) : @SB.v (V.put σ) a = @SB.v V b := by
  have := Bm.mt_ok (V := V) h
  rwa [@SB.bm_v (V.put σ), @SB.bm_v V] at this
def SN.mt (σ : Su) (m : Nm) : SN → SN → Bool
  | .lit a, .lit b => Nat.beq a b
  | .sym a, .sym b => Tm.mt σ a b
  | .sym a, .lit n => Tm.mt σ a (.lit n)
  | .env i, .env j => m.is i j
  | .sub i k, .sub j l => match Nat.beq k l with
    | true => m.is i j
    | false => false
  | _, _ => false
theorem SN.mt_ok {a b : SN} {n : Nat} (h : SN.mt σ m a b = true) (hd : @SN.Den V ρ b n) : @SN.Den (V.put σ) (m.env ρ) a n := by
  unfold SN.mt at h
  split at h
  · have e := Nat.eq_of_beq_eq_true h; subst e; exact hd
  · show @Tm.v (V.put σ) _ = _
    rw [Tm.mt_ok h]; exact hd
  · show @Tm.v (V.put σ) _ = _
    rw [Tm.mt_ok h]
    have : n = _ := hd
    subst this; rfl
  · exact Nm.env_of h hd
  · split at h
    · rename_i hk
      have e := Nat.eq_of_beq_eq_true hk; subst e
      obtain ⟨x, h1, h2⟩ := hd
      exact ⟨x, Nm.env_of h h1, h2⟩
    · cases h
  · cases h
def SOff.mt (σ : Su) : SOff → SOff → Bool
  | .any, _ => true
  | .lit a, .lit b => Nat.beq a b
  | .idx b s l i, .idx c t k j => match Nat.beq b c, Nat.beq s t, Nat.beq l k with
    | true, true, true => Tm.mt σ i j
    | _, _, _ => false
  | _, _ => false
theorem SOff.mt_ok {a b : SOff} {n : Nat} (h : SOff.mt σ a b = true) (hd : @SOff.Den V b n) : @SOff.Den (V.put σ) a n := by
  unfold SOff.mt at h
  split at h
  · trivial
  · have e := Nat.eq_of_beq_eq_true h; subst e; exact hd
  · split at h
    · rename_i h1 h2 h3
      have e := Nat.eq_of_beq_eq_true h1; subst e
      have e := Nat.eq_of_beq_eq_true h2; subst e
      have e := Nat.eq_of_beq_eq_true h3; subst e
      simp only [SOff.Den] at hd ⊢
      rw [Tm.mt_ok (V := V) h]; exact hd
    · cases h
  · cases h
def SFn.mt (m : Nm) : SFn → SFn → Bool
  | .func f, .func g => Nat.beq f g
  | .yield h, .yield j => m.is h j
  | _, _ => false
theorem SFn.mt_ok {a b : SFn} {g : Fn} (h : SFn.mt m a b = true) (hd : SFn.Den ρ b g) : SFn.Den (m.env ρ) a g := by
  unfold SFn.mt at h
  split at h
  · have e := Nat.eq_of_beq_eq_true h; subst e; exact hd
  · obtain ⟨b, h1, h2⟩ := hd
    exact ⟨b, Nm.env_of h h1, h2⟩
  · cases h
mutual
def SV.mt (σ : Su) (m : Nm) : SV → SV → Bool
  | .any, _ => true
  | .bool a, .bool b => SB.mt σ a b
  | .int k a, .int j b => match decide (k = j) with
    | true => SI.mt σ a b
    | false => false
  | .str s, .str t => decide (s = t)
  | .nilp, .nilp => true
  | .ptr h o, .ptr j p => match m.is h j with
    | true => SOff.mt σ o p
    | false => false
  | .nils, .nils => true
  | .sl h o l c, .sl j p k d => match m.is h j, SOff.mt σ o p, SN.mt σ m l k with
    | true, true, true => SN.mt σ m c d
    | _, _, _ => false
  | .nilm, .nilm => true
  | .map h, .map j => m.is h j
  | .nilf, .nilf => true
  | .fn f xs ys, .fn g us vs => match SFn.mt m f g, SV.mtL σ m xs us with
    | true, true => SV.mtL σ m ys vs
    | _, _ => false
  | .nili, .nili => true
  | .nat i, .nat j => m.is i j
  | .iface t x, .iface u y => match Nat.beq t u with
    | true => SV.mt σ m x y
    | false => false
  | .agg l, .agg k => SV.mtL σ m l k
  | .tup l, .tup k => SV.mtL σ m l k
  | _, _ => false
def SV.mtL (σ : Su) (m : Nm) : List SV → List SV → Bool
  | [], [] => true
  | x :: l, y :: k => match SV.mt σ m x y with
    | true => SV.mtL σ m l k
    | false => false
  | _, _ => false
end
mutual
theorem SV.mt_ok : ∀ {a b : SV} {v : Value}, SV.mt σ m a b = true → @SV.Den V ρ b v → @SV.Den (V.put σ) (m.env ρ) a v
  | .any, b, v, h, hd => by simp [SV.Den]
  | .bool a, b, v, h, hd => by
    cases b <;> simp only [SV.mt, Bool.false_eq_true] at h
    simp only [SV.Den] at hd ⊢
    rw [SB.mt_ok (V := V) h]; exact hd
  | .int k a, b, v, h, hd => by
    cases b <;> simp only [SV.mt, Bool.false_eq_true] at h
    split at h
    · rename_i hk
      have e := of_decide_eq_true hk; subst e
      simp only [SV.Den] at hd ⊢
      rw [SI.mt_ok (V := V) h]; exact hd
    · cases h
  | .str s, b, v, h, hd => by
    cases b <;> simp only [SV.mt, Bool.false_eq_true] at h
    have e := of_decide_eq_true h; subst e
    simpa only [SV.Den] using hd
  | .nilp, b, v, h, hd => by cases b <;> simp only [SV.mt, Bool.false_eq_true] at h; simpa only [SV.Den] using hd
  | .ptr i o, b, v, h, hd => by
    cases b <;> simp only [SV.mt, Bool.false_eq_true] at h
    split at h
    · rename_i h1
      simp only [SV.Den] at hd ⊢
      obtain ⟨b, n, e1, e2, e3⟩ := hd
      exact ⟨b, n, Nm.env_of h1 e1, SOff.mt_ok h e2, e3⟩
    · cases h
  | .nils, b, v, h, hd => by cases b <;> simp only [SV.mt, Bool.false_eq_true] at h; simpa only [SV.Den] using hd
  | .sl i o l c, b, v, h, hd => by
    cases b <;> simp only [SV.mt, Bool.false_eq_true] at h
    split at h
    · rename_i h1 h2 h3
      simp only [SV.Den] at hd ⊢
      obtain ⟨b, m', n, k, e1, e2, e3, e4, e5, e6⟩ := hd
      exact ⟨b, m', n, k, Nm.env_of h1 e1, SOff.mt_ok h2 e2, SN.mt_ok h3 e3, SN.mt_ok h e4, e5, e6⟩
    · cases h
  | .nilm, b, v, h, hd => by cases b <;> simp only [SV.mt, Bool.false_eq_true] at h; simpa only [SV.Den] using hd
  | .map i, b, v, h, hd => by
    cases b <;> simp only [SV.mt, Bool.false_eq_true] at h
    simp only [SV.Den] at hd ⊢
    obtain ⟨b, e1, e2⟩ := hd
    exact ⟨b, Nm.env_of h e1, e2⟩
  | .nilf, b, v, h, hd => by cases b <;> simp only [SV.mt, Bool.false_eq_true] at h; simpa only [SV.Den] using hd
  | .fn f xs ys, b, v, h, hd => by
    cases b <;> simp only [SV.mt, Bool.false_eq_true] at h
    split at h
    · rename_i h1 h2
      simp only [SV.Den] at hd ⊢
      obtain ⟨g, a, b, e1, e2, e3, e4⟩ := hd
      exact ⟨g, a, b, SFn.mt_ok h1 e1, SV.mtL_ok h2 e2, SV.mtL_ok h e3, e4⟩
    · cases h
  | .nat i, b, v, h, hd => by
    cases b <;> simp only [SV.mt, Bool.false_eq_true] at h
    simp only [SV.Den] at hd ⊢
    obtain ⟨x, e1, e2⟩ := hd
    exact ⟨x, Nm.env_of h e1, e2⟩
  | .nili, b, v, h, hd => by cases b <;> simp only [SV.mt, Bool.false_eq_true] at h; simpa only [SV.Den] using hd
  | .iface t x, b, v, h, hd => by
    cases b <;> simp only [SV.mt, Bool.false_eq_true] at h
    split at h
    · rename_i h1
      have e := Nat.eq_of_beq_eq_true h1; subst e
      simp only [SV.Den] at hd ⊢
      obtain ⟨y, e1, e2⟩ := hd
      exact ⟨y, SV.mt_ok h e1, e2⟩
    · cases h
  | .agg l, b, v, h, hd => by
    cases b <;> simp only [SV.mt, Bool.false_eq_true] at h
    simp only [SV.Den] at hd ⊢
    obtain ⟨vs, e1, e2⟩ := hd
    exact ⟨vs, SV.mtL_ok h e1, e2⟩
  | .tup l, b, v, h, hd => by
    cases b <;> simp only [SV.mt, Bool.false_eq_true] at h
    simp only [SV.Den] at hd ⊢
    obtain ⟨vs, e1, e2⟩ := hd
    exact ⟨vs, SV.mtL_ok h e1, e2⟩
theorem SV.mtL_ok : ∀ {a b : List SV} {vs : List Value}, SV.mtL σ m a b = true → @SV.DenL V ρ b vs → @SV.DenL (V.put σ) (m.env ρ) a vs
  | [], b, vs, h, hd => by
    cases b <;> simp only [SV.mtL, Bool.false_eq_true] at h
    simpa only [SV.DenL] using hd
  | x :: l, b, vs, h, hd => by
    cases b <;> simp only [SV.mtL, Bool.false_eq_true] at h
    split at h
    · rename_i h1
      simp only [SV.DenL] at hd ⊢
      obtain ⟨v, vs', e1, e2, e3⟩ := hd
      exact ⟨v, vs', e1, SV.mt_ok h1 e2, SV.mtL_ok h e3⟩
    · cases h
end
end
end Go.Sx
/- A state that another one is an instance of: objects, frames, the whole state. -/
namespace Go.Sx
set_option linter.unusedSimpArgs false
set_option linter.unusedVariables false
open Go Go.RowKit Go.Cd Go.Proofs.YtkfocpgcdndpnaaGreat Go.MapKept

/-- Codes that have to be the same. -/
abbrev Ob := Code × Code
def ObsOk (l : List Ob) : Prop := ∀ p ∈ l, p.1 = p.2
theorem obs_app {l k : List Ob} (h : ObsOk (l ++ k)) : ObsOk l ∧ ObsOk k := ⟨fun p hp => h p (List.mem_append_left _ hp), fun p hp => h p (List.mem_append_right _ hp)⟩
def natsEq : List Nat → List Nat → Bool
  | [], [] => true
  | x :: l, y :: k => match Nat.beq x y with
    | true => natsEq l k
    | false => false
  | _, _ => false
theorem natsEq_ok : ∀ {l k : List Nat}, natsEq l k = true → l = k
  | [], k, h => by cases k <;> simp only [natsEq, Bool.false_eq_true] at h; rfl
  | x :: l, k, h => by
    cases k <;> simp only [natsEq, Bool.false_eq_true] at h
    split at h
    · rename_i h1
      rw [Nat.eq_of_beq_eq_true h1, natsEq_ok h]
    · cases h
def Nm.isL (m : Nm) : List Nat → List Nat → Bool
  | [], [] => true
  | x :: l, y :: k => match m.is x y with
    | true => m.isL l k
    | false => false
  | _, _ => false
theorem Nm.isL_ok {m : Nm} {ρ : Env} : ∀ {l k rs : List Nat}, m.isL l k = true → DenRs ρ k rs → DenRs (m.env ρ) l rs
  | [], k, rs, h, hd => by cases k <;> simp only [Nm.isL, Bool.false_eq_true] at h; exact hd
  | x :: l, k, rs, h, hd => by
    cases k <;> simp only [Nm.isL, Bool.false_eq_true] at h
    split at h
    · rename_i h1
      obtain ⟨b, rs', e1, e2, e3⟩ := hd
      exact ⟨b, rs', e1, Nm.env_of h1 e2, Nm.isL_ok h e3⟩
    · cases h
/-- The first words of a list. -/
def Tms.mtp (σ : Su) : Tms → Tms → Bool
  | .nil, _ => true
  | .cons a l, .cons b k => match Tm.mt σ a b with
    | true => Tms.mtp σ l k
    | false => false
  | _, _ => false
theorem Tms.mtp_ok {V : Val} {σ : Su} : ∀ {a b : Tms}, Tms.mtp σ a b = true → ∃ r, @Tms.v V b = @Tms.v (V.put σ) a ++ r
  | .nil, b, _ => ⟨@Tms.v V b, by simp [Tms.v]⟩
  | .cons a l, b, h => by
    cases b <;> simp only [Tms.mtp, Bool.false_eq_true] at h
    split at h
    · rename_i h1
      obtain ⟨r, hr⟩ := Tms.mtp_ok (V := V) h
      exact ⟨r, by simp only [Tms.v]; rw [hr, Tm.mt_ok (V := V) h1]; rfl⟩
    · cases h
def Nm.isP (m : Nm) : List Nat → List Nat → Bool
  | [], _ => true
  | x :: l, y :: k => match m.is x y with
    | true => m.isP l k
    | false => false
  | _, _ => false
theorem Nm.isP_ok {m : Nm} {ρ : Env} : ∀ {l k rs : List Nat}, m.isP l k = true → DenRs ρ k rs → ∃ r s, rs = r ++ s ∧ DenRs (m.env ρ) l r
  | [], k, rs, _, _ => ⟨[], rs, rfl, rfl⟩
  | x :: l, k, rs, h, hd => by
    cases k <;> simp only [Nm.isP, Bool.false_eq_true] at h
    split at h
    · rename_i h1
      obtain ⟨b, rs', rfl, e2, e3⟩ := hd
      obtain ⟨r, s, rfl, e4⟩ := Nm.isP_ok h e3
      exact ⟨b :: r, s, rfl, b, r, rfl, Nm.env_of h1 e2, e4⟩
    · cases h
section
variable {V : Val} {σ : Su} {m : Nm} {ρ : Env}
def SDef.mt (σ : Su) (m : Nm) : SDef → SDef → Bool
  | .call f c a, .call g d b => match Nat.beq f g, SV.mtL σ m c d with
    | true, true => SV.mtL σ m a b
    | _, _ => false
  | .collected h, .collected j => m.is h j
  | _, _ => false
theorem SDef.mt_ok {a b : SDef} {d : Deferred} (h : SDef.mt σ m a b = true) (hd : @SDef.Den V ρ b d) : @SDef.Den (V.put σ) (m.env ρ) a d := by
  unfold SDef.mt at h
  split at h
  · split at h
    · rename_i h1 h2
      have e := Nat.eq_of_beq_eq_true h1; subst e
      obtain ⟨c, a, e1, e2, e3⟩ := hd
      exact ⟨c, a, SV.mtL_ok h2 e1, SV.mtL_ok h e2, e3⟩
    · cases h
  · obtain ⟨b, e1, e2⟩ := hd
    exact ⟨b, Nm.env_of h e1, e2⟩
  · cases h
def defsMt (σ : Su) (m : Nm) : List SDef → List SDef → Bool
  | [], [] => true
  | x :: l, y :: k => match SDef.mt σ m x y with
    | true => defsMt σ m l k
    | false => false
  | _, _ => false
theorem defsMt_ok : ∀ {a b : List SDef} {ds : List Deferred}, defsMt σ m a b = true → @DenDs V ρ b ds → @DenDs (V.put σ) (m.env ρ) a ds
  | [], b, ds, h, hd => by cases b <;> simp only [defsMt, Bool.false_eq_true] at h; exact hd
  | x :: l, b, ds, h, hd => by
    cases b <;> simp only [defsMt, Bool.false_eq_true] at h
    split at h
    · rename_i h1
      obtain ⟨d, ds', e1, e2, e3⟩ := hd
      exact ⟨d, ds', e1, SDef.mt_ok h1 e2, defsMt_ok h e3⟩
    · cases h
def esMt (σ : Su) (m : Nm) : List (SV × SV × Nat) → List (SV × SV × Nat) → Bool
  | [], [] => true
  | (k, v, n) :: l, (k', v', n') :: r => match SV.mt σ m k k', SV.mt σ m v v', Nat.beq n n' with
    | true, true, true => esMt σ m l r
    | _, _, _ => false
  | _, _ => false
theorem esMt_ok : ∀ {a b : List (SV × SV × Nat)} {es : List MapEntry}, esMt σ m a b = true → @DenEs V ρ b es → @DenEs (V.put σ) (m.env ρ) a es
  | [], b, es, h, hd => by cases b <;> simp only [esMt, Bool.false_eq_true] at h; exact hd
  | (k, v, n) :: l, b, es, h, hd => by
    cases b with
    | nil => simp only [esMt, Bool.false_eq_true] at h
    | cons y r =>
      obtain ⟨k', v', n'⟩ := y
      simp only [esMt] at h
      split at h
      · rename_i h1 h2 h3
        have e := Nat.eq_of_beq_eq_true h3; subst e
        obtain ⟨x, y, es', e1, e2, e3, e4⟩ := hd
        exact ⟨x, y, es', e1, SV.mt_ok h1 e2, SV.mt_ok h2 e3, esMt_ok h e4⟩
      · cases h
def stEq : LoopState → LoopState → Bool
  | .ready, .ready => true
  | .busy, .busy => true
  | .done, .done => true
  | .exhausted, .exhausted => true
  | _, _ => false
theorem stEq_ok {a b : LoopState} (h : stEq a b = true) : a = b := by
  cases a <;> cases b <;> first | rfl | cases h
def penMt : Option Code → Option Code → Option (List Ob)
  | none, none => some []
  | some c, some d => some [(c, d)]
  | _, _ => none
theorem penMt_ok {a b : Option Code} {l : List Ob} (h : penMt a b = some l) (ho : ObsOk l) : a = b := by
  unfold penMt at h
  split at h <;> cases h
  · rfl
  · rename_i c d
    have e : c = d := ho (c, d) (List.mem_singleton.2 rfl)
    rw [e]
def SLoop.mt (σ : Su) (m : Nm) (a b : SLoop) : Option (List Ob) :=
  match stEq a.state b.state, Nat.beq a.fn b.fn, SV.mtL σ m a.tmps b.tmps, natsEq a.params b.params, m.is a.defers b.defers, penMt a.pending b.pending with
  | true, true, true, true, true, some l => some ((a.assign, b.assign) :: (a.body, b.body) :: l)
  | _, _, _, _, _, _ => none
theorem SLoop.mt_ok {a b : SLoop} {L : Loop} {l : List Ob} (h : SLoop.mt σ m a b = some l) (ho : ObsOk l) (hd : @SLoop.Den V ρ b L) : @SLoop.Den (V.put σ) (m.env ρ) a L := by
  unfold SLoop.mt at h
  split at h <;> cases h
  rename_i l' h1 h2 h3 h4 h5 h6
  have ho1 : a.assign = b.assign := ho _ (List.mem_cons_self ..)
  have ho2 : a.body = b.body := ho _ (List.mem_cons_of_mem _ (List.mem_cons_self ..))
  have ho3 : ObsOk l' := fun p hp => ho p (List.mem_cons_of_mem _ (List.mem_cons_of_mem _ hp))
  exact @SLoop.Den.mk (V.put σ) (m.env ρ) a L (hd.state.trans (stEq_ok h1).symm) (hd.pending.trans (penMt_ok h6 ho3).symm) (hd.fn.trans (Nat.eq_of_beq_eq_true h2).symm) (SV.mtL_ok h3 hd.tmps) (hd.params.trans (natsEq_ok h4).symm) (hd.assign.trans ho1.symm) (hd.body.trans ho2.symm) (Nm.env_of h5 hd.defers)
def SObj.mt (σ : Su) (m : Nm) : SObj → SObj → Option (List Ob)
  | .cells l T, .cells k U => match Nat.beq T U, SV.mtL σ m l k with
    | true, true => some []
    | _, _ => none
  | .row l c e T, .row k d f U => match Nat.beq T U, Nat.beq e f, m.is c d, SV.mtL σ m l k with
    | true, true, true, true => some []
    | _, _, _, _ => none
  | .smap es n, .smap fs k => match Nat.beq n k, esMt σ m es fs with
    | true, true => some []
    | _, _ => none
  | .siter s p, .siter t q => match decide (s = t), Nat.beq p q with
    | true, true => some []
    | _, _ => none
  | .loop l, .loop k => SLoop.mt σ m l k
  | .defs none, .defs none => some []
  | .defs (some l), .defs (some k) => match defsMt σ m l k with
    | true => some []
    | false => none
  | .abs t a r, .abs u b s => match Nat.beq t u, Tms.mtp σ a b, m.isP r s with
    | true, true, true => some []
    | _, _, _ => none
  | _, _ => none
theorem SObj.mt_ok {a b : SObj} {l : List Ob} {x : Nat} {F : Nat → Prop} {w : World} (h : SObj.mt σ m a b = some l) (ho : ObsOk l) (hd : @OD V ρ b x F w) : @OD (V.put σ) (m.env ρ) a x F w := by
  unfold SObj.mt at h
  split at h
  · split at h <;> cases h
    rename_i h1 h2
    have e := Nat.eq_of_beq_eq_true h1; subst e
    obtain ⟨g1, obj, g2, vs, g3, g4⟩ := hd
    exact ⟨g1, obj, g2, vs, SV.mtL_ok h2 g3, g4⟩
  · split at h <;> cases h
    rename_i h1 h2 h3 h4
    have e := Nat.eq_of_beq_eq_true h1; subst e
    have e := Nat.eq_of_beq_eq_true h2; subst e
    obtain ⟨g1, obj, g2, vs, ex, κ, g3, g4, g5, g6⟩ := hd
    exact ⟨g1, obj, g2, vs, ex, κ, SV.mtL_ok h4 g3, Nm.env_of h3 g4, g5, g6⟩
  · split at h <;> cases h
    rename_i h1 h2
    have e := Nat.eq_of_beq_eq_true h1; subst e
    obtain ⟨g1, obj, g2, xs, g3, g4⟩ := hd
    exact ⟨g1, obj, g2, xs, esMt_ok h2 g3, g4⟩
  · split at h <;> cases h
    rename_i h1 h2
    have e := of_decide_eq_true h1; subst e
    have e := Nat.eq_of_beq_eq_true h2; subst e
    exact hd
  · obtain ⟨g1, obj, g2, L, g3, g4⟩ := hd
    exact ⟨g1, obj, g2, L, SLoop.mt_ok h ho g3, g4⟩
  · exact hd
  · split at h <;> cases h
    rename_i h1
    obtain ⟨g1, obj, g2, xs, g3, g4⟩ := hd
    exact ⟨g1, obj, g2, xs, defsMt_ok h1 g3, g4⟩
  · split at h <;> cases h
    rename_i h1 h2 h3
    have e := Nat.eq_of_beq_eq_true h1; subst e
    obtain ⟨rs, g1, g2⟩ := hd
    obtain ⟨r, s, rfl, g3⟩ := Nm.isP_ok h3 g1
    obtain ⟨q, hq⟩ := Tms.mtp_ok (V := V) h2
    rw [hq] at g2
    exact ⟨r, g3, V.weak _ _ _ _ _ _ _ _ g2⟩
  · cases h
theorem SObj.mt_frz {a b : SObj} {l : List Ob} (h : SObj.mt σ m a b = some l) : a.frz = b.frz := by
  unfold SObj.mt at h
  split at h <;> try rfl
  · split at h <;> cases h
    rename_i h1 h2 h3
    have e := Nat.eq_of_beq_eq_true h1; subst e
    rfl
  · cases h
def appO : Option (List Ob) → Option (List Ob) → Option (List Ob)
  | some l, some k => some (l ++ k)
  | _, _ => none
theorem appO_ok {a b : Option (List Ob)} {l : List Ob} (h : appO a b = some l) : ∃ x y, a = some x ∧ b = some y ∧ l = x ++ y := by
  unfold appO at h
  split at h
  · cases h; exact ⟨_, _, rfl, rfl, rfl⟩
  · cases h
def SItem.mt (m : Nm) : SItem → SItem → Option (List Ob)
  | .code c, .code d => some [(c, d)]
  | .inBlock n, .inBlock k => match Nat.beq n k with
    | true => some []
    | false => none
  | .inLoop c, .inLoop d => some [(c, d)]
  | .inScope c, .inScope d => some [(c, d)]
  | .inRegion ops l, .inRegion ops' k => match natsEq l k with
    | true => some [(.region 0 ops false, .region 0 ops' false)]
    | false => none
  | .inRangeFunc h, .inRangeFunc j => match m.is h j with
    | true => some []
    | false => none
  | .endRangeFunc h, .endRangeFunc j => match m.is h j with
    | true => some []
    | false => none
  | .beginRound, .beginRound => some []
  | _, _ => none
theorem SItem.mt_ok {a b : SItem} {i : Item} {l : List Ob} (h : SItem.mt m a b = some l) (ho : ObsOk l) (hd : @SItem.Den V ρ b i) : @SItem.Den (V.put σ) (m.env ρ) a i := by
  unfold SItem.mt at h
  split at h
  · cases h
    have e : _ = _ := ho _ (List.mem_singleton.2 rfl)
    dsimp only at e; subst e; exact hd
  · split at h <;> cases h
    have e := Nat.eq_of_beq_eq_true (by assumption); subst e; exact hd
  · cases h
    have e : _ = _ := ho _ (List.mem_singleton.2 rfl)
    dsimp only at e; subst e; exact hd
  · cases h
    have e : _ = _ := ho _ (List.mem_singleton.2 rfl)
    dsimp only at e; subst e; exact hd
  · split at h <;> cases h
    rename_i h1
    have e := natsEq_ok h1; subst e
    have e : _ = _ := ho _ (List.mem_singleton.2 rfl)
    injection e with _ e
    subst e; exact hd
  · split at h <;> cases h
    obtain ⟨b, e1, e2⟩ := hd
    exact ⟨b, Nm.env_of (by assumption) e1, e2⟩
  · split at h <;> cases h
    obtain ⟨b, e1, e2⟩ := hd
    exact ⟨b, Nm.env_of (by assumption) e1, e2⟩
  · exact hd
  · cases h
def todoMt (m : Nm) : List SItem → List SItem → Option (List Ob)
  | [], [] => some []
  | x :: l, y :: k => appO (SItem.mt m x y) (todoMt m l k)
  | _, _ => none
theorem todoMt_ok : ∀ {a b : List SItem} {is : List Item} {l : List Ob}, todoMt m a b = some l → ObsOk l → @DenIs V ρ b is → @DenIs (V.put σ) (m.env ρ) a is
  | [], b, is, l, h, ho, hd => by cases b <;> simp only [todoMt] at h <;> first | exact hd | cases h
  | x :: r, b, is, l, h, ho, hd => by
    cases b <;> simp only [todoMt] at h
    · cases h
    · obtain ⟨p, q, h1, h2, rfl⟩ := appO_ok h
      obtain ⟨i, is', e1, e2, e3⟩ := hd
      exact ⟨i, is', e1, SItem.mt_ok h1 (obs_app ho).1 e2, todoMt_ok h2 (obs_app ho).2 e3⟩
def pansMt (σ : Su) (m : Nm) : List SPan → List SPan → Bool
  | [], [] => true
  | x :: l, y :: k => match SV.mt σ m x.v y.v, decide (x.recovered = y.recovered) with
    | true, true => pansMt σ m l k
    | _, _ => false
  | _, _ => false
theorem pansMt_ok : ∀ {a b : List SPan} {l : List PanicEntry}, pansMt σ m a b = true → @DenPans V ρ b l → @DenPans (V.put σ) (m.env ρ) a l
  | [], b, l, h, hd => by cases b <;> simp only [pansMt, Bool.false_eq_true] at h; exact hd
  | x :: r, b, l, h, hd => by
    cases b <;> simp only [pansMt, Bool.false_eq_true] at h
    split at h
    · rename_i h1 h2
      have h2 := of_decide_eq_true h2
      obtain ⟨u, l', e1, e2, e3⟩ := hd
      exact ⟨u, l', by rw [h2]; exact e1, SV.mt_ok h1 e2, pansMt_ok h e3⟩
    · cases h
def SMode.mt (σ : Su) (m : Nm) : SMode → SMode → Bool
  | .run, .run => true
  | .returning, .returning => true
  | .panicking l, .panicking k => pansMt σ m l k
  | _, _ => false
theorem SMode.mt_ok {a b : SMode} {x : FrameMode} (h : SMode.mt σ m a b = true) (hd : @SMode.Den V ρ b x) : @SMode.Den (V.put σ) (m.env ρ) a x := by
  unfold SMode.mt at h
  split at h
  · exact hd
  · exact hd
  · obtain ⟨c, e1, e2⟩ := hd
    exact ⟨c, pansMt_ok h e1, e2⟩
  · cases h
def kdEq : CallKind → CallKind → Bool
  | .normal, .normal => true
  | .deferred, .deferred => true
  | _, _ => false
theorem kdEq_ok {a b : CallKind} (h : kdEq a b = true) : a = b := by
  unfold kdEq at h
  split at h <;> first | rfl | cases h
def ohMt (m : Nm) : Option Nat → Option Nat → Bool
  | none, none => true
  | some h, some j => m.is h j
  | _, _ => false
def SFrame.mt (σ : Su) (m : Nm) (a b : SFrame) : Option (List Ob) :=
  match Nat.beq a.fn b.fn, SV.mtL σ m a.tmps b.tmps, defsMt σ m a.defers b.defers, SMode.mt σ m a.mode b.mode, kdEq a.kind b.kind, ohMt m a.round b.round with
  | true, true, true, true, true, true => todoMt m a.todo b.todo
  | _, _, _, _, _, _ => none
theorem SFrame.mt_ok {a b : SFrame} {f : Frame} {l : List Ob} (h : SFrame.mt σ m a b = some l) (ho : ObsOk l) (hd : @SFrame.Den V ρ b f) : @SFrame.Den (V.put σ) (m.env ρ) a f := by
  unfold SFrame.mt at h
  split at h
  · rename_i h1 h2 h3 h4 h5 h6
    refine @SFrame.Den.mk (V.put σ) (m.env ρ) a f (hd.fn.trans (Nat.eq_of_beq_eq_true h1).symm) (SV.mtL_ok h2 hd.tmps) (todoMt_ok h ho hd.todo) (defsMt_ok h3 hd.defers) (SMode.mt_ok h4 hd.mode) (hd.kind.trans (kdEq_ok h5).symm) ?_
    have hr := hd.round
    unfold ohMt at h6
    split at h6
    · rename_i e1 e2
      rw [e1]; rw [e2] at hr; exact hr
    · rename_i x y e1 e2
      rw [e1]; rw [e2] at hr
      obtain ⟨b, g1, g2⟩ := hr
      exact ⟨b, Nm.env_of h6 g1, g2⟩
    · cases h6
  · cases h
def stkMt (σ : Su) (m : Nm) : List SFrame → List SFrame → Option (List Ob)
  | [], [] => some []
  | x :: l, y :: k => appO (SFrame.mt σ m x y) (stkMt σ m l k)
  | _, _ => none
theorem stkMt_ok : ∀ {a b : List SFrame} {fs : List Frame} {l : List Ob}, stkMt σ m a b = some l → ObsOk l → @DenFs V ρ b fs → @DenFs (V.put σ) (m.env ρ) a fs
  | [], b, fs, l, h, ho, hd => by cases b <;> simp only [stkMt] at h <;> first | exact hd | cases h
  | x :: r, b, fs, l, h, ho, hd => by
    cases b <;> simp only [stkMt] at h
    · cases h
    · obtain ⟨p, q, h1, h2, rfl⟩ := appO_ok h
      obtain ⟨i, is', e1, e2, e3⟩ := hd
      exact ⟨i, is', e1, SFrame.mt_ok h1 (obs_app ho).1 e2, stkMt_ok h2 (obs_app ho).2 e3⟩
def entsMt (σ : Su) (m : Nm) (e : Ents) : Ents → Option (List Ob)
  | [] => some []
  | (h, o) :: r => match m.f h with
    | none => none
    | some j => match find e j with
      | none => none
      | some o' => appO (SObj.mt σ m o o') (entsMt σ m e r)
theorem entsMt_ok {e : Ents} : ∀ {r : Ents} {l : List Ob}, entsMt σ m e r = some l → ObsOk l → ∀ h o, find r h = some o → ∃ j o' k, m.f h = some j ∧ find e j = some o' ∧ SObj.mt σ m o o' = some k ∧ ObsOk k
  | [], l, h, ho, i, o, hi => by simp [find] at hi
  | (i, o) :: r, l, h, ho, i', o', hi => by
    unfold entsMt at h
    split at h <;> try (cases h; done)
    rename_i j hj
    split at h <;> try (cases h; done)
    rename_i o2 ho2
    obtain ⟨p, q, h1, h2, rfl⟩ := appO_ok h
    rw [@find_cons ⟨fun _ => 0, fun _ => false, fun _ _ => 0, fun _ _ => false, fun _ _ _ => Abs.no, fun _ _ _ _ _ _ _ _ h => h⟩] at hi
    split at hi
    · rename_i e1
      cases hi
      subst e1
      exact ⟨j, o2, p, hj, ho2, h1, (obs_app ho).1⟩
    · exact entsMt_ok h2 (obs_app ho).2 i' o' hi
/-- No two names stand for one. -/
def ndS : List (Nat × Nat) → Bool
  | [] => true
  | (_, b) :: l => match (l.all fun p => !(Nat.beq p.2 b)) with
    | true => ndS l
    | false => false
theorem lookN_mem : ∀ {l : List (Nat × Nat)} {h x : Nat}, lookN l h = some x → (h, x) ∈ l
  | [], _, _, h => by cases h
  | (j, u) :: l, h, x, e => by
    unfold lookN at e
    split at e
    · rename_i h1
      cases e
      rw [Nat.eq_of_beq_eq_true h1]
      exact List.mem_cons_self ..
    · exact List.mem_cons_of_mem _ (lookN_mem e)
theorem ndS_ok : ∀ {l : List (Nat × Nat)} {h h' x : Nat}, ndS l = true → lookN l h = some x → lookN l h' = some x → h = h'
  | [], _, _, _, _, e, _ => by cases e
  | (j, u) :: l, h, h', x, hn, e, e' => by
    unfold ndS at hn
    split at hn
    · rename_i ha
      have hu : ∀ {i y}, lookN l i = some y → y ≠ u := fun hi e => by
        have := List.all_eq_true.1 ha _ (lookN_mem hi)
        subst e
        simp at this
      unfold lookN at e e'
      split at e
      · rename_i h1
        cases e
        split at e'
        · rename_i h2
          rw [← Nat.eq_of_beq_eq_true h1, ← Nat.eq_of_beq_eq_true h2]
        · exact absurd rfl (hu e')
      · split at e'
        · cases e'
          exact absurd rfl (hu e)
        · exact ndS_ok hn e e'
    · cases hn
theorem Nm.inj {m : Nm} (hn : ndS m.τ = true) {h h' x : Nat} (e : m.f h = some x) (e' : m.f h' = some x) : h = h' := by
  unfold Nm.f at e e'
  split at e
  · rename_i h1
    cases e
    split at e'
    · cases e'; rfl
    · split at e' <;> try (cases e'; done)
      split at e' <;> cases e'
      rename_i h2
      rw [h1] at h2; cases h2
  · split at e <;> try (cases e; done)
    rename_i j hj
    split at e <;> cases e
    rename_i hx
    split at e'
    · rename_i h2
      cases e'
      rw [h2] at hx; cases hx
    · split at e' <;> try (cases e'; done)
      rename_i j' hj'
      split at e' <;> cases e'
      exact ndS_ok hn hj hj'
def Nm.below (m : Nm) (n : Nat) : Bool := match Nat.ble m.npin n with
  | true => m.τ.all fun p => Nat.blt p.1 n
  | false => false
theorem Nm.below_ok {m : Nm} {n h : Nat} (hb : m.below n = true) (hn : n ≤ h) : m.f h = none := by
  unfold Nm.below at hb
  split at hb
  · rename_i h1
    have h1 := Nat.le_of_ble_eq_true h1
    unfold Nm.f
    split
    · rename_i h2
      have : h + 1 ≤ m.npin := Nat.le_of_ble_eq_true h2
      omega
    · split
      · rename_i j hj
        have := List.all_eq_true.1 hb _ (lookN_mem hj)
        have : h + 1 ≤ n := Nat.le_of_ble_eq_true this
        omega
      · rfl
  · cases hb
/-- Is S an instance of C? The codes that have to be the same. -/
def SState.mt (σ : Su) (m : Nm) (C S : SState) : Option (List Ob) :=
  match ndS m.τ, m.below C.next with
  | true, true => appO (SFrame.mt σ m C.top S.top) (appO (stkMt σ m C.stk S.stk) (entsMt σ m S.ents C.ents))
  | _, _ => none
theorem SState.mt_ok {C S : SState} {l : List Ob} (h : SState.mt σ m C S = some l) (ho : ObsOk l) {X : Nat → Prop} {w0 : World} {cs : List Frame} {M : Machine} (hd : @DenS V ρ X w0 (fun _ => True) 0 cs S M) :
    @DenS (V.put σ) (m.env ρ) X w0 (fun _ => True) 0 cs C M := by
  unfold SState.mt at h
  split at h
  · rename_i hn hb
    obtain ⟨p, q, h1, h2, rfl⟩ := appO_ok h
    obtain ⟨r, s, h3, h4, rfl⟩ := appO_ok h2
    obtain ⟨o1, o2⟩ := obs_app ho
    obtain ⟨o3, o4⟩ := obs_app o2
    obtain ⟨fr, frs, w, rfl, g1, g2, ⟨φ, g3⟩, g4⟩ := hd
    have hE := entsMt_ok h4 o4
    refine ⟨fr, frs, w, rfl, SFrame.mt_ok h1 o1 g1, stkMt_ok h3 o3 g2, ⟨fun i x => ∃ j, m.f i = some j ∧ φ j x, @DenHφ.mk (V.put σ) _ _ _ _ _ _ _ ?_ ?_ ?_ ?_ g3.frame g3.size g3.os g3.tape g3.output⟩, ⟨Nat.zero_le _, fun _ _ _ => trivial⟩⟩
    · intro i o hi
      obtain ⟨j, o', k, e1, e2, e3, e4⟩ := hE i o hi
      obtain ⟨b, f1, f2⟩ := g3.obj j o' e2
      refine ⟨b, by unfold Nm.env; rw [e1]; exact f1, ?_⟩
      have hF : (fun x => ∃ j, m.f i = some j ∧ φ j x) = φ j := funext fun x => propext ⟨fun ⟨j', e, hx⟩ => by rw [e1] at e; cases e; exact hx, fun hx => ⟨j, e1, hx⟩⟩
      rw [hF]
      exact SObj.mt_ok e3 e4 f2
    · rintro i i' o o' x hi hi' hz ⟨j, e1, e2⟩ ⟨j', e1', e2'⟩
      obtain ⟨k, p, _, q1, q2, q3, _⟩ := hE i o hi
      obtain ⟨k', p', _, q1', q2', _, _⟩ := hE i' o' hi'
      rw [e1] at q1; cases q1
      rw [e1'] at q1'; cases q1'
      have := g3.apart _ _ _ _ x q2 q2' ((SObj.mt_frz q3).symm.trans hz) e2 e2'
      subst this
      exact Nm.inj hn e1 e1'
    · rintro i o x hi hz ⟨j, e1, e2⟩
      obtain ⟨k, p, _, q1, q2, q3, _⟩ := hE i o hi
      rw [e1] at q1; cases q1
      exact g3.own _ _ x q2 ((SObj.mt_frz q3).symm.trans hz) e2
    · intro i hi
      have : C.next ≤ i := by
        rcases hi.2 with h | h
        · omega
        · exact h
      unfold Nm.env
      rw [Nm.below_ok hb this]; rfl
  · cases h
theorem Nm.env_pin {m : Nm} {ρ : Env} {h : Nat} (hh : h < m.npin) : m.env ρ h = ρ h := by
  unfold Nm.env Nm.f
  rw [show Nat.blt h m.npin = true from Nat.ble_eq_true_of_le hh]
  rfl
end
end Go.Sx
/- Runs that are cut at the heads of loops: what the letters there stand for is read off the state; the rule. -/
namespace Go.Sx
set_option linter.unusedSimpArgs false
set_option linter.unusedVariables false
open Go Go.RowKit Go.Cd Go.Proofs.YtkfocpgcdndpnaaGreat Go.MapKept

/-! What letters and names stand for, guessed (it is looked at afterwards). -/
structure Acc where
  t : List (Nat × Tm)
  b : List (Nat × Bm)
  τ : List (Nat × Nat)
section
variable (lv npin : Nat)
def addT (i : Nat) (t : Tm) (a : Acc) : Acc := match Nat.ble lv i with
  | true => match lookT a.t i with
    | some _ => a
    | none => { a with t := (i, t) :: a.t }
  | false => a
def addB (i : Nat) (t : Bm) (a : Acc) : Acc := match Nat.ble lv i with
  | true => match lookBm a.b i with
    | some _ => a
    | none => { a with b := (i, t) :: a.b }
  | false => a
def addN (h j : Nat) (a : Acc) : Acc := match Nat.blt h npin with
  | true => a
  | false => match lookN a.τ h with
    | some _ => a
    | none => { a with τ := (h, j) :: a.τ }
mutual
def Tm.cl : Tm → Tm → Acc → Acc
  | .var _ i, t, a => addT lv i t a
  | .op _ x y, .op _ u v, a => Tm.cl y v (Tm.cl x u a)
  | .un _ x, .un _ u, a => Tm.cl x u a
  | .ite c x y, .ite d u v, a => Tm.cl y v (Tm.cl x u (Bm.cl c d a))
  | .sel l i, .sel k j, a => Tm.cl i j (Tms.cl l k a)
  | .fn _ _ l, .fn _ _ k, a => Tms.cl l k a
  | _, _, a => a
def Tms.cl : Tms → Tms → Acc → Acc
  | .cons x l, .cons y k, a => Tms.cl l k (Tm.cl x y a)
  | _, _, a => a
def Bm.cl : Bm → Bm → Acc → Acc
  | .var i, t, a => addB lv i t a
  | .cmp _ x y, .cmp _ u v, a => Tm.cl y v (Tm.cl x u a)
  | .lop _ x y, .lop _ u v, a => Bm.cl y v (Bm.cl x u a)
  | .not x, .not y, a => Bm.cl x y a
  | .ite c x y, .ite d u v, a => Bm.cl y v (Bm.cl x u (Bm.cl c d a))
  | .fn _ l, .fn _ k, a => Tms.cl l k a
  | _, _, a => a
end
def SN.cl : SN → SN → Acc → Acc
  | .sym x, .sym y, a => Tm.cl lv x y a
  | .sym x, .lit n, a => Tm.cl lv x (.lit n) a
  | .env h, .env j, a => addN npin h j a
  | .sub h _, .sub j _, a => addN npin h j a
  | _, _, a => a
def SOff.cl : SOff → SOff → Acc → Acc
  | .idx _ _ _ i, .idx _ _ _ j, a => Tm.cl lv i j a
  | _, _, a => a
def SFn.cl : SFn → SFn → Acc → Acc
  | .yield h, .yield j, a => addN npin h j a
  | _, _, a => a
mutual
def SV.cl : SV → SV → Acc → Acc
  | .bool x, .bool y, a => Bm.cl lv x.bm y.bm a
  | .int _ x, .int _ y, a => Tm.cl lv x.tm y.tm a
  | .ptr h o, .ptr j p, a => SOff.cl lv o p (addN npin h j a)
  | .sl h o l c, .sl j p k d, a => SN.cl lv npin c d (SN.cl lv npin l k (SOff.cl lv o p (addN npin h j a)))
  | .map h, .map j, a => addN npin h j a
  | .fn f xs ys, .fn g us vs, a => SV.clL ys vs (SV.clL xs us (SFn.cl npin f g a))
  | .iface _ x, .iface _ y, a => SV.cl x y a
  | .agg l, .agg k, a => SV.clL l k a
  | .tup l, .tup k, a => SV.clL l k a
  | _, _, a => a
def SV.clL : List SV → List SV → Acc → Acc
  | x :: l, y :: k, a => SV.clL l k (SV.cl x y a)
  | _, _, a => a
end
def SDef.cl : SDef → SDef → Acc → Acc
  | .call _ c x, .call _ d y, a => SV.clL lv npin x y (SV.clL lv npin c d a)
  | .collected h, .collected j, a => addN npin h j a
  | _, _, a => a
def defsCl : List SDef → List SDef → Acc → Acc
  | x :: l, y :: k, a => defsCl l k (SDef.cl lv npin x y a)
  | _, _, a => a
def esCl : List (SV × SV × Nat) → List (SV × SV × Nat) → Acc → Acc
  | (k, v, _) :: l, (k', v', _) :: r, a => esCl l r (SV.cl lv npin v v' (SV.cl lv npin k k' a))
  | _, _, a => a
def refsCl : List Nat → List Nat → Acc → Acc
  | h :: l, j :: k, a => refsCl l k (addN npin h j a)
  | _, _, a => a
def SObj.cl : SObj → SObj → Acc → Acc
  | .cells l _, .cells k _, a => SV.clL lv npin l k a
  | .row l c _ _, .row k d _ _, a => SV.clL lv npin l k (addN npin c d a)
  | .smap es _, .smap fs _, a => esCl lv npin es fs a
  | .loop l, .loop k, a => SV.clL lv npin l.tmps k.tmps (addN npin l.defers k.defers a)
  | .defs (some l), .defs (some k), a => defsCl lv npin l k a
  | .abs _ x r, .abs _ y s, a => refsCl npin r s (Tms.cl lv x y a)
  | _, _, a => a
def todoCl : List SItem → List SItem → Acc → Acc
  | .inRangeFunc h :: l, .inRangeFunc j :: k, a => todoCl l k (addN npin h j a)
  | .endRangeFunc h :: l, .endRangeFunc j :: k, a => todoCl l k (addN npin h j a)
  | _ :: l, _ :: k, a => todoCl l k a
  | _, _, a => a
def SFrame.cl (x y : SFrame) (a : Acc) : Acc :=
  todoCl npin x.todo y.todo (defsCl lv npin x.defers y.defers (SV.clL lv npin x.tmps y.tmps (match x.round, y.round with
    | some h, some j => addN npin h j a
    | _, _ => a)))
def stkCl : List SFrame → List SFrame → Acc → Acc
  | x :: l, y :: k, a => stkCl l k (SFrame.cl lv npin x y a)
  | _, _, a => a
def entsCl (e : Ents) : Ents → Acc → Acc
  | [], a => a
  | (h, o) :: r, a => entsCl e r (match (Nm.f ⟨npin, a.τ⟩ h) with
    | some j => match find e j with
      | some o' => SObj.cl lv npin o o' a
      | none => a
    | none => a)
def guess (C S : SState) : Acc := entsCl lv npin S.ents C.ents (entsCl lv npin S.ents C.ents (entsCl lv npin S.ents C.ents (stkCl lv npin C.stk S.stk (SFrame.cl lv npin C.top S.top ⟨[], [], []⟩))))
end

structure Cut where
  S : SState
  fs : Facts
inductive FEnd where
  | cut (j : Nat) (σ : Su) (m : Nm) (obs : List Ob)
  | done (S : SState)
/-- The number of the first region of a code. -/
def fstR : Code → Nat
  | .seq a _ => fstR a
  | .block _ a => fstR a
  | .scope a => fstR a
  | .loop a => fstR a
  | .region n _ _ => n + 1
  | _ => 0
/-- The head of a loop, where its body begins. -/
def isLoopHd : List SItem → Bool
  | .code c :: .inLoop d :: _ => Nat.beq (fstR c) (fstR d)
  | _ => false
def lenEq {α β : Type} : List α → List β → Bool
  | [], [] => true
  | _ :: l, _ :: k => lenEq l k
  | _, _ => false
/-- Is the state like that of a cut, at first sight? -/
def likeCut (C S : SState) : Bool := match Nat.beq C.top.fn S.top.fn, isLoopHd S.top.todo, lenEq C.top.todo S.top.todo, lenEq C.stk S.stk, S.top.mode with
  | true, true, true, true, .run => true
  | _, _, _, _, _ => false
inductive AtC where
  | no
  | bad (j : Nat)
  | yes (j : Nat) (σ : Su) (m : Nm) (obs : List Ob)
def atCut (lv npin : Nat) (S : SState) : Nat → List Cut → AtC
  | _, [] => .no
  | j, C :: l => match likeCut C.S S with
    | false => atCut lv npin S (j + 1) l
    | true => match guess lv npin C.S S with
      | ⟨t, b, τ⟩ => match SState.mt ⟨t, b⟩ ⟨npin, τ⟩ C.S S with
        | some obs => .yes j ⟨t, b⟩ ⟨npin, τ⟩ obs
        | none => match atCut lv npin S (j + 1) l with
          | .no => .bad j
          | r => r
def flowRun (P : Program) (e : Ext) (lv npin : Nat) (cuts : List Cut) : Nat → Facts → SState → Tree FEnd
  | 0, _, _ => .stuck 110
  | n + 1, fs, S => match sDone S with
    | true => .leaf (.done S)
    | false => Tree.go fs (fun fs' S' => match atCut lv npin S' 0 cuts with
      | .no => flowRun P e lv npin cuts n fs' S'
      | .bad _ => flowRun P e lv npin cuts n fs' S'
      | .yes j σ m obs => .leaf (.cut j σ m obs)) (sstep P e S)
section
variable {P : Program} {X : Nat → Prop} {w0 : World} {cs : List Frame}
theorem atCut_ok {lv npin : Nat} {S : SState} : ∀ {l : List Cut} {k j : Nat} {σ : Su} {m : Nm} {obs : List Ob}, atCut lv npin S k l = .yes j σ m obs → ∃ C, k ≤ j ∧ l[j - k]? = some C ∧ SState.mt σ m C.S S = some obs ∧ m.npin = npin
  | [], _, _, _, _, _, h => by cases h
  | C :: l, k, j, σ, m, obs, h => by
    have next : atCut lv npin S (k + 1) l = .yes j σ m obs → ∃ D, k ≤ j ∧ (C :: l)[j - k]? = some D ∧ SState.mt σ m D.S S = some obs ∧ m.npin = npin := fun h => by
      obtain ⟨D, h1, h2, h3⟩ := atCut_ok h
      refine ⟨D, by omega, ?_, h3⟩
      rw [show j - k = (j - (k + 1)) + 1 by omega]
      simpa using h2
    unfold atCut at h
    split at h
    · exact next h
    · dsimp only at h
      split at h
      · rename_i h1
        cases h
        exact ⟨C, Nat.le_refl _, by simp, h1, rfl⟩
      · split at h
        · cases h
        · exact next h
/-- What a run up to the next cut shows. -/
def FGoes [V : Val] (P : Program) (npin : Nat) (cuts : List Cut) (ρ : Env) (X : Nat → Prop) (w0 : World) (cs : List Frame) (Q : FEnd → Prop) (M : Machine) : Prop :=
  ∃ ρ' S' M' x, Q x ∧ ρ.le ρ' ∧ Steps P M M' ∧ DenS ρ' X w0 (fun _ => True) 0 cs S' M' ∧ match x with
    | .cut j σ m obs => ∃ C, cuts[j]? = some C ∧ SState.mt σ m C.S S' = some obs ∧ m.npin = npin
    | .done S => S = S' ∧ sDone S = true
theorem flowRun_ok [Val] (hok : FnOk P) {e : Ext} (he : ExtOk P e) {lv npin : Nat} {cuts : List Cut} : ∀ {n : Nat} {fs : Facts} {ρ : Env} {S : SState} {Q : FEnd → Prop} {M : Machine}, FactsOk fs → DenS ρ X w0 (fun _ => True) 0 cs S M → (flowRun P e lv npin cuts n fs S).sat Q → FGoes P npin cuts ρ X w0 cs Q M
  | 0, _, _, _, _, _, _, _, hq => hq.elim
  | n + 1, fs, ρ, S, Q, M, hf, hS, hq => by
    unfold flowRun at hq
    split at hq
    · rename_i hdn
      exact ⟨ρ, S, M, _, hq, Env.le_refl _, Steps.refl _ _, hS, rfl, hdn⟩
    · obtain ⟨ρ1, S1, M1, h1, ⟨fs', hf', h2⟩, h3, h4⟩ := sstep_ok hok he hS (Tree.sat_go hf hq)
      split at h2
      · obtain ⟨ρ2, S2, M2, x, g1, g2, g3, g4, g5⟩ := flowRun_ok hok he hf' h4 h2
        exact ⟨ρ2, S2, M2, x, g1, Env.le_trans h1 g2, Steps.trans h3 g3, g4, g5⟩
      · obtain ⟨ρ2, S2, M2, x, g1, g2, g3, g4, g5⟩ := flowRun_ok hok he hf' h4 h2
        exact ⟨ρ2, S2, M2, x, g1, Env.le_trans h1 g2, Steps.trans h3 g3, g4, g5⟩
      · rename_i j σ m obs hc
        obtain ⟨C, _, c1, c2, c3⟩ := atCut_ok hc
        exact ⟨ρ1, S1, M1, _, h2, h1, h3, h4, C, by simpa using c1, c2, c3⟩
/-- What is seen of a run's end. -/
inductive FV where
  | cut (j : Nat) (σ : Su)
  | done (v : Option SV) (ents : Ents)
/-- The objects of some names. -/
def keepE (e : Ents) : List Nat → Ents
  | [] => []
  | h :: l => match find e h with
    | some o => (h, o) :: keepE e l
    | none => keepE e l
theorem find_keepE [Val] {e : Ents} : ∀ {l : List Nat} {j : Nat} {o : SObj}, find (keepE e l) j = some o → find e j = some o
  | [], _, _, h => by simp [keepE, find] at h
  | i :: l, j, o, h => by
    unfold keepE at h
    split at h
    · rename_i q hq
      rw [find_cons] at h
      split at h
      · rename_i hj
        cases h; subst hj; exact hq
      · exact find_keepE h
    · exact find_keepE h
def FEnd.view (P : Program) (f : FuncId) (keep : List Nat) : FEnd → FV
  | .cut j σ _ _ => .cut j σ
  | .done S => .done (sValue P f S) (keepE S.ents keep)
def Tree.map {α β : Type} (g : α → β) : Tree α → Tree β
  | .leaf a => .leaf (g a)
  | .split b x y => .split b (x.map g) (y.map g)
  | .need p x => .need p (x.map g)
  | .stuck n => .stuck n
theorem Tree.sat_map [Val] {α β : Type} {g : α → β} {Q : β → Prop} : ∀ {t : Tree α}, (t.map g).sat Q → t.sat fun a => Q (g a)
  | .leaf _, h => h
  | .split _ _ _, h => ⟨fun e => Tree.sat_map (h.1 e), fun e => Tree.sat_map (h.2 e)⟩
  | .need _ x, h => ⟨h.1, Tree.sat_map (t := x) h.2⟩
  | .stuck _, h => h
def FEnd.obs : FEnd → List Ob
  | .cut _ _ _ l => l
  | .done _ => []
def Tree.obs : Tree FEnd → List Ob
  | .leaf a => a.obs
  | .split _ x y => x.obs ++ y.obs
  | .need _ x => x.obs
  | .stuck _ => []
theorem Tree.sat_obs [Val] {Q : FEnd → Prop} : ∀ {t : Tree FEnd}, ObsOk t.obs → t.sat Q → t.sat fun a => Q a ∧ ObsOk a.obs
  | .leaf _, h, q => ⟨q, h⟩
  | .split _ _ _, h, q => ⟨fun e => Tree.sat_obs (obs_app h).1 (q.1 e), fun e => Tree.sat_obs (obs_app h).2 (q.2 e)⟩
  | .need _ x, h, q => ⟨q.1, Tree.sat_obs (t := x) h q.2⟩
  | .stuck _, _, q => q
theorem obsOk_of {l : List Ob} (h : l.map (·.1) = l.map (·.2)) : ObsOk l := by
  induction l with
  | nil => exact fun p hp => absurd hp (by simp)
  | cons a l ih =>
    simp only [List.map_cons, List.cons.injEq] at h
    intro p hp
    rcases List.mem_cons.1 hp with rfl | hp
    · exact h.1
    · exact ih h.2 p hp
/-- A run from a cut, as it is looked at. -/
def flowV (P : Program) (e : Ext) (f : FuncId) (keep : List Nat) (lv npin : Nat) (cuts : List Cut) (n : Nat) (C : Cut) : Tree FV := (flowRun P e lv npin cuts n C.fs C.S).map (FEnd.view P f keep)
def flowO (P : Program) (e : Ext) (lv npin : Nat) (cuts : List Cut) (n : Nat) (C : Cut) : List Ob := (flowRun P e lv npin cuts n C.fs C.S).obs
/-- The rule: from each cut at which the invariant holds, the run comes to a cut at which it holds again and the measure is less, or to the end. -/
theorem flow_rule (hok : FnOk P) {e : Ext} {f : FuncId} {keep : List Nat} {lv npin n : Nat} {cuts : List Cut} (Inv : Nat → Val → Prop) (μ : Nat → Val → Nat) (Post : Val → Option SV → Ents → Prop)
    (hE : ∀ j V, Inv j V → @ExtOk V P e) (hF : ∀ (j : Nat) (C : Cut) (V : Val), cuts[j]? = some C → Inv j V → @FactsOk V C.fs)
    (hO : ∀ (j : Nat) (C : Cut), cuts[j]? = some C → (flowO P e lv npin cuts n C).map (·.1) = (flowO P e lv npin cuts n C).map (·.2))
    (hR : ∀ (j : Nat) (C : Cut) (V : Val), cuts[j]? = some C → Inv j V → @Tree.sat V FV (fun x => match x with
      | .cut j' σ => Inv j' (V.put σ) ∧ μ j' (V.put σ) < μ j V
      | .done v ents => Post V v ents) (flowV P e f keep lv npin cuts n C)) :
    ∀ (k : Nat) (j : Nat) (C : Cut) (V : Val), μ j V ≤ k → cuts[j]? = some C → Inv j V → ∀ (ρ : Env) (M : Machine), @DenS V ρ X w0 (fun _ => True) 0 cs C.S M →
      ∃ V' ρ' S' M', Steps P M M' ∧ Post V' (sValue P f S') (keepE S'.ents keep) ∧ sDone S' = true ∧ @DenS V' ρ' X w0 (fun _ => True) 0 cs S' M' ∧ ∀ h, h < npin → ∀ b, ρ h = some b → ρ' h = some b := by
  intro k
  induction k with
  | zero =>
    intro j C V hk hC hI ρ M hS
    obtain ⟨ρ1, S1, M1, x, ⟨g1, g1'⟩, g2, g3, g4, g5⟩ := @flowRun_ok P X w0 cs V hok e (hE j V hI) lv npin cuts n C.fs ρ C.S _ M (hF j C V hC hI) hS (@Tree.sat_obs V _ _ (obsOk_of (hO j C hC)) (@Tree.sat_map V _ _ _ _ _ (hR j C V hC hI)))
    cases x with
    | cut j' σ m obs => have := g1.2; omega
    | done S =>
      obtain ⟨rfl, g6⟩ := g5
      exact ⟨V, ρ1, S, M1, g3, g1, g6, g4, fun h hh b e => g2 h b e⟩
  | succ k ih =>
    intro j C V hk hC hI ρ M hS
    obtain ⟨ρ1, S1, M1, x, ⟨g1, g1'⟩, g2, g3, g4, g5⟩ := @flowRun_ok P X w0 cs V hok e (hE j V hI) lv npin cuts n C.fs ρ C.S _ M (hF j C V hC hI) hS (@Tree.sat_obs V _ _ (obsOk_of (hO j C hC)) (@Tree.sat_map V _ _ _ _ _ (hR j C V hC hI)))
    cases x with
    | cut j' σ m obs =>
      obtain ⟨C', c1, c2, c3⟩ := g5
      have hS' := SState.mt_ok c2 g1' g4
      obtain ⟨V2, ρ2, S2, M2, k1, k2, k3, k4, k5⟩ := ih j' C' (V.put σ) (by have := g1.2; omega) c1 g1.1 (m.env ρ1) M1 hS'
      refine ⟨V2, ρ2, S2, M2, Steps.trans g3 k1, k2, k3, k4, fun h hh b e => k5 h hh b ?_⟩
      rw [Nm.env_pin (by rw [c3]; exact hh)]
      exact g2 h b e
    | done S =>
      obtain ⟨rfl, g6⟩ := g5
      exact ⟨V, ρ1, S, M1, g3, g1, g6, g4, fun h hh b e => g2 h b e⟩
/-- A call whose run is cut. -/
theorem calls_of_flow (hok : FnOk P) {e : Ext} {f : FuncId} {i : FnI} {keep : List Nat} {lv npin n : Nat} {cuts : List Cut} (Inv : Nat → Val → Prop) (μ : Nat → Val → Nat) (Post : Val → Option SV → Ents → Prop)
    (hE : ∀ j V, Inv j V → @ExtOk V P e) (hF : ∀ (j : Nat) (C : Cut) (V : Val), cuts[j]? = some C → Inv j V → @FactsOk V C.fs)
    (hO : ∀ (j : Nat) (C : Cut), cuts[j]? = some C → (flowO P e lv npin cuts n C).map (·.1) = (flowO P e lv npin cuts n C).map (·.2))
    (hR : ∀ (j : Nat) (C : Cut) (V : Val), cuts[j]? = some C → Inv j V → @Tree.sat V FV (fun x => match x with
      | .cut j' σ => Inv j' (V.put σ) ∧ μ j' (V.put σ) < μ j V
      | .done v ents => Post V v ents) (flowV P e f keep lv npin cuts n C))
    (hi' : fnOf P f = some i) {args : List SV} {ents : Ents} {hi : Nat} {fs : Facts} (h0 : cuts[0]? = some ⟨sStart i f args ents npin hi, fs⟩)
    {V : Val} (hI : Inv 0 V) {ρ : Env} {vs : List Value} {w : World} (ha : @SV.DenL V ρ args vs) (hd : @DenH V ρ X w0 (find ents) (Fr (fun _ => True) 0 npin) w) {R : Ending → World → Prop}
    (hP : ∀ V' v ents', Post V' v ents' → ∃ s, v = some s ∧ ∀ ρ' x w', (∀ h, h < npin → ∀ b, ρ h = some b → ρ' h = some b) → @SV.Den V' ρ' s x → @DenH V' ρ' X w0 (find ents') (fun _ => False) w' → R (.returned x) w') : Calls P f vs.toArray w R := by
  intro cs
  have hS : @DenS V ρ X w0 (fun _ => True) 0 cs (sStart i f args ents npin hi) (lone (Frame.enter P f vs.toArray .normal) cs w) := ⟨_, [], w, rfl, @enterS_den V _ _ _ _ _ _ _ hi' ha, rfl, hd, Nat.zero_le _, fun _ _ _ => trivial⟩
  obtain ⟨V', ρ', S', m', h4, h2, hdn, ⟨fr, frs, w', rfl, hfr, hfs, hd', hF'⟩, h5⟩ := flow_rule (P := P) (X := X) (w0 := w0) (cs := cs) hok Inv μ Post hE hF hO hR _ 0 _ V (Nat.le_refl _) h0 hI ρ _ hS
  obtain ⟨s, h2, h3⟩ := hP V' _ _ h2
  obtain ⟨F, hF, hFb, hFn, hFr⟩ := @fnOf_spec V _ _ _ hi'
  unfold sValue at h2
  split at h2 <;> try cases h2
  rename_i i' hb hm hk hi2
  rw [hi'] at hi2
  injection hi2 with hi2; subst hi2
  have hb := Nat.eq_of_beq_eq_true hb
  unfold sDone at hdn
  split at hdn <;> try cases hdn
  · rename_i hstk hm2 hdf
    rw [hstk] at hfs
    simp only [DenFs] at hfs; subst hfs
    have hmode := hfr.mode
    rw [hm] at hmode
    simp only [SMode.Den] at hmode
    have hdefers := hfr.defers
    rw [hdf] at hdefers
    simp only [DenDs] at hdefers
    have hfn : fr.fn = f := hfr.fn.trans hb
    rw [← hFr] at h2
    obtain ⟨v, hv, hsv⟩ := @resultS_ok V' _ _ _ _ _ _ _ _ _ hd' hfr.tmps _ _ h2
    refine ⟨.returned v, w', fr, h3 ρ' v w' h5 hsv ((hd'.drop fun _ _ e => @find_keepE V' _ _ _ _ e).fresh_mono fun _ h => h.elim), h4, hfn, hmode, hdefers, hfr.kind.trans hk, F, by rw [hfn]; exact hF, hv⟩
  · rename_i hm2 _
    rw [hm] at hm2; cases hm2
end
end Go.Sx
