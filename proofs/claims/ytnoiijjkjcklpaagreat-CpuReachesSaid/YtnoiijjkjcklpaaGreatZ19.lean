/- Parts of the proof: SxRIs, SxVal, Sx26, Sx27. -/
import Derived.Test.YtnoiijjkjcklpaaGreatZ12
import Derived.Test.YtnoiijjkjcklpaaGreatZ13
import Derived.Test.YtnoiijjkjcklpaaGreatZ14
import Derived.Test.YtnoiijjkjcklpaaGreatZ15
import Derived.Test.YtnoiijjkjcklpaaGreatZ16
import Derived.Test.YtnoiijjkjcklpaaGreatZ17
import Derived.Barred
import Derived.Test.YtnoiijjkjcklpaaGreatZ18
import Derived.Test.YtnoiijjkjcklpaaGreatZ11
import Derived.Test.YtnoiijjkjcklpaaGreatZ8
/- R1.Is says what isa.valid says. -/
namespace Go.Proofs.YtnoiijjkjcklpaaGreat
open Go Go.Sx Go.RowKit Go.Cd Go.MapKept
set_option linter.unusedVariables false
structure Insn.Ok (x : Insn) : Prop where
  op : IntKind.i64.wrap x.op = x.op
  a : IntKind.i64.wrap x.a = x.a
  b : IntKind.i64.wrap x.b = x.b
  c : IntKind.i64.wrap x.c = x.c
  d : IntKind.i64.wrap x.d = x.d
  k : IntKind.i64.wrap x.k = x.k
  i : IntKind.u32.wrap x.i = x.i
def Insn.nth (x : Insn) (n : Nat) : Int := match n with
  | 0 => x.op
  | 1 => x.a
  | 2 => x.b
  | 3 => x.c
  | 4 => x.d
  | 5 => x.k
  | _ => x.i
theorem calls_same {P : Program} {f : FuncId} {args : Array Value} {w : World} {v v' : Value} (h : Calls P f args w fun e w' => e = .returned v ∧ New w w') (h' : Calls P f args w fun e w' => e = .returned v' ∧ New w w') (hi : P.inits.idxOf? f = none) : v = v' := by
  have k : ∀ {v : Value}, Calls P f args w (fun e w' => e = .returned v ∧ New w w') → Calls P f args w fun | .returned u, w' => u = v | _, _ => False := fun h => h.mono fun e w' ⟨he, _⟩ => by subst he; rfl
  obtain ⟨n, u, w1, e1, r1⟩ := (k h).done hi
  obtain ⟨m, u', w2, e2, r2⟩ := (k h').done hi
  have a := runN_ended e1 m
  have b := runN_ended e2 n
  rw [Nat.add_comm, a] at b
  injection b with ho hw
  injection ho with hv
  rw [← r1, ← r2, hv]
theorem ris_c {x : Insn} (hx : x.Ok) (w : World) : Calls Tryz.prog 53 #[insnV x] w fun e w' => e = .returned (.bool (validF x)) ∧ New w w' := by
  let V : Val := ⟨x.nth, fun _ => false, fun _ _ => 0, fun _ _ => false, fun _ _ _ => Abs.no, fun _ _ _ _ _ _ _ _ h => h⟩
  letI := V
  have hd : ∀ ρ, SV.DenL ρ [insnS] [insnV x] := fun ρ => by
    have e0 : @Tm.v V (.var .i64 0) = x.op := hx.op
    have e1 : @Tm.v V (.var .i64 1) = x.a := hx.a
    have e2 : @Tm.v V (.var .i64 2) = x.b := hx.b
    have e3 : @Tm.v V (.var .i64 3) = x.c := hx.c
    have e4 : @Tm.v V (.var .i64 4) = x.d := hx.d
    have e5 : @Tm.v V (.var .i64 5) = x.k := hx.k
    have e6 : @Tm.v V (.var .u32 6) = x.i := hx.i
    refine denL_cons'.2 ⟨?_, by simp⟩
    simp only [insnS, SV.Den]
    refine ⟨_, ?_, rfl⟩
    simp only [denL_cons', SV.Den, SI.sym_v, e0, e1, e2, e3, e4, e5, e6, denL_nil, and_self]
  have he : ExtOk Tryz.prog (ext Tryz.prog noCon noXt noAx) := ext_ok fnOk mixed_ok (noCon_ok _) noCon_log (noXt_ok _) (noAx_ok _) noAx_safe
  have key : ∀ fs, FactsOk fs → (isTree Tryz.prog fs).okT = true → Calls Tryz.prog 53 #[insnV x] w fun e w' => e = .returned (.bool (validF x)) ∧ New w w' := fun fs hfs ht => by
    obtain ⟨v, h1, h2⟩ := pair_calls fnOk he he hfs (Nat.zero_le _) (Nat.zero_le _) ht
    have h0 : @DenH V (fun _ => none) (fun _ => False) w (find []) (Fr (fun _ => True) 0 0) w := (DenH.start w fun _ => False).fresh_mono fun _ _ => trivial
    have g1 := h1 _ _ w (hd _) h0
    have g2 := h2 _ _ w (hd _) h0
    have e := calls_same g2 (valid_c x w) (by kernel_rfl)
    subst e
    exact g1
  have op : ∀ n b, decide (x.op < n) = b → @Bm.v V (opLt n b).1 = (opLt n b).2 := fun n b h => by
    show decide (IntKind.i64.wrap (x.nth 0) < n) = b
    rw [show x.nth 0 = x.op from rfl, hx.op]; exact h
  have cons : ∀ {p : Bm × Bool} {fs : Facts}, p.1.v = p.2 → FactsOk fs → FactsOk (p :: fs) := fun h hf q hq => by
    rcases List.mem_cons.1 hq with rfl | hq
    · exact h
    · exact hf q hq
  have nil : FactsOk [] := fun p hp => by cases hp
  by_cases h0 : x.op < 15
  · exact key _ (cons (op 15 true (decide_eq_true h0)) nil) is_pair0
  by_cases h1 : x.op < 19
  · exact key _ (cons (op 19 true (decide_eq_true h1)) (cons (op 15 false (decide_eq_false h0)) nil)) is_pair1
  by_cases h2 : x.op < 22
  · exact key _ (cons (op 22 true (decide_eq_true h2)) (cons (op 19 false (decide_eq_false h1)) nil)) is_pair2
  by_cases h3 : x.op < 25
  · exact key _ (cons (op 25 true (decide_eq_true h3)) (cons (op 22 false (decide_eq_false h2)) nil)) is_pair3
  by_cases h4 : x.op < 28
  · exact key _ (cons (op 28 true (decide_eq_true h4)) (cons (op 25 false (decide_eq_false h3)) nil)) is_pair4
  by_cases h5 : x.op < 31
  · exact key _ (cons (op 31 true (decide_eq_true h5)) (cons (op 28 false (decide_eq_false h4)) nil)) is_pair5
  by_cases h6 : x.op < 34
  · exact key _ (cons (op 34 true (decide_eq_true h6)) (cons (op 31 false (decide_eq_false h5)) nil)) is_pair6
  by_cases h7 : x.op < 37
  · exact key _ (cons (op 37 true (decide_eq_true h7)) (cons (op 34 false (decide_eq_false h6)) nil)) is_pair7
  by_cases h8 : x.op < 40
  · exact key _ (cons (op 40 true (decide_eq_true h8)) (cons (op 37 false (decide_eq_false h7)) nil)) is_pair8
  by_cases h9 : x.op < 43
  · exact key _ (cons (op 43 true (decide_eq_true h9)) (cons (op 40 false (decide_eq_false h8)) nil)) is_pair9
  by_cases h10 : x.op < 46
  · exact key _ (cons (op 46 true (decide_eq_true h10)) (cons (op 43 false (decide_eq_false h9)) nil)) is_pair10
  by_cases h11 : x.op < 49
  · exact key _ (cons (op 49 true (decide_eq_true h11)) (cons (op 46 false (decide_eq_false h10)) nil)) is_pair11
  by_cases h12 : x.op < 52
  · exact key _ (cons (op 52 true (decide_eq_true h12)) (cons (op 49 false (decide_eq_false h11)) nil)) is_pair12
  by_cases h13 : x.op < 55
  · exact key _ (cons (op 55 true (decide_eq_true h13)) (cons (op 52 false (decide_eq_false h12)) nil)) is_pair13
  by_cases h14 : x.op < 58
  · exact key _ (cons (op 58 true (decide_eq_true h14)) (cons (op 55 false (decide_eq_false h13)) nil)) is_pair14
  by_cases h15 : x.op < 61
  · exact key _ (cons (op 61 true (decide_eq_true h15)) (cons (op 58 false (decide_eq_false h14)) nil)) is_pair15
  by_cases h16 : x.op < 64
  · exact key _ (cons (op 64 true (decide_eq_true h16)) (cons (op 61 false (decide_eq_false h15)) nil)) is_pair16
  by_cases h17 : x.op < 67
  · exact key _ (cons (op 67 true (decide_eq_true h17)) (cons (op 64 false (decide_eq_false h16)) nil)) is_pair17
  by_cases h18 : x.op < 70
  · exact key _ (cons (op 70 true (decide_eq_true h18)) (cons (op 67 false (decide_eq_false h17)) nil)) is_pair18
  exact key _ (cons (op 70 false (decide_eq_false h18)) nil) is_pair19
end Go.Proofs.YtnoiijjkjcklpaaGreat
/- isa.valid and R1.Is as a named test. -/
namespace Go.Proofs.YtnoiijjkjcklpaaGreat
open Go Go.Sx Go.RowKit Go.Cd Go.MapKept
set_option linter.unusedVariables false
def inI (n : SI) : Bool := n.within IntKind.i64.min IntKind.i64.max
def isArgs (op a b c d k i : SI) : Tms := .cons op.tm (.cons a.tm (.cons b.tm (.cons c.tm (.cons d.tm (.cons k.tm (.cons i.tm .nil))))))
def isS : List SV → Option SV
  | [.agg [.int .i64 op, .int .i64 a, .int .i64 b, .int .i64 c, .int .i64 d, .int .i64 k, .int .u32 i]] =>
    match inI op, inI a, inI b, inI c, inI d, inI k, i.within 0 4294967295 with
    | true, true, true, true, true, true, true => some (.bool (.sym (.fn 61 (isArgs op a b c d k i))))
    | _, _, _, _, _, _, _ => none
  | _ => none
def isP : Pure := fun f args => match Nat.beq f 66 with
  | true => isS args
  | false => match Nat.beq f 53 with
    | true => isS args
    | false => none
def Fb61 (V : Val) : Prop := ∀ op a b c d k i, V.fb 61 [op, a, b, c, d, k, i] = validF ⟨op, a, b, c, d, k, i⟩
theorem isP_ok {V : Val} (h61 : Fb61 V) : @PureOk V Tryz.prog isP := by
  letI := V
  have key : ∀ (f : FuncId) (args : List SV) (v : SV), isS args = some v → (∀ (x : Insn) (w : World), x.Ok → Calls Tryz.prog f #[insnV x] w fun e w' => e = .returned (.bool (validF x)) ∧ New w w') → ∀ (ρ : Env) (vs : List Value) (w : World), SV.DenL ρ args vs → Calls Tryz.prog f vs.toArray w fun e w' => ∃ x, e = .returned x ∧ v.Den ρ x ∧ New w w' := by
    intro f args v h hc ρ vs w hvs
    unfold isS at h
    split at h <;> try (cases h; done)
    rename_i op a b c d k i
    split at h <;> cases h
    rename_i q0 q1 q2 q3 q4 q5 q6
    obtain ⟨x0, _, rfl, h0, r0⟩ := denL_cons.1 hvs
    rw [denL_nil] at r0; subst r0
    simp only [SV.Den] at h0
    obtain ⟨cs, hcs, rfl⟩ := h0
    obtain ⟨_, _, rfl, e0, hcs⟩ := denL_cons.1 hcs
    obtain ⟨_, _, rfl, e1, hcs⟩ := denL_cons.1 hcs
    obtain ⟨_, _, rfl, e2, hcs⟩ := denL_cons.1 hcs
    obtain ⟨_, _, rfl, e3, hcs⟩ := denL_cons.1 hcs
    obtain ⟨_, _, rfl, e4, hcs⟩ := denL_cons.1 hcs
    obtain ⟨_, _, rfl, e5, hcs⟩ := denL_cons.1 hcs
    obtain ⟨_, _, rfl, e6, hcs⟩ := denL_cons.1 hcs
    rw [denL_nil] at hcs; subst hcs
    simp only [SV.Den] at e0 e1 e2 e3 e4 e5 e6
    subst e0 e1 e2 e3 e4 e5 e6
    have W : ∀ {n : SI}, inI n = true → IntKind.i64.wrap n.v = n.v := fun h => by
      obtain ⟨h1, h2⟩ := SI.within_ok h
      exact wrap_same .i64 h1 h2
    have w6 : IntKind.u32.wrap i.v = i.v := by
      obtain ⟨h1, h2⟩ := SI.within_ok q6
      exact wrap_same .u32 h1 h2
    refine (hc ⟨op.v, a.v, b.v, c.v, d.v, k.v, i.v⟩ w ⟨W q0, W q1, W q2, W q3, W q4, W q5, w6⟩).mono ?_
    rintro e w' ⟨rfl, hn⟩
    refine ⟨_, rfl, ?_, hn⟩
    simp only [SV.Den, isArgs, SB.v, Bm.v, Tms.v, SI.tm_v]
    exact congrArg Value.bool (h61 ..).symm
  intro f args v h ρ vs w hvs
  unfold isP at h
  split at h
  · rename_i hf
    have hf := Nat.eq_of_beq_eq_true hf; subst hf
    exact key _ _ _ h (fun x w hx => valid_c x w) ρ vs w hvs
  split at h
  · rename_i hf
    have hf := Nat.eq_of_beq_eq_true hf; subst hf
    exact key _ _ _ h (fun x w hx => ris_c hx w) ρ vs w hvs
  · cases h
end Go.Proofs.YtnoiijjkjcklpaaGreat
/- A state that another one is an instance of: letters stand for terms, names for names. -/
namespace Go.Sx
set_option linter.unusedSimpArgs false
set_option linter.unusedVariables false
open Go Go.RowKit Go.Cd Go.Proofs.YtnoiijjkjcklpaaGreat Go.MapKept

def lookT : List (Nat × Tm) → Nat → Option Tm
  | [], _ => none
  | (j, u) :: l, i => match Nat.beq j i with
    | true => some u
    | false => lookT l i
def lookBm : List (Nat × Bm) → Nat → Option Bm
  | [], _ => none
  | (j, u) :: l, i => match Nat.beq j i with
    | true => some u
    | false => lookBm l i
def lookN : List (Nat × Nat) → Nat → Option Nat
  | [], _ => none
  | (j, u) :: l, i => match Nat.beq j i with
    | true => some u
    | false => lookN l i
structure Su where
  t : List (Nat × Tm)
  b : List (Nat × Bm)
@[reducible] def Val.put (V : Val) (σ : Su) : Val :=
  ⟨fun i => match lookT σ.t i with
    | some u => @Tm.v V u
    | none => V.ints i, fun i => match lookBm σ.b i with
    | some u => @Bm.v V u
    | none => V.bools i, V.fi, V.fb, V.abs, V.weak⟩
theorem put_int_some {V : Val} {σ : Su} {i : Nat} {u : Tm} (h : lookT σ.t i = some u) : @Val.ints (V.put σ) i = @Tm.v V u := by
  show (match lookT σ.t i with
    | some u => @Tm.v V u
    | none => V.ints i) = _
  rw [h]
theorem put_int_none {V : Val} {σ : Su} {i : Nat} (h : lookT σ.t i = none) : @Val.ints (V.put σ) i = V.ints i := by
  show (match lookT σ.t i with
    | some u => @Tm.v V u
    | none => V.ints i) = _
  rw [h]
theorem put_bool_some {V : Val} {σ : Su} {i : Nat} {u : Bm} (h : lookBm σ.b i = some u) : @Val.bools (V.put σ) i = @Bm.v V u := by
  show (match lookBm σ.b i with
    | some u => @Bm.v V u
    | none => V.bools i) = _
  rw [h]
theorem put_bool_none {V : Val} {σ : Su} {i : Nat} (h : lookBm σ.b i = none) : @Val.bools (V.put σ) i = V.bools i := by
  show (match lookBm σ.b i with
    | some u => @Bm.v V u
    | none => V.bools i) = _
  rw [h]
mutual
def Tm.mt (σ : Su) : Tm → Tm → Bool
  | .var k i, t => match lookT σ.t i with
    | some u => match Tm.same u t with
      | true => t.within k.min k.max
      | false => false
    | none => Tm.same (.var k i) t
  | .lit n, .lit m => decide (n = m)
  | .op o a b, .op p c d => match decide (o = p) with
    | true => match Tm.mt σ a c with
      | true => Tm.mt σ b d
      | false => false
    | false => false
  | .un o a, .un p c => match decide (o = p) with
    | true => Tm.mt σ a c
    | false => false
  | .ite c a b, .ite d e f => match Bm.mt σ c d with
    | true => match Tm.mt σ a e with
      | true => Tm.mt σ b f
      | false => false
    | false => false
  | .sel l i, .sel m j => match Tms.mt σ l m with
    | true => Tm.mt σ i j
    | false => false
  | .fn k f l, .fn j g m => match decide (k = j) with
    | true => match Nat.beq f g with
      | true => Tms.mt σ l m
      | false => false
    | false => false
  | _, _ => false
def Tms.mt (σ : Su) : Tms → Tms → Bool
  | .nil, .nil => true
  | .cons a l, .cons b m => match Tm.mt σ a b with
    | true => Tms.mt σ l m
    | false => false
  | _, _ => false
def Bm.mt (σ : Su) : Bm → Bm → Bool
  | .var i, b => match lookBm σ.b i with
    | some u => Bm.same u b
    | none => Bm.same (.var i) b
  | .lit i, .lit j => decide (i = j)
  | .cmp o a b, .cmp p c d => match decide (o = p) with
    | true => match Tm.mt σ a c with
      | true => Tm.mt σ b d
      | false => false
    | false => false
  | .lop o a b, .lop p c d => match decide (o = p) with
    | true => match Bm.mt σ a c with
      | true => Bm.mt σ b d
      | false => false
    | false => false
  | .not a, .not b => Bm.mt σ a b
  | .ite c a b, .ite d e f => match Bm.mt σ c d with
    | true => match Bm.mt σ a e with
      | true => Bm.mt σ b f
      | false => false
    | false => false
  | .fn f l, .fn g m => match Nat.beq f g with
    | true => Tms.mt σ l m
    | false => false
  | _, _ => false
end
mutual
theorem Tm.mt_ok {V : Val} {σ : Su} : ∀ {a b : Tm}, Tm.mt σ a b = true → @Tm.v (V.put σ) a = @Tm.v V b
  | .var k i, b, h => by
    unfold Tm.mt at h
    split at h
    · rename_i u hu
      split at h
      · rename_i hs
        have e := Tm.same_eq hs; subst e
        obtain ⟨h1, h2⟩ := @Tm.within_ok V _ _ _ h
        simp only [Tm.v, put_int_some hu]
        exact wrap_same k h1 h2
      · cases h
    · rename_i hu
      have e := Tm.same_eq h; subst e
      simp only [Tm.v, put_int_none hu]
  | .lit i, b, h => by
    cases b <;> simp only [Tm.mt, Bool.false_eq_true] at h
    rw [of_decide_eq_true h]; rfl
  | .op o a b, x, h => by
    cases x <;> simp only [Tm.mt, Bool.false_eq_true] at h
    split at h
    · rename_i h1
      split at h
      · rename_i h2
        simp only [Tm.v]
        rw [of_decide_eq_true h1, Tm.mt_ok h2, Tm.mt_ok h]
      · cases h
    · cases h
  | .un o a, x, h => by
    cases x <;> simp only [Tm.mt, Bool.false_eq_true] at h
    split at h
    · rename_i h1
      simp only [Tm.v]
      rw [of_decide_eq_true h1, Tm.mt_ok h]
    · cases h
  | .ite c a b, x, h => by
    cases x <;> simp only [Tm.mt, Bool.false_eq_true] at h
    split at h
    · rename_i h1
      split at h
      · rename_i h2
        simp only [Tm.v]
        rw [Bm.mt_ok h1, Tm.mt_ok h2, Tm.mt_ok h]
      · cases h
    · cases h
  | .sel l i, x, h => by
    cases x <;> simp only [Tm.mt, Bool.false_eq_true] at h
    split at h
    · rename_i h1
      simp only [Tm.v]
      rw [Tms.mt_ok h1, Tm.mt_ok h]
    · cases h
  | .fn k f l, x, h => by
    cases x <;> simp only [Tm.mt, Bool.false_eq_true] at h
    split at h
    · rename_i h1
      split at h
      · rename_i h2
        simp only [Tm.v]
        rw [of_decide_eq_true h1, Nat.eq_of_beq_eq_true h2, Tms.mt_ok h]
        try rfl
      · cases h
    · cases h
theorem Tms.mt_ok {V : Val} {σ : Su} : ∀ {a b : Tms}, Tms.mt σ a b = true → @Tms.v (V.put σ) a = @Tms.v V b
  | .nil, b, h => by
    cases b <;> simp only [Tms.mt, Bool.false_eq_true] at h
    rfl
  | .cons a l, x, h => by
    cases x <;> simp only [Tms.mt, Bool.false_eq_true] at h
    split at h
    · rename_i h1
      simp only [Tms.v]
      rw [Tm.mt_ok h1, Tms.mt_ok h]
    · cases h
theorem Bm.mt_ok {V : Val} {σ : Su} : ∀ {a b : Bm}, Bm.mt σ a b = true → @Bm.v (V.put σ) a = @Bm.v V b
  | .var i, b, h => by
    unfold Bm.mt at h
    split at h
    · rename_i u hu
      have e := Bm.same_eq h; subst e
      simp only [Bm.v, put_bool_some hu]
    · rename_i hu
      have e := Bm.same_eq h; subst e
      simp only [Bm.v, put_bool_none hu]
  | .lit i, b, h => by
    cases b <;> simp only [Bm.mt, Bool.false_eq_true] at h
    rw [of_decide_eq_true h]; rfl
  | .cmp o a b, x, h => by
    cases x <;> simp only [Bm.mt, Bool.false_eq_true] at h
    split at h
    · rename_i h1
      split at h
      · rename_i h2
        simp only [Bm.v]
        rw [of_decide_eq_true h1, Tm.mt_ok h2, Tm.mt_ok h]
      · cases h
    · cases h
  | .lop o a b, x, h => by
    cases x <;> simp only [Bm.mt, Bool.false_eq_true] at h
    split at h
    · rename_i h1
      split at h
      · rename_i h2
        simp only [Bm.v]
        rw [of_decide_eq_true h1, Bm.mt_ok h2, Bm.mt_ok h]
      · cases h
    · cases h
  | .not a, x, h => by
    cases x <;> simp only [Bm.mt, Bool.false_eq_true] at h
    simp only [Bm.v]
    rw [Bm.mt_ok h]
  | .ite c a b, x, h => by
    cases x <;> simp only [Bm.mt, Bool.false_eq_true] at h
    split at h
    · rename_i h1
      split at h
      · rename_i h2
        simp only [Bm.v]
        rw [Bm.mt_ok h1, Bm.mt_ok h2, Bm.mt_ok h]
      · cases h
    · cases h
  | .fn f l, x, h => by
    cases x <;> simp only [Bm.mt, Bool.false_eq_true] at h
    split at h
    · rename_i h1
      simp only [Bm.v]
      rw [Nat.eq_of_beq_eq_true h1, Tms.mt_ok h]
      try rfl
    · cases h
end

structure Nm where
  npin : Nat
  τ : List (Nat × Nat)
def Nm.f (m : Nm) (h : Nat) : Option Nat := match Nat.blt h m.npin with
  | true => some h
  | false => match lookN m.τ h with
    | some j => match Nat.blt j m.npin with
      | true => none
      | false => some j
    | none => none
def Nm.is (m : Nm) (h j : Nat) : Bool := match m.f h with
  | some x => Nat.beq x j
  | none => false
theorem Nm.is_ok {m : Nm} {h j : Nat} (e : m.is h j = true) : m.f h = some j := by
  unfold Nm.is at e
  split at e
  · rename_i x hx; rw [hx, Nat.eq_of_beq_eq_true e]
  · cases e
def Nm.env (m : Nm) (ρ : Env) : Env := fun h => (m.f h).bind ρ
theorem Nm.env_of {m : Nm} {ρ : Env} {h j b : Nat} (e : m.is h j = true) (hb : ρ j = some b) : m.env ρ h = some b := by
  unfold Nm.env; rw [Nm.is_ok e]; exact hb
section
variable {V : Val} {σ : Su} {m : Nm} {ρ : Env}
def SI.mt (σ : Su) (a b : SI) : Bool := Tm.mt σ a.tm b.tm
theorem SI.mt_ok {a b : SI} (h : SI.mt σ a b = true) : @SI.v (V.put σ) a = @SI.v V b := by
  have := Tm.mt_ok (V := V) h
  rwa [@SI.tm_v (V.put σ), @SI.tm_v V] at this
def SB.mt (σ : Su) (a b : SB) : Bool := Bm.mt σ a.bm b.bm
theorem SB.mt_ok {a b : SB} (h : SB.mt σ a b = true) : @SB.v (V.put σ) a = @SB.v V b := by
  have := Bm.mt_ok (V := V) h
  rwa [@SB.bm_v (V.put σ), @SB.bm_v V] at this
def SN.mt (σ : Su) (m : Nm) : SN → SN → Bool
  | .lit a, .lit b => Nat.beq a b
  | .sym a, .sym b => Tm.mt σ a b
  | .sym a, .lit n => Tm.mt σ a (.lit n)
  | .env i, .env j => m.is i j
  | .sub i k, .sub j l => match Nat.beq k l with
    | true => m.is i j
    | false => false
  | _, _ => false
theorem SN.mt_ok {a b : SN} {n : Nat} (h : SN.mt σ m a b = true) (hd : @SN.Den V ρ b n) : @SN.Den (V.put σ) (m.env ρ) a n := by
  unfold SN.mt at h
  split at h
  · have e := Nat.eq_of_beq_eq_true h; subst e; exact hd
  · show @Tm.v (V.put σ) _ = _
    rw [Tm.mt_ok h]; exact hd
  · show @Tm.v (V.put σ) _ = _
    rw [Tm.mt_ok h]
    have : n = _ := hd
    subst this; rfl
  · exact Nm.env_of h hd
  · split at h
    · rename_i hk
      have e := Nat.eq_of_beq_eq_true hk; subst e
      obtain ⟨x, h1, h2⟩ := hd
      exact ⟨x, Nm.env_of h h1, h2⟩
    · cases h
  · cases h
def SOff.mt (σ : Su) : SOff → SOff → Bool
  | .any, _ => true
  | .lit a, .lit b => Nat.beq a b
  | .idx b s l i, .idx c t k j => match Nat.beq b c, Nat.beq s t, Nat.beq l k with
    | true, true, true => Tm.mt σ i j
    | _, _, _ => false
  | .raw b s l r i, .raw c t k q j => match Nat.beq b c, Nat.beq s t, Nat.beq l k, Nat.beq r q with
    | true, true, true, true => Tm.mt σ i j
    | _, _, _, _ => false
  | _, _ => false
theorem SOff.mt_ok {a b : SOff} {n : Nat} (h : SOff.mt σ a b = true) (hd : @SOff.Den V b n) : @SOff.Den (V.put σ) a n := by
  unfold SOff.mt at h
  split at h
  · trivial
  · have e := Nat.eq_of_beq_eq_true h; subst e; exact hd
  · split at h
    · rename_i h1 h2 h3
      have e := Nat.eq_of_beq_eq_true h1; subst e
      have e := Nat.eq_of_beq_eq_true h2; subst e
      have e := Nat.eq_of_beq_eq_true h3; subst e
      simp only [SOff.Den] at hd ⊢
      rw [Tm.mt_ok (V := V) h]; exact hd
    · cases h
  · split at h
    · rename_i h1 h2 h3 h4
      have e := Nat.eq_of_beq_eq_true h1; subst e
      have e := Nat.eq_of_beq_eq_true h2; subst e
      have e := Nat.eq_of_beq_eq_true h3; subst e
      have e := Nat.eq_of_beq_eq_true h4; subst e
      simp only [SOff.Den] at hd ⊢
      rw [Tm.mt_ok (V := V) h]; exact hd
    · cases h
  · cases h
def SFn.mt (m : Nm) : SFn → SFn → Bool
  | .func f, .func g => Nat.beq f g
  | .yield h, .yield j => m.is h j
  | _, _ => false
theorem SFn.mt_ok {a b : SFn} {g : Fn} (h : SFn.mt m a b = true) (hd : SFn.Den ρ b g) : SFn.Den (m.env ρ) a g := by
  unfold SFn.mt at h
  split at h
  · have e := Nat.eq_of_beq_eq_true h; subst e; exact hd
  · obtain ⟨b, h1, h2⟩ := hd
    exact ⟨b, Nm.env_of h h1, h2⟩
  · cases h
mutual
def SV.mt (σ : Su) (m : Nm) : SV → SV → Bool
  | .any, _ => true
  | .bool a, .bool b => SB.mt σ a b
  | .int k a, .int j b => match decide (k = j) with
    | true => SI.mt σ a b
    | false => false
  | .str s, .str t => decide (s = t)
  | .nilp, .nilp => true
  | .ptr h o, .ptr j p => match m.is h j with
    | true => SOff.mt σ o p
    | false => false
  | .nils, .nils => true
  | .sl h o l c, .sl j p k d => match m.is h j, SOff.mt σ o p, SN.mt σ m l k with
    | true, true, true => SN.mt σ m c d
    | _, _, _ => false
  | .nilm, .nilm => true
  | .map h, .map j => m.is h j
  | .nilf, .nilf => true
  | .fn f xs ys, .fn g us vs => match SFn.mt m f g, SV.mtL σ m xs us with
    | true, true => SV.mtL σ m ys vs
    | _, _ => false
  | .nili, .nili => true
  | .nat i, .nat j => m.is i j
  | .slp f i, .slp g j => match Nat.beq f g with
    | true => Tm.mt σ i j
    | false => false
  | .iface t x, .iface u y => match Nat.beq t u with
    | true => SV.mt σ m x y
    | false => false
  | .agg l, .agg k => SV.mtL σ m l k
  | .tup l, .tup k => SV.mtL σ m l k
  | _, _ => false
def SV.mtL (σ : Su) (m : Nm) : List SV → List SV → Bool
  | [], [] => true
  | x :: l, y :: k => match SV.mt σ m x y with
    | true => SV.mtL σ m l k
    | false => false
  | _, _ => false
end
mutual
theorem SV.mt_ok : ∀ {a b : SV} {v : Value}, SV.mt σ m a b = true → @SV.Den V ρ b v → @SV.Den (V.put σ) (m.env ρ) a v
  | .any, b, v, h, hd => by simp [SV.Den]
  | .bool a, b, v, h, hd => by
    cases b <;> simp only [SV.mt, Bool.false_eq_true] at h
    simp only [SV.Den] at hd ⊢
    rw [SB.mt_ok (V := V) h]; exact hd
  | .int k a, b, v, h, hd => by
    cases b <;> simp only [SV.mt, Bool.false_eq_true] at h
    split at h
    · rename_i hk
      have e := of_decide_eq_true hk; subst e
      simp only [SV.Den] at hd ⊢
      rw [SI.mt_ok (V := V) h]; exact hd
    · cases h
  | .str s, b, v, h, hd => by
    cases b <;> simp only [SV.mt, Bool.false_eq_true] at h
    have e := of_decide_eq_true h; subst e
    simpa only [SV.Den] using hd
  | .nilp, b, v, h, hd => by cases b <;> simp only [SV.mt, Bool.false_eq_true] at h; simpa only [SV.Den] using hd
  | .ptr i o, b, v, h, hd => by
    cases b <;> simp only [SV.mt, Bool.false_eq_true] at h
    split at h
    · rename_i h1
      simp only [SV.Den] at hd ⊢
      obtain ⟨b, n, e1, e2, e3⟩ := hd
      exact ⟨b, n, Nm.env_of h1 e1, SOff.mt_ok h e2, e3⟩
    · cases h
  | .nils, b, v, h, hd => by cases b <;> simp only [SV.mt, Bool.false_eq_true] at h; simpa only [SV.Den] using hd
  | .sl i o l c, b, v, h, hd => by
    cases b <;> simp only [SV.mt, Bool.false_eq_true] at h
    split at h
    · rename_i h1 h2 h3
      simp only [SV.Den] at hd ⊢
      obtain ⟨b, m', n, k, e1, e2, e3, e4, e5, e6⟩ := hd
      exact ⟨b, m', n, k, Nm.env_of h1 e1, SOff.mt_ok h2 e2, SN.mt_ok h3 e3, SN.mt_ok h e4, e5, e6⟩
    · cases h
  | .nilm, b, v, h, hd => by cases b <;> simp only [SV.mt, Bool.false_eq_true] at h; simpa only [SV.Den] using hd
  | .map i, b, v, h, hd => by
    cases b <;> simp only [SV.mt, Bool.false_eq_true] at h
    simp only [SV.Den] at hd ⊢
    obtain ⟨b, e1, e2⟩ := hd
    exact ⟨b, Nm.env_of h e1, e2⟩
  | .nilf, b, v, h, hd => by cases b <;> simp only [SV.mt, Bool.false_eq_true] at h; simpa only [SV.Den] using hd
  | .fn f xs ys, b, v, h, hd => by
    cases b <;> simp only [SV.mt, Bool.false_eq_true] at h
    split at h
    · rename_i h1 h2
      simp only [SV.Den] at hd ⊢
      obtain ⟨g, a, b, e1, e2, e3, e4⟩ := hd
      exact ⟨g, a, b, SFn.mt_ok h1 e1, SV.mtL_ok h2 e2, SV.mtL_ok h e3, e4⟩
    · cases h
  | .slp f i, b, v, h, hd => by
    cases b <;> simp only [SV.mt, Bool.false_eq_true] at h
    split at h
    · rename_i h1
      have e := Nat.eq_of_beq_eq_true h1; subst e
      simp only [SV.Den, Tm.v, Tms.v] at hd ⊢
      rw [Tm.mt_ok (V := V) h]; exact hd
    · cases h
  | .stp f i, b, v, h, hd => by cases b <;> simp only [SV.mt, Bool.false_eq_true] at h
  | .nat i, b, v, h, hd => by
    cases b <;> simp only [SV.mt, Bool.false_eq_true] at h
    simp only [SV.Den] at hd ⊢
    obtain ⟨x, e1, e2⟩ := hd
    exact ⟨x, Nm.env_of h e1, e2⟩
  | .nili, b, v, h, hd => by cases b <;> simp only [SV.mt, Bool.false_eq_true] at h; simpa only [SV.Den] using hd
  | .iface t x, b, v, h, hd => by
    cases b <;> simp only [SV.mt, Bool.false_eq_true] at h
    split at h
    · rename_i h1
      have e := Nat.eq_of_beq_eq_true h1; subst e
      simp only [SV.Den] at hd ⊢
      obtain ⟨y, e1, e2⟩ := hd
      exact ⟨y, SV.mt_ok h e1, e2⟩
    · cases h
  | .agg l, b, v, h, hd => by
    cases b <;> simp only [SV.mt, Bool.false_eq_true] at h
    simp only [SV.Den] at hd ⊢
    obtain ⟨vs, e1, e2⟩ := hd
    exact ⟨vs, SV.mtL_ok h e1, e2⟩
  | .tup l, b, v, h, hd => by
    cases b <;> simp only [SV.mt, Bool.false_eq_true] at h
    simp only [SV.Den] at hd ⊢
    obtain ⟨vs, e1, e2⟩ := hd
    exact ⟨vs, SV.mtL_ok h e1, e2⟩
theorem SV.mtL_ok : ∀ {a b : List SV} {vs : List Value}, SV.mtL σ m a b = true → @SV.DenL V ρ b vs → @SV.DenL (V.put σ) (m.env ρ) a vs
  | [], b, vs, h, hd => by
    cases b <;> simp only [SV.mtL, Bool.false_eq_true] at h
    simpa only [SV.DenL] using hd
  | x :: l, b, vs, h, hd => by
    cases b <;> simp only [SV.mtL, Bool.false_eq_true] at h
    split at h
    · rename_i h1
      simp only [SV.DenL] at hd ⊢
      obtain ⟨v, vs', e1, e2, e3⟩ := hd
      exact ⟨v, vs', e1, SV.mt_ok h1 e2, SV.mtL_ok h e3⟩
    · cases h
end
end
end Go.Sx
/- A state that another one is an instance of: objects, frames, the whole state. -/
namespace Go.Sx
set_option linter.unusedSimpArgs false
set_option linter.unusedVariables false
open Go Go.RowKit Go.Cd Go.Proofs.YtnoiijjkjcklpaaGreat Go.MapKept

abbrev Ob := Code × Code
def ObsOk (l : List Ob) : Prop := ∀ p ∈ l, p.1 = p.2
theorem obs_app {l k : List Ob} (h : ObsOk (l ++ k)) : ObsOk l ∧ ObsOk k := ⟨fun p hp => h p (List.mem_append_left _ hp), fun p hp => h p (List.mem_append_right _ hp)⟩
def natsEq : List Nat → List Nat → Bool
  | [], [] => true
  | x :: l, y :: k => match Nat.beq x y with
    | true => natsEq l k
    | false => false
  | _, _ => false
theorem natsEq_ok : ∀ {l k : List Nat}, natsEq l k = true → l = k
  | [], k, h => by cases k <;> simp only [natsEq, Bool.false_eq_true] at h; rfl
  | x :: l, k, h => by
    cases k <;> simp only [natsEq, Bool.false_eq_true] at h
    split at h
    · rename_i h1
      rw [Nat.eq_of_beq_eq_true h1, natsEq_ok h]
    · cases h
def Nm.isL (m : Nm) : List Nat → List Nat → Bool
  | [], [] => true
  | x :: l, y :: k => match m.is x y with
    | true => m.isL l k
    | false => false
  | _, _ => false
theorem Nm.isL_ok {m : Nm} {ρ : Env} : ∀ {l k rs : List Nat}, m.isL l k = true → DenRs ρ k rs → DenRs (m.env ρ) l rs
  | [], k, rs, h, hd => by cases k <;> simp only [Nm.isL, Bool.false_eq_true] at h; exact hd
  | x :: l, k, rs, h, hd => by
    cases k <;> simp only [Nm.isL, Bool.false_eq_true] at h
    split at h
    · rename_i h1
      obtain ⟨b, rs', e1, e2, e3⟩ := hd
      exact ⟨b, rs', e1, Nm.env_of h1 e2, Nm.isL_ok h e3⟩
    · cases h
def Tms.mtp (σ : Su) : Tms → Tms → Bool
  | .nil, _ => true
  | .cons a l, .cons b k => match Tm.mt σ a b with
    | true => Tms.mtp σ l k
    | false => false
  | _, _ => false
theorem Tms.mtp_ok {V : Val} {σ : Su} : ∀ {a b : Tms}, Tms.mtp σ a b = true → ∃ r, @Tms.v V b = @Tms.v (V.put σ) a ++ r
  | .nil, b, _ => ⟨@Tms.v V b, by simp [Tms.v]⟩
  | .cons a l, b, h => by
    cases b <;> simp only [Tms.mtp, Bool.false_eq_true] at h
    split at h
    · rename_i h1
      obtain ⟨r, hr⟩ := Tms.mtp_ok (V := V) h
      exact ⟨r, by simp only [Tms.v]; rw [hr, Tm.mt_ok (V := V) h1]; rfl⟩
    · cases h
def Nm.isP (m : Nm) : List Nat → List Nat → Bool
  | [], _ => true
  | x :: l, y :: k => match m.is x y with
    | true => m.isP l k
    | false => false
  | _, _ => false
theorem Nm.isP_ok {m : Nm} {ρ : Env} : ∀ {l k rs : List Nat}, m.isP l k = true → DenRs ρ k rs → ∃ r s, rs = r ++ s ∧ DenRs (m.env ρ) l r
  | [], k, rs, _, _ => ⟨[], rs, rfl, rfl⟩
  | x :: l, k, rs, h, hd => by
    cases k <;> simp only [Nm.isP, Bool.false_eq_true] at h
    split at h
    · rename_i h1
      obtain ⟨b, rs', rfl, e2, e3⟩ := hd
      obtain ⟨r, s, rfl, e4⟩ := Nm.isP_ok h e3
      exact ⟨b :: r, s, rfl, b, r, rfl, Nm.env_of h1 e2, e4⟩
    · cases h
section
variable {V : Val} {σ : Su} {m : Nm} {ρ : Env}
def SDef.mt (σ : Su) (m : Nm) : SDef → SDef → Bool
  | .call f c a, .call g d b => match Nat.beq f g, SV.mtL σ m c d with
    | true, true => SV.mtL σ m a b
    | _, _ => false
  | .collected h, .collected j => m.is h j
  | _, _ => false
theorem SDef.mt_ok {a b : SDef} {d : Deferred} (h : SDef.mt σ m a b = true) (hd : @SDef.Den V ρ b d) : @SDef.Den (V.put σ) (m.env ρ) a d := by
  unfold SDef.mt at h
  split at h
  · split at h
    · rename_i h1 h2
      have e := Nat.eq_of_beq_eq_true h1; subst e
      obtain ⟨c, a, e1, e2, e3⟩ := hd
      exact ⟨c, a, SV.mtL_ok h2 e1, SV.mtL_ok h e2, e3⟩
    · cases h
  · obtain ⟨b, e1, e2⟩ := hd
    exact ⟨b, Nm.env_of h e1, e2⟩
  · cases h
def defsMt (σ : Su) (m : Nm) : List SDef → List SDef → Bool
  | [], [] => true
  | x :: l, y :: k => match SDef.mt σ m x y with
    | true => defsMt σ m l k
    | false => false
  | _, _ => false
theorem defsMt_ok : ∀ {a b : List SDef} {ds : List Deferred}, defsMt σ m a b = true → @DenDs V ρ b ds → @DenDs (V.put σ) (m.env ρ) a ds
  | [], b, ds, h, hd => by cases b <;> simp only [defsMt, Bool.false_eq_true] at h; exact hd
  | x :: l, b, ds, h, hd => by
    cases b <;> simp only [defsMt, Bool.false_eq_true] at h
    split at h
    · rename_i h1
      obtain ⟨d, ds', e1, e2, e3⟩ := hd
      exact ⟨d, ds', e1, SDef.mt_ok h1 e2, defsMt_ok h e3⟩
    · cases h
def esMt (σ : Su) (m : Nm) : List (SV × SV × Nat) → List (SV × SV × Nat) → Bool
  | [], [] => true
  | (k, v, n) :: l, (k', v', n') :: r => match SV.mt σ m k k', SV.mt σ m v v', Nat.beq n n' with
    | true, true, true => esMt σ m l r
    | _, _, _ => false
  | _, _ => false
theorem esMt_ok : ∀ {a b : List (SV × SV × Nat)} {es : List MapEntry}, esMt σ m a b = true → @DenEs V ρ b es → @DenEs (V.put σ) (m.env ρ) a es
  | [], b, es, h, hd => by cases b <;> simp only [esMt, Bool.false_eq_true] at h; exact hd
  | (k, v, n) :: l, b, es, h, hd => by
    cases b with
    | nil => simp only [esMt, Bool.false_eq_true] at h
    | cons y r =>
      obtain ⟨k', v', n'⟩ := y
      simp only [esMt] at h
      split at h
      · rename_i h1 h2 h3
        have e := Nat.eq_of_beq_eq_true h3; subst e
        obtain ⟨x, y, es', e1, e2, e3, e4⟩ := hd
        exact ⟨x, y, es', e1, SV.mt_ok h1 e2, SV.mt_ok h2 e3, esMt_ok h e4⟩
      · cases h
def stEq : LoopState → LoopState → Bool
  | .ready, .ready => true
  | .busy, .busy => true
  | .done, .done => true
  | .exhausted, .exhausted => true
  | _, _ => false
theorem stEq_ok {a b : LoopState} (h : stEq a b = true) : a = b := by
  cases a <;> cases b <;> first | rfl | cases h
def penMt : Option Code → Option Code → Option (List Ob)
  | none, none => some []
  | some c, some d => some [(c, d)]
  | _, _ => none
theorem penMt_ok {a b : Option Code} {l : List Ob} (h : penMt a b = some l) (ho : ObsOk l) : a = b := by
  unfold penMt at h
  split at h <;> cases h
  · rfl
  · rename_i c d
    have e : c = d := ho (c, d) (List.mem_singleton.2 rfl)
    rw [e]
def SLoop.mt (σ : Su) (m : Nm) (a b : SLoop) : Option (List Ob) :=
  match stEq a.state b.state, Nat.beq a.fn b.fn, SV.mtL σ m a.tmps b.tmps, natsEq a.params b.params, m.is a.defers b.defers, penMt a.pending b.pending with
  | true, true, true, true, true, some l => some ((a.assign, b.assign) :: (a.body, b.body) :: l)
  | _, _, _, _, _, _ => none
theorem SLoop.mt_ok {a b : SLoop} {L : Loop} {l : List Ob} (h : SLoop.mt σ m a b = some l) (ho : ObsOk l) (hd : @SLoop.Den V ρ b L) : @SLoop.Den (V.put σ) (m.env ρ) a L := by
  unfold SLoop.mt at h
  split at h <;> cases h
  rename_i l' h1 h2 h3 h4 h5 h6
  have ho1 : a.assign = b.assign := ho _ (List.mem_cons_self ..)
  have ho2 : a.body = b.body := ho _ (List.mem_cons_of_mem _ (List.mem_cons_self ..))
  have ho3 : ObsOk l' := fun p hp => ho p (List.mem_cons_of_mem _ (List.mem_cons_of_mem _ hp))
  exact @SLoop.Den.mk (V.put σ) (m.env ρ) a L (hd.state.trans (stEq_ok h1).symm) (hd.pending.trans (penMt_ok h6 ho3).symm) (hd.fn.trans (Nat.eq_of_beq_eq_true h2).symm) (SV.mtL_ok h3 hd.tmps) (hd.params.trans (natsEq_ok h4).symm) (hd.assign.trans ho1.symm) (hd.body.trans ho2.symm) (Nm.env_of h5 hd.defers)
def SObj.mt (σ : Su) (m : Nm) : SObj → SObj → Option (List Ob)
  | .cells l T, .cells k U => match Nat.beq T U, SV.mtL σ m l k with
    | true, true => some []
    | _, _ => none
  | .row l c e T, .row k d f U => match Nat.beq T U, Nat.beq e f, m.is c d, SV.mtL σ m l k with
    | true, true, true, true => some []
    | _, _, _, _ => none
  | .smap es n, .smap fs k => match Nat.beq n k, esMt σ m es fs with
    | true, true => some []
    | _, _ => none
  | .siter s p, .siter t q => match decide (s = t), Nat.beq p q with
    | true, true => some []
    | _, _ => none
  | .loop l, .loop k => SLoop.mt σ m l k
  | .defs none, .defs none => some []
  | .defs (some l), .defs (some k) => match defsMt σ m l k with
    | true => some []
    | false => none
  | .abs t a r, .abs u b s => match Nat.beq t u, Tms.mtp σ a b, m.isP r s with
    | true, true, true => some []
    | _, _, _ => none
  | _, _ => none
theorem SObj.mt_ok {a b : SObj} {l : List Ob} {x : Nat} {F : Nat → Prop} {w : World} (h : SObj.mt σ m a b = some l) (ho : ObsOk l) (hd : @OD V ρ b x F w) : @OD (V.put σ) (m.env ρ) a x F w := by
  unfold SObj.mt at h
  split at h
  · split at h <;> cases h
    rename_i h1 h2
    have e := Nat.eq_of_beq_eq_true h1; subst e
    obtain ⟨g1, obj, g2, vs, g3, g4⟩ := hd
    exact ⟨g1, obj, g2, vs, SV.mtL_ok h2 g3, g4⟩
  · split at h <;> cases h
    rename_i h1 h2 h3 h4
    have e := Nat.eq_of_beq_eq_true h1; subst e
    have e := Nat.eq_of_beq_eq_true h2; subst e
    obtain ⟨g1, obj, g2, vs, ex, κ, g3, g4, g5, g6⟩ := hd
    exact ⟨g1, obj, g2, vs, ex, κ, SV.mtL_ok h4 g3, Nm.env_of h3 g4, g5, g6⟩
  · split at h <;> cases h
    rename_i h1 h2
    have e := Nat.eq_of_beq_eq_true h1; subst e
    obtain ⟨g1, obj, g2, xs, g3, g4⟩ := hd
    exact ⟨g1, obj, g2, xs, esMt_ok h2 g3, g4⟩
  · split at h <;> cases h
    rename_i h1 h2
    have e := of_decide_eq_true h1; subst e
    have e := Nat.eq_of_beq_eq_true h2; subst e
    exact hd
  · obtain ⟨g1, obj, g2, L, g3, g4⟩ := hd
    exact ⟨g1, obj, g2, L, SLoop.mt_ok h ho g3, g4⟩
  · exact hd
  · split at h <;> cases h
    rename_i h1
    obtain ⟨g1, obj, g2, xs, g3, g4⟩ := hd
    exact ⟨g1, obj, g2, xs, defsMt_ok h1 g3, g4⟩
  · split at h <;> cases h
    rename_i h1 h2 h3
    have e := Nat.eq_of_beq_eq_true h1; subst e
    obtain ⟨rs, g1, g2⟩ := hd
    obtain ⟨r, s, rfl, g3⟩ := Nm.isP_ok h3 g1
    obtain ⟨q, hq⟩ := Tms.mtp_ok (V := V) h2
    rw [hq] at g2
    exact ⟨r, g3, V.weak _ _ _ _ _ _ _ _ g2⟩
  · cases h
theorem SObj.mt_frz {a b : SObj} {l : List Ob} (h : SObj.mt σ m a b = some l) : a.frz = b.frz := by
  unfold SObj.mt at h
  split at h <;> try rfl
  · split at h <;> cases h
    rename_i h1 h2 h3
    have e := Nat.eq_of_beq_eq_true h1; subst e
    rfl
  · cases h
def appO : Option (List Ob) → Option (List Ob) → Option (List Ob)
  | some l, some k => some (l ++ k)
  | _, _ => none
theorem appO_ok {a b : Option (List Ob)} {l : List Ob} (h : appO a b = some l) : ∃ x y, a = some x ∧ b = some y ∧ l = x ++ y := by
  unfold appO at h
  split at h
  · cases h; exact ⟨_, _, rfl, rfl, rfl⟩
  · cases h
def SItem.mt (m : Nm) : SItem → SItem → Option (List Ob)
  | .code c, .code d => some [(c, d)]
  | .inBlock n, .inBlock k => match Nat.beq n k with
    | true => some []
    | false => none
  | .inLoop c, .inLoop d => some [(c, d)]
  | .inScope c, .inScope d => some [(c, d)]
  | .inRegion ops l, .inRegion ops' k => match natsEq l k with
    | true => some [(.region 0 ops false, .region 0 ops' false)]
    | false => none
  | .inRangeFunc h, .inRangeFunc j => match m.is h j with
    | true => some []
    | false => none
  | .endRangeFunc h, .endRangeFunc j => match m.is h j with
    | true => some []
    | false => none
  | .beginRound, .beginRound => some []
  | _, _ => none
theorem SItem.mt_ok {a b : SItem} {i : Item} {l : List Ob} (h : SItem.mt m a b = some l) (ho : ObsOk l) (hd : @SItem.Den V ρ b i) : @SItem.Den (V.put σ) (m.env ρ) a i := by
  unfold SItem.mt at h
  split at h
  · cases h
    have e : _ = _ := ho _ (List.mem_singleton.2 rfl)
    dsimp only at e; subst e; exact hd
  · split at h <;> cases h
    have e := Nat.eq_of_beq_eq_true (by assumption); subst e; exact hd
  · cases h
    have e : _ = _ := ho _ (List.mem_singleton.2 rfl)
    dsimp only at e; subst e; exact hd
  · cases h
    have e : _ = _ := ho _ (List.mem_singleton.2 rfl)
    dsimp only at e; subst e; exact hd
  · split at h <;> cases h
    rename_i h1
    have e := natsEq_ok h1; subst e
    have e : _ = _ := ho _ (List.mem_singleton.2 rfl)
    injection e with _ e
    subst e; exact hd
  · split at h <;> cases h
    obtain ⟨b, e1, e2⟩ := hd
    exact ⟨b, Nm.env_of (by assumption) e1, e2⟩
  · split at h <;> cases h
    obtain ⟨b, e1, e2⟩ := hd
    exact ⟨b, Nm.env_of (by assumption) e1, e2⟩
  · exact hd
  · cases h
def todoMt (m : Nm) : List SItem → List SItem → Option (List Ob)
  | [], [] => some []
  | x :: l, y :: k => appO (SItem.mt m x y) (todoMt m l k)
  | _, _ => none
theorem todoMt_ok : ∀ {a b : List SItem} {is : List Item} {l : List Ob}, todoMt m a b = some l → ObsOk l → @DenIs V ρ b is → @DenIs (V.put σ) (m.env ρ) a is
  | [], b, is, l, h, ho, hd => by cases b <;> simp only [todoMt] at h <;> first | exact hd | cases h
  | x :: r, b, is, l, h, ho, hd => by
    cases b <;> simp only [todoMt] at h
    · cases h
    · obtain ⟨p, q, h1, h2, rfl⟩ := appO_ok h
      obtain ⟨i, is', e1, e2, e3⟩ := hd
      exact ⟨i, is', e1, SItem.mt_ok h1 (obs_app ho).1 e2, todoMt_ok h2 (obs_app ho).2 e3⟩
def pansMt (σ : Su) (m : Nm) : List SPan → List SPan → Bool
  | [], [] => true
  | x :: l, y :: k => match SV.mt σ m x.v y.v, decide (x.recovered = y.recovered) with
    | true, true => pansMt σ m l k
    | _, _ => false
  | _, _ => false
theorem pansMt_ok : ∀ {a b : List SPan} {l : List PanicEntry}, pansMt σ m a b = true → @DenPans V ρ b l → @DenPans (V.put σ) (m.env ρ) a l
  | [], b, l, h, hd => by cases b <;> simp only [pansMt, Bool.false_eq_true] at h; exact hd
  | x :: r, b, l, h, hd => by
    cases b <;> simp only [pansMt, Bool.false_eq_true] at h
    split at h
    · rename_i h1 h2
      have h2 := of_decide_eq_true h2
      obtain ⟨u, l', e1, e2, e3⟩ := hd
      exact ⟨u, l', by rw [h2]; exact e1, SV.mt_ok h1 e2, pansMt_ok h e3⟩
    · cases h
def SMode.mt (σ : Su) (m : Nm) : SMode → SMode → Bool
  | .run, .run => true
  | .returning, .returning => true
  | .panicking l, .panicking k => pansMt σ m l k
  | _, _ => false
theorem SMode.mt_ok {a b : SMode} {x : FrameMode} (h : SMode.mt σ m a b = true) (hd : @SMode.Den V ρ b x) : @SMode.Den (V.put σ) (m.env ρ) a x := by
  unfold SMode.mt at h
  split at h
  · exact hd
  · exact hd
  · obtain ⟨c, e1, e2⟩ := hd
    exact ⟨c, pansMt_ok h e1, e2⟩
  · cases h
def kdEq : CallKind → CallKind → Bool
  | .normal, .normal => true
  | .deferred, .deferred => true
  | _, _ => false
theorem kdEq_ok {a b : CallKind} (h : kdEq a b = true) : a = b := by
  unfold kdEq at h
  split at h <;> first | rfl | cases h
def ohMt (m : Nm) : Option Nat → Option Nat → Bool
  | none, none => true
  | some h, some j => m.is h j
  | _, _ => false
def SFrame.mt (σ : Su) (m : Nm) (a b : SFrame) : Option (List Ob) :=
  match Nat.beq a.fn b.fn, SV.mtL σ m a.tmps b.tmps, defsMt σ m a.defers b.defers, SMode.mt σ m a.mode b.mode, kdEq a.kind b.kind, ohMt m a.round b.round with
  | true, true, true, true, true, true => todoMt m a.todo b.todo
  | _, _, _, _, _, _ => none
theorem SFrame.mt_ok {a b : SFrame} {f : Frame} {l : List Ob} (h : SFrame.mt σ m a b = some l) (ho : ObsOk l) (hd : @SFrame.Den V ρ b f) : @SFrame.Den (V.put σ) (m.env ρ) a f := by
  unfold SFrame.mt at h
  split at h
  · rename_i h1 h2 h3 h4 h5 h6
    refine @SFrame.Den.mk (V.put σ) (m.env ρ) a f (hd.fn.trans (Nat.eq_of_beq_eq_true h1).symm) (SV.mtL_ok h2 hd.tmps) (todoMt_ok h ho hd.todo) (defsMt_ok h3 hd.defers) (SMode.mt_ok h4 hd.mode) (hd.kind.trans (kdEq_ok h5).symm) ?_
    have hr := hd.round
    unfold ohMt at h6
    split at h6
    · rename_i e1 e2
      rw [e1]; rw [e2] at hr; exact hr
    · rename_i x y e1 e2
      rw [e1]; rw [e2] at hr
      obtain ⟨b, g1, g2⟩ := hr
      exact ⟨b, Nm.env_of h6 g1, g2⟩
    · cases h6
  · cases h
def stkMt (σ : Su) (m : Nm) : List SFrame → List SFrame → Option (List Ob)
  | [], [] => some []
  | x :: l, y :: k => appO (SFrame.mt σ m x y) (stkMt σ m l k)
  | _, _ => none
theorem stkMt_ok : ∀ {a b : List SFrame} {fs : List Frame} {l : List Ob}, stkMt σ m a b = some l → ObsOk l → @DenFs V ρ b fs → @DenFs (V.put σ) (m.env ρ) a fs
  | [], b, fs, l, h, ho, hd => by cases b <;> simp only [stkMt] at h <;> first | exact hd | cases h
  | x :: r, b, fs, l, h, ho, hd => by
    cases b <;> simp only [stkMt] at h
    · cases h
    · obtain ⟨p, q, h1, h2, rfl⟩ := appO_ok h
      obtain ⟨i, is', e1, e2, e3⟩ := hd
      exact ⟨i, is', e1, SFrame.mt_ok h1 (obs_app ho).1 e2, stkMt_ok h2 (obs_app ho).2 e3⟩
def entsMt (σ : Su) (m : Nm) (e : Ents) : Ents → Option (List Ob)
  | [] => some []
  | (h, o) :: r => match m.f h with
    | none => none
    | some j => match find e j with
      | none => none
      | some o' => appO (SObj.mt σ m o o') (entsMt σ m e r)
theorem entsMt_ok {e : Ents} : ∀ {r : Ents} {l : List Ob}, entsMt σ m e r = some l → ObsOk l → ∀ h o, find r h = some o → ∃ j o' k, m.f h = some j ∧ find e j = some o' ∧ SObj.mt σ m o o' = some k ∧ ObsOk k
  | [], l, h, ho, i, o, hi => by simp [find] at hi
  | (i, o) :: r, l, h, ho, i', o', hi => by
    unfold entsMt at h
    split at h <;> try (cases h; done)
    rename_i j hj
    split at h <;> try (cases h; done)
    rename_i o2 ho2
    obtain ⟨p, q, h1, h2, rfl⟩ := appO_ok h
    rw [@find_cons ⟨fun _ => 0, fun _ => false, fun _ _ => 0, fun _ _ => false, fun _ _ _ => Abs.no, fun _ _ _ _ _ _ _ _ h => h⟩] at hi
    split at hi
    · rename_i e1
      cases hi
      subst e1
      exact ⟨j, o2, p, hj, ho2, h1, (obs_app ho).1⟩
    · exact entsMt_ok h2 (obs_app ho).2 i' o' hi
def ndS : List (Nat × Nat) → Bool
  | [] => true
  | (_, b) :: l => match (l.all fun p => !(Nat.beq p.2 b)) with
    | true => ndS l
    | false => false
theorem lookN_mem : ∀ {l : List (Nat × Nat)} {h x : Nat}, lookN l h = some x → (h, x) ∈ l
  | [], _, _, h => by cases h
  | (j, u) :: l, h, x, e => by
    unfold lookN at e
    split at e
    · rename_i h1
      cases e
      rw [Nat.eq_of_beq_eq_true h1]
      exact List.mem_cons_self ..
    · exact List.mem_cons_of_mem _ (lookN_mem e)
theorem ndS_ok : ∀ {l : List (Nat × Nat)} {h h' x : Nat}, ndS l = true → lookN l h = some x → lookN l h' = some x → h = h'
  | [], _, _, _, _, e, _ => by cases e
  | (j, u) :: l, h, h', x, hn, e, e' => by
    unfold ndS at hn
    split at hn
    · rename_i ha
      have hu : ∀ {i y}, lookN l i = some y → y ≠ u := fun hi e => by
        have := List.all_eq_true.1 ha _ (lookN_mem hi)
        subst e
        simp at this
      unfold lookN at e e'
      split at e
      · rename_i h1
        cases e
        split at e'
        · rename_i h2
          rw [← Nat.eq_of_beq_eq_true h1, ← Nat.eq_of_beq_eq_true h2]
        · exact absurd rfl (hu e')
      · split at e'
        · cases e'
          exact absurd rfl (hu e)
        · exact ndS_ok hn e e'
    · cases hn
theorem Nm.inj {m : Nm} (hn : ndS m.τ = true) {h h' x : Nat} (e : m.f h = some x) (e' : m.f h' = some x) : h = h' := by
  unfold Nm.f at e e'
  split at e
  · rename_i h1
    cases e
    split at e'
    · cases e'; rfl
    · split at e' <;> try (cases e'; done)
      split at e' <;> cases e'
      rename_i h2
      rw [h1] at h2; cases h2
  · split at e <;> try (cases e; done)
    rename_i j hj
    split at e <;> cases e
    rename_i hx
    split at e'
    · rename_i h2
      cases e'
      rw [h2] at hx; cases hx
    · split at e' <;> try (cases e'; done)
      rename_i j' hj'
      split at e' <;> cases e'
      exact ndS_ok hn hj hj'
def Nm.below (m : Nm) (n : Nat) : Bool := match Nat.ble m.npin n with
  | true => m.τ.all fun p => Nat.blt p.1 n
  | false => false
theorem Nm.below_ok {m : Nm} {n h : Nat} (hb : m.below n = true) (hn : n ≤ h) : m.f h = none := by
  unfold Nm.below at hb
  split at hb
  · rename_i h1
    have h1 := Nat.le_of_ble_eq_true h1
    unfold Nm.f
    split
    · rename_i h2
      have : h + 1 ≤ m.npin := Nat.le_of_ble_eq_true h2
      omega
    · split
      · rename_i j hj
        have := List.all_eq_true.1 hb _ (lookN_mem hj)
        have : h + 1 ≤ n := Nat.le_of_ble_eq_true this
        omega
      · rfl
  · cases hb
def SState.mt (σ : Su) (m : Nm) (C S : SState) : Option (List Ob) :=
  match ndS m.τ, m.below C.next with
  | true, true => appO (SFrame.mt σ m C.top S.top) (appO (stkMt σ m C.stk S.stk) (entsMt σ m S.ents C.ents))
  | _, _ => none
theorem SState.mt_ok {C S : SState} {l : List Ob} (h : SState.mt σ m C S = some l) (ho : ObsOk l) {X : Nat → Prop} {w0 : World} {cs : List Frame} {M : Machine} (hd : @DenS V ρ X w0 (fun _ => True) 0 cs S M) :
    @DenS (V.put σ) (m.env ρ) X w0 (fun _ => True) 0 cs C M := by
  unfold SState.mt at h
  split at h
  · rename_i hn hb
    obtain ⟨p, q, h1, h2, rfl⟩ := appO_ok h
    obtain ⟨r, s, h3, h4, rfl⟩ := appO_ok h2
    obtain ⟨o1, o2⟩ := obs_app ho
    obtain ⟨o3, o4⟩ := obs_app o2
    obtain ⟨fr, frs, w, rfl, g1, g2, ⟨φ, g3⟩, g4⟩ := hd
    have hE := entsMt_ok h4 o4
    refine ⟨fr, frs, w, rfl, SFrame.mt_ok h1 o1 g1, stkMt_ok h3 o3 g2, ⟨fun i x => ∃ j, m.f i = some j ∧ φ j x, @DenHφ.mk (V.put σ) _ _ _ _ _ _ _ ?_ ?_ ?_ ?_ g3.frame g3.size g3.os g3.tape g3.output⟩, ⟨Nat.zero_le _, fun _ _ _ => trivial⟩⟩
    · intro i o hi
      obtain ⟨j, o', k, e1, e2, e3, e4⟩ := hE i o hi
      obtain ⟨b, f1, f2⟩ := g3.obj j o' e2
      refine ⟨b, by unfold Nm.env; rw [e1]; exact f1, ?_⟩
      have hF : (fun x => ∃ j, m.f i = some j ∧ φ j x) = φ j := funext fun x => propext ⟨fun ⟨j', e, hx⟩ => by rw [e1] at e; cases e; exact hx, fun hx => ⟨j, e1, hx⟩⟩
      rw [hF]
      exact SObj.mt_ok e3 e4 f2
    · rintro i i' o o' x hi hi' hz ⟨j, e1, e2⟩ ⟨j', e1', e2'⟩
      obtain ⟨k, p, _, q1, q2, q3, _⟩ := hE i o hi
      obtain ⟨k', p', _, q1', q2', _, _⟩ := hE i' o' hi'
      rw [e1] at q1; cases q1
      rw [e1'] at q1'; cases q1'
      have := g3.apart _ _ _ _ x q2 q2' ((SObj.mt_frz q3).symm.trans hz) e2 e2'
      subst this
      exact Nm.inj hn e1 e1'
    · rintro i o x hi hz ⟨j, e1, e2⟩
      obtain ⟨k, p, _, q1, q2, q3, _⟩ := hE i o hi
      rw [e1] at q1; cases q1
      exact g3.own _ _ x q2 ((SObj.mt_frz q3).symm.trans hz) e2
    · intro i hi
      have : C.next ≤ i := by
        rcases hi.2 with h | h
        · omega
        · exact h
      unfold Nm.env
      rw [Nm.below_ok hb this]; rfl
  · cases h
theorem Nm.env_pin {m : Nm} {ρ : Env} {h : Nat} (hh : h < m.npin) : m.env ρ h = ρ h := by
  unfold Nm.env Nm.f
  rw [show Nat.blt h m.npin = true from Nat.ble_eq_true_of_le hh]
  rfl
end
end Go.Sx
