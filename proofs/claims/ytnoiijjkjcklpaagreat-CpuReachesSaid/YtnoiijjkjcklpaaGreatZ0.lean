/- Parts of the proof: KitLaw, Sx1. -/
import Derived.Test.YtnoiijjkjcklpaaGreatRows
import Derived.Carry
import Derived.WalkKit
import Derived.ProofKit
import Derived.OpenShut
import Derived.Lib.SmallJoins
import Derived.Calls
import Derived.Laws.Sem
import Derived.Laws.World
import Derived.Laws.Cells
import Derived.Laws.Entries
import Derived.Laws.Append
import Derived.Below
import Derived.KernelRfl
/- What a law's row asks behind the call, where the call has made new blocks alone: one theorem for all laws. -/
namespace Go.Cd
open Go Go.ChangeShapes Go.WideShapes Go.ChangeAt Go.RowKit
section
variable {H : Type} {enc : TypeId × Value → H} {P : Program}
theorem trodAll_keep (hl : laidOutB P = true) {W W' : World} (hb : Below W.heap.size W W') : ∀ {ts : List TypeId} {vs : List Value} {ds : List (DataW H)} {ps : List MemPlace},
    (∀ t ∈ ts, P.readableRec t = true ∧ t < P.types.size) → DataW.TrodAll enc P W 0 (fun _ => true) true ts vs ds ps → (∀ x ∈ ps, x.block < W.heap.size) → DataW.TrodAll enc P W' 0 (fun b => decide (b < W.heap.size)) true ts vs ds ps
  | [], _, _, _, _, h, _ => by
    obtain ⟨rfl, rfl, rfl⟩ := trodAll_nil h
    rfl
  | t :: ts, _, _, _, hr, h, hlt => by
    obtain ⟨v, vs', d, ds', p, q, rfl, rfl, rfl, h1, h2⟩ := trodAll_cons h
    refine ⟨p, q, Below.trod hl (hr t (by simp)).1 (hr t (by simp)).2 h1 hb (fun x hx => hlt x (by simp [hx])), trodAll_keep hl hb (fun t' ht => hr t' (by simp [ht])) h2 (fun x hx => hlt x (by simp [hx])), rfl⟩
theorem law_post {f : Func} {s : ChangeSpec} {W W' : World} {args : Array Value} {ds gs : List (DataW H)} {before : List MemPlace} {tb : TypeId} (hl : laidOutB P = true) (hr : ∀ t ∈ f.params.toList, P.readableRec t = true ∧ t < P.types.size)
    (hrt : f.resultTypes = #[tb]) (hub : P.underlying tb = some .bool) (hv : s.vars = [])
    (hW : DataW.Whole enc P f.params.toList s.vars false W args.toList ds gs before)
    (hfn : s.fn H ds = { results := [.lit (.bool true)], args := ds }) (hb : Below W.heap.size W W') :
    s.post enc P f false true false false W args (.bool true) W' := by
  have hlt : ∀ p ∈ before, p.block < W.heap.size := fun p hp => hW.lt p hp
  have hW' := hW
  obtain ⟨p, q, hA, hV, rfl, hfz, hnd⟩ := hW'
  rw [hv] at hV
  obtain ⟨rfl, rfl⟩ := trodVars_none hV
  refine ⟨ds, [], p ++ [], [], p, [], hW, ?_, ?_, ?_, World.keptBut_mono (fun x hx => ⟨hx, Or.inr (Or.inl (by simpa using hx))⟩) (hb.frame (· ∈ p ++ [])), fun h => by cases h⟩
  · rw [hrt, List.append_nil, hfn]
    exact trodAll_cons_mk (shut_bool hub _) trodAll_mk0
  · rw [List.append_nil, hfn]
    exact trodAll_keep hl hb hr hA (fun x hx => hlt x (by simp [hx]))
  · rw [List.append_nil, hfn, hv]
    rfl
end
theorem wf_u32 {a : Int} (h : (Lit.int .u32 a).wf = true) : 0 ≤ a ∧ a < 4294967296 := by
  have h1 : IntKind.u32.min ≤ a ∧ a ≤ IntKind.u32.max := by simpa [Lit.wf] using h
  have e1 : IntKind.u32.min = 0 := by decide
  have e2 : IntKind.u32.max = 4294967295 := by decide
  omega
theorem wf_i64 {a : Int} (h : (Lit.int .i64 a).wf = true) : -9223372036854775808 ≤ a ∧ a < 9223372036854775808 := by
  have h1 : IntKind.i64.min ≤ a ∧ a ≤ IntKind.i64.max := by simpa [Lit.wf] using h
  have e1 : IntKind.i64.min = -9223372036854775808 := by decide
  have e2 : IntKind.i64.max = 9223372036854775807 := by decide
  omega
end Go.Cd
/- Symbolic values, and what they stand for. -/
namespace Go.Sx
set_option linter.unusedSimpArgs false
set_option linter.unusedVariables false
open Go

inductive IOp where
  | add (k : IntKind)
  | sub (k : IntKind)
  | mul (k : IntKind)
  | quo (k : IntKind)
  | rem
  | and (k : IntKind)
  | or (k : IntKind)
  | xor (k : IntKind)
  | andNot (k : IntKind)
  | shl (k : IntKind)
  | shr (k : IntKind)
  deriving DecidableEq
def IOp.f : IOp → Int → Int → Int
  | .add k, x, y => k.wrap (x + y)
  | .sub k, x, y => k.wrap (x - y)
  | .mul k, x, y => k.wrap (x * y)
  | .quo k, x, y => k.wrap (x.tdiv y)
  | .rem, x, y => x.tmod y
  | .and k, x, y => bits .and k x y
  | .or k, x, y => bits .or k x y
  | .xor k, x, y => bits .xor k x y
  | .andNot k, x, y => bits .andNot k x y
  | .shl k, x, y => k.wrap (x * 2 ^ (min y.toNat k.bits))
  | .shr k, x, y => x.fdiv (2 ^ (min y.toNat k.bits))
inductive COp where
  | eq | ne | lt | le | gt | ge
  deriving DecidableEq
def COp.f : COp → Int → Int → Bool
  | .eq, x, y => x == y
  | .ne, x, y => x != y
  | .lt, x, y => decide (x < y)
  | .le, x, y => decide (x ≤ y)
  | .gt, x, y => decide (x > y)
  | .ge, x, y => decide (x ≥ y)
def COp.self : COp → Bool
  | .eq | .le | .ge => true
  | _ => false
inductive UOp where
  | wrap (k : IntKind)
  | neg (k : IntKind)
  | not (k : IntKind)
  deriving DecidableEq
def UOp.f : UOp → Int → Int
  | .wrap k, x => k.wrap x
  | .neg k, x => k.wrap (0 - x)
  | .not k, x => bits .xor k (if k.signed then -1 else k.max) x
inductive LOp where
  | and | or | eq
  deriving DecidableEq
def LOp.f : LOp → Bool → Bool → Bool
  | .and, x, y => x && y
  | .or, x, y => x || y
  | .eq, x, y => x == y
mutual
inductive Tm where
  | var (k : IntKind) (i : Nat)
  | lit (n : Int)
  | op (o : IOp) (a b : Tm)
  | un (o : UOp) (a : Tm)
  | ite (c : Bm) (a b : Tm)
  | sel (l : Tms) (i : Tm)
  | fn (k : IntKind) (f : Nat) (l : Tms)
inductive Tms where
  | nil
  | cons (a : Tm) (l : Tms)
inductive Bm where
  | var (i : Nat)
  | lit (b : Bool)
  | cmp (o : COp) (a b : Tm)
  | lop (o : LOp) (a b : Bm)
  | not (a : Bm)
  | ite (c a b : Bm)
  | fn (f : Nat) (l : Tms)
end
structure Abs where
  P : Nat → (Nat → Prop) → World → Prop
  stable : ∀ b F w w', (∀ x, F x → w'.heap[x]? = w.heap[x]?) → P b F w → P b F w'
  lt : ∀ b F w, P b F w → ∀ x, F x → x < w.heap.size
def Abs.no : Abs := ⟨fun _ _ _ => False, fun _ _ _ _ _ h => h, fun _ _ _ h => h.elim⟩
class Val where
  ints : Nat → Int
  bools : Nat → Bool
  fi : Nat → List Int → Int
  fb : Nat → List Int → Bool
  abs : Nat → List Int → List Nat → Abs
  weak : ∀ t ks ks' rs rs' b F w, (abs t (ks ++ ks') (rs ++ rs')).P b F w → (abs t ks rs).P b F w
mutual
def Tm.v [V : Val] : Tm → Int
  | .var k i => k.wrap (V.ints i)
  | .lit n => n
  | .op o a b => o.f a.v b.v
  | .un o a => o.f a.v
  | .ite c a b => if c.v then a.v else b.v
  | .sel l i => l.v.getD i.v.toNat 0
  | .fn k f l => k.wrap (V.fi f l.v)
def Tms.v [V : Val] : Tms → List Int
  | .nil => []
  | .cons a l => a.v :: l.v
def Bm.v [V : Val] : Bm → Bool
  | .var i => V.bools i
  | .lit b => b
  | .cmp o a b => o.f a.v b.v
  | .lop o a b => o.f a.v b.v
  | .not a => !a.v
  | .ite c a b => if c.v then a.v else b.v
  | .fn f l => V.fb f l.v
end
mutual
def Tm.same : Tm → Tm → Bool
  | .var k i, .var j n => match decide (k = j) with
    | true => Nat.beq i n
    | false => false
  | .lit i, .lit j => decide (i = j)
  | .op o a b, .op p c d => match decide (o = p) with
    | true => match Tm.same a c with
      | true => Tm.same b d
      | false => false
    | false => false
  | .un o a, .un p c => match decide (o = p) with
    | true => Tm.same a c
    | false => false
  | .ite c a b, .ite d e f => match Bm.same c d with
    | true => match Tm.same a e with
      | true => Tm.same b f
      | false => false
    | false => false
  | .sel l i, .sel m j => match Tms.same l m with
    | true => Tm.same i j
    | false => false
  | .fn k f l, .fn j g m => match decide (k = j) with
    | true => match Nat.beq f g with
      | true => Tms.same l m
      | false => false
    | false => false
  | _, _ => false
def Tms.same : Tms → Tms → Bool
  | .nil, .nil => true
  | .cons a l, .cons b m => match Tm.same a b with
    | true => Tms.same l m
    | false => false
  | _, _ => false
def Bm.same : Bm → Bm → Bool
  | .var i, .var j => Nat.beq i j
  | .lit i, .lit j => decide (i = j)
  | .cmp o a b, .cmp p c d => match decide (o = p) with
    | true => match Tm.same a c with
      | true => Tm.same b d
      | false => false
    | false => false
  | .lop o a b, .lop p c d => match decide (o = p) with
    | true => match Bm.same a c with
      | true => Bm.same b d
      | false => false
    | false => false
  | .not a, .not b => Bm.same a b
  | .ite c a b, .ite d e f => match Bm.same c d with
    | true => match Bm.same a e with
      | true => Bm.same b f
      | false => false
    | false => false
  | .fn f l, .fn g m => match Nat.beq f g with
    | true => Tms.same l m
    | false => false
  | _, _ => false
end
mutual
theorem Tm.same_eq : ∀ {a b : Tm}, Tm.same a b = true → a = b
  | .var k i, b, h => by
    cases b <;> simp only [Tm.same, Bool.false_eq_true] at h
    split at h
    · rename_i h1
      rw [of_decide_eq_true h1, Nat.eq_of_beq_eq_true h]
    · cases h
  | .lit i, b, h => by
    cases b <;> simp only [Tm.same, Bool.false_eq_true] at h
    rw [of_decide_eq_true h]
  | .op o a b, x, h => by
    cases x <;> simp only [Tm.same, Bool.false_eq_true] at h
    split at h
    · rename_i h1
      split at h
      · rename_i h2
        rw [of_decide_eq_true h1, Tm.same_eq h2, Tm.same_eq h]
      · cases h
    · cases h
  | .un o a, x, h => by
    cases x <;> simp only [Tm.same, Bool.false_eq_true] at h
    split at h
    · rename_i h1
      rw [of_decide_eq_true h1, Tm.same_eq h]
    · cases h
  | .ite c a b, x, h => by
    cases x <;> simp only [Tm.same, Bool.false_eq_true] at h
    split at h
    · rename_i h1
      split at h
      · rename_i h2
        rw [Bm.same_eq h1, Tm.same_eq h2, Tm.same_eq h]
      · cases h
    · cases h
  | .sel l i, x, h => by
    cases x <;> simp only [Tm.same, Bool.false_eq_true] at h
    split at h
    · rename_i h1
      rw [Tms.same_eq h1, Tm.same_eq h]
    · cases h
  | .fn k f l, x, h => by
    cases x <;> simp only [Tm.same, Bool.false_eq_true] at h
    split at h
    · rename_i h1
      split at h
      · rename_i h2
        rw [of_decide_eq_true h1, Nat.eq_of_beq_eq_true h2, Tms.same_eq h]
      · cases h
    · cases h
theorem Tms.same_eq : ∀ {a b : Tms}, Tms.same a b = true → a = b
  | .nil, b, h => by
    cases b <;> simp only [Tms.same, Bool.false_eq_true] at h
    rfl
  | .cons a l, x, h => by
    cases x <;> simp only [Tms.same, Bool.false_eq_true] at h
    split at h
    · rename_i h1
      rw [Tm.same_eq h1, Tms.same_eq h]
    · cases h
theorem Bm.same_eq : ∀ {a b : Bm}, Bm.same a b = true → a = b
  | .var i, b, h => by
    cases b <;> simp only [Bm.same, Bool.false_eq_true] at h
    rw [Nat.eq_of_beq_eq_true h]
  | .lit i, b, h => by
    cases b <;> simp only [Bm.same, Bool.false_eq_true] at h
    rw [of_decide_eq_true h]
  | .cmp o a b, x, h => by
    cases x <;> simp only [Bm.same, Bool.false_eq_true] at h
    split at h
    · rename_i h1
      split at h
      · rename_i h2
        rw [of_decide_eq_true h1, Tm.same_eq h2, Tm.same_eq h]
      · cases h
    · cases h
  | .lop o a b, x, h => by
    cases x <;> simp only [Bm.same, Bool.false_eq_true] at h
    split at h
    · rename_i h1
      split at h
      · rename_i h2
        rw [of_decide_eq_true h1, Bm.same_eq h2, Bm.same_eq h]
      · cases h
    · cases h
  | .not a, x, h => by
    cases x <;> simp only [Bm.same, Bool.false_eq_true] at h
    rw [Bm.same_eq h]
  | .ite c a b, x, h => by
    cases x <;> simp only [Bm.same, Bool.false_eq_true] at h
    split at h
    · rename_i h1
      split at h
      · rename_i h2
        rw [Bm.same_eq h1, Bm.same_eq h2, Bm.same_eq h]
      · cases h
    · cases h
  | .fn f l, x, h => by
    cases x <;> simp only [Bm.same, Bool.false_eq_true] at h
    split at h
    · rename_i h1
      rw [Nat.eq_of_beq_eq_true h1, Tms.same_eq h]
    · cases h
end
theorem COp.self_f (c : COp) (x : Int) : c.f x x = c.self := by cases c <;> simp [COp.f, COp.self]

abbrev Rg := Option (Int × Int)
def fullR (k : IntKind) : Rg := some (k.min, k.max)
def fitR (k : IntKind) (r : Rg) : Rg :=
  match r with
  | some (l, h) => match decide (k.min ≤ l), decide (h ≤ k.max) with
    | true, true => some (l, h)
    | _, _ => fullR k
  | none => fullR k
def bin2R (f g : Int → Int → Int → Int → Int) : Rg → Rg → Rg
  | some (a, b), some (c, d) => some (f a b c d, g a b c d)
  | _, _ => none
def Rg.has (r : Rg) (x : Int) : Prop := ∀ l h, r = some (l, h) → l ≤ x ∧ x ≤ h
theorem wrap_within' (k : IntKind) (n : Int) : k.min ≤ k.wrap n ∧ k.wrap n ≤ k.max := by
  cases k <;> simp only [IntKind.wrap, IntKind.min, IntKind.max, IntKind.bits, IntKind.signed] <;> simp <;> (try split) <;> omega
theorem wrap_same (k : IntKind) {n : Int} (h : k.min ≤ n) (h' : n ≤ k.max) : k.wrap n = n := by
  cases k <;> simp only [IntKind.wrap, IntKind.min, IntKind.max, IntKind.bits, IntKind.signed] at * <;> simp at * <;> (try split) <;> omega
theorem fullR_has (k : IntKind) (n : Int) : (fullR k).has (k.wrap n) := fun l h e => by
  injection e with e; injection e with e1 e2; subst e1 e2
  exact wrap_within' k n
theorem fitR_has {k : IntKind} {r : Rg} {n : Int} (hr : r.has n) : (fitR k r).has (k.wrap n) := by
  unfold fitR
  split
  · rename_i l h
    split
    · rename_i h1 h2
      obtain ⟨g1, g2⟩ := hr l h rfl
      have := of_decide_eq_true h1
      have := of_decide_eq_true h2
      rw [wrap_same k (by omega) (by omega)]
      exact hr
    · exact fullR_has _ _
  · exact fullR_has _ _
theorem none_has (n : Int) : Rg.has none n := fun _ _ e => by cases e
def hullR : Rg → Rg → Rg
  | some (a, b), some (c, d) => some (match decide (a ≤ c) with | true => a | false => c, match decide (b ≤ d) with | true => d | false => b)
  | _, _ => none
theorem hullR_has {r s : Rg} {n : Int} (h : r.has n ∨ s.has n) : (hullR r s).has n := by
  unfold hullR
  split
  · rename_i a b c d
    intro l u e
    injection e with e; injection e with e1 e2; subst e1 e2
    have : (a ≤ n ∧ n ≤ b) ∨ (c ≤ n ∧ n ≤ d) := h.imp (fun q => q a b rfl) (fun q => q c d rfl)
    constructor
    · split
      · rename_i q; have := of_decide_eq_true q; omega
      · rename_i q; have := of_decide_eq_false q; omega
    · split
      · rename_i q; have := of_decide_eq_true q; omega
      · rename_i q; have := of_decide_eq_false q; omega
  · exact none_has _
def mulR : Rg → Rg → Rg
  | some (a, b), some (c, d) => match decide (0 ≤ a), decide (0 ≤ c) with
    | true, true => some (a * c, b * d)
    | _, _ => none
  | _, _ => none
theorem mulR_has {r s : Rg} {x y : Int} (hx : r.has x) (hy : s.has y) : (mulR r s).has (x * y) := by
  unfold mulR
  split
  · rename_i a b c d
    split
    · rename_i h1 h2
      have h1 := of_decide_eq_true h1
      have h2 := of_decide_eq_true h2
      have g1 := hx a b rfl
      have g2 := hy c d rfl
      intro l h e
      injection e with e; injection e with e1 e2; subst e1 e2
      exact ⟨Int.mul_le_mul g1.1 g2.1 h2 (by omega), Int.mul_le_mul g1.2 g2.2 (by omega) (by omega)⟩
    · exact none_has _
  · exact none_has _
def quoR (m : Int) : Rg → Rg
  | some (a, b) => match decide (0 ≤ a), decide (0 < m) with
    | true, true => some (a / m, b / m)
    | _, _ => none
  | _ => none
theorem quoR_has {r : Rg} {m x : Int} (hx : r.has x) : (quoR m r).has (x.tdiv m) := by
  unfold quoR
  split
  · rename_i a b
    split
    · rename_i h1 h2
      have h1 := of_decide_eq_true h1
      have h2 := of_decide_eq_true h2
      have g1 := hx a b rfl
      intro l h e
      injection e with e; injection e with e1 e2; subst e1 e2
      rw [Int.tdiv_eq_ediv_of_nonneg (by omega)]
      exact ⟨Int.ediv_le_ediv h2 g1.1, Int.ediv_le_ediv h2 g1.2⟩
    · exact none_has _
  · exact none_has _
def shlR' (k : IntKind) : Rg → Rg → Rg
  | some (a, b), some (c, d) => match decide (0 ≤ a), decide (0 ≤ c), decide (d ≤ k.bits) with
    | true, true, true => some (a * 2 ^ c.toNat, b * 2 ^ d.toNat)
    | _, _, _ => none
  | _, _ => none
theorem shlR'_has {k : IntKind} {r s : Rg} {x y : Int} (hx : r.has x) (hy : s.has y) : (shlR' k r s).has (x * 2 ^ (min y.toNat k.bits)) := by
  unfold shlR'
  split
  · rename_i a b c d
    split
    · rename_i h1 h2 h3
      have h1 := of_decide_eq_true h1
      have h2 := of_decide_eq_true h2
      have h3 := of_decide_eq_true h3
      have g1 := hx a b rfl
      have g2 := hy c d rfl
      intro l h e
      injection e with e; injection e with e1 e2; subst e1 e2
      rw [Nat.min_eq_left (by omega)]
      have p1 : (2 : Int) ^ c.toNat ≤ 2 ^ y.toNat := by
        have := Nat.pow_le_pow_right (show 0 < 2 by decide) (show c.toNat ≤ y.toNat by omega)
        exact_mod_cast this
      have p2 : (2 : Int) ^ y.toNat ≤ 2 ^ d.toNat := by
        have := Nat.pow_le_pow_right (show 0 < 2 by decide) (show y.toNat ≤ d.toNat by omega)
        exact_mod_cast this
      have p0 : (0 : Int) < 2 ^ c.toNat := Int.pow_pos (by decide)
      have p3 : (0 : Int) < 2 ^ y.toNat := Int.pow_pos (by decide)
      exact ⟨Int.mul_le_mul g1.1 p1 (by omega) (by omega), Int.mul_le_mul g1.2 p2 (by omega) (by omega)⟩
    · exact none_has _
  · exact none_has _
def IOp.kind : IOp → Option IntKind
  | .add k | .sub k | .mul k | .quo k | .and k | .or k | .xor k | .andNot k | .shl k => some k
  | _ => none
def Tm.rng0 : Tm → Rg
  | .var k _ => fullR k
  | .lit n => some (n, n)
  | .fn k _ _ => fullR k
  | .un (.wrap k) _ => fullR k
  | .un (.neg k) _ => fullR k
  | .un (.not k) _ => fullR k
  | .op o _ _ => match o.kind with
    | some k => fullR k
    | none => none
  | _ => none
theorem Tm.rng0_has [Val] (t : Tm) : t.rng0.has t.v := by
  cases t <;> simp only [Tm.rng0, Tm.v] <;> try exact none_has _
  case var => exact fullR_has _ _
  case lit => intro l h e; injection e with e; injection e with e1 e2; omega
  case fn => exact fullR_has _ _
  case un o a => cases o <;> simp only [Tm.rng0, Tm.v, UOp.f] <;> exact fullR_has _ _
  case op o a b => cases o <;> simp only [IOp.kind, IOp.f] <;> first | exact fullR_has _ _ | exact none_has _
mutual
def Tm.rng : Nat → Tm → Rg
  | 0, t => t.rng0
  | _ + 1, .var k _ => fullR k
  | _ + 1, .lit n => some (n, n)
  | _ + 1, .fn k _ _ => fullR k
  | d + 1, .un (.wrap k) a => fitR k (Tm.rng d a)
  | _ + 1, .un (.neg k) _ => fullR k
  | _ + 1, .un (.not k) _ => fullR k
  | d + 1, .op (.add k) a b => fitR k (bin2R (fun a b c d => a + c) (fun a b c d => b + d) (Tm.rng d a) (Tm.rng d b))
  | d + 1, .op (.sub k) a b => fitR k (bin2R (fun a b c d => a - d) (fun a b c d => b - c) (Tm.rng d a) (Tm.rng d b))
  | d + 1, .op (.and k) _ (.lit m) => match decide (0 ≤ m), decide (m ≤ k.max) with
    | true, true => some (0, m)
    | _, _ => fullR k
  | d + 1, .op (.mul k) a b => fitR k (mulR (Tm.rng d a) (Tm.rng d b))
  | d + 1, .op (.quo k) a (.lit m) => fitR k (quoR m (Tm.rng d a))
  | d + 1, .op (.quo k) _ _ => fullR k
  | d + 1, .op (.and k) _ _ => fullR k
  | d + 1, .op (.or k) _ _ => fullR k
  | d + 1, .op (.xor k) _ _ => fullR k
  | d + 1, .op (.andNot k) _ _ => fullR k
  | d + 1, .op (.shl k) a b => fitR k (shlR' k (Tm.rng d a) (Tm.rng d b))
  | d + 1, .op .rem a (.lit m) => match Tm.rng d a with
    | some (l, _) => match decide (0 ≤ l), decide (0 < m) with
      | true, true => some (0, m - 1)
      | _, _ => none
    | none => none
  | d + 1, .op (.shr k) a (.lit n) => match Tm.rng d a with
    | some (l, h) => match decide (0 ≤ l) with
      | true => some (0, h / 2 ^ (min n.toNat k.bits))
      | false => none
    | none => none
  | _ + 1, .op .rem _ _ => none
  | d + 1, .op (.shr _) a _ => match Tm.rng d a with
    | some (l, h) => match decide (0 ≤ l) with
      | true => some (0, h)
      | false => none
    | none => none
  | d + 1, .ite _ a b => hullR (Tm.rng d a) (Tm.rng d b)
  | d + 1, .sel l _ => Tms.rng d l
termination_by structural _ t => t
def Tms.rng : Nat → Tms → Rg
  | _, .nil => some (0, 0)
  | d, .cons a l => hullR (Tm.rng d a) (Tms.rng d l)
termination_by structural _ t => t
end
theorem and_le {k : IntKind} {x m : Int} (h : 0 ≤ m) (h' : m ≤ k.max) : 0 ≤ bits .and k x m ∧ bits .and k x m ≤ m := by
  have e : bits .and k x m = k.wrap (((BitVec.ofInt k.bits x &&& BitVec.ofInt k.bits m).toNat : Nat) : Int) := rfl
  have h1 : (BitVec.ofInt k.bits x &&& BitVec.ofInt k.bits m).toNat ≤ (BitVec.ofInt k.bits m).toNat := by
    rw [BitVec.toNat_and]; exact Nat.and_le_right
  have h2 : (((BitVec.ofInt k.bits m).toNat : Nat) : Int) ≤ m := by
    rw [BitVec.toNat_ofInt]
    have hN : (0 : Int) ≤ ((2 ^ k.bits : Nat) : Int) := Int.natCast_nonneg _
    have hq := Int.mul_nonneg hN (Int.ediv_nonneg h hN)
    have := Int.emod_add_mul_ediv m ((2 ^ k.bits : Nat) : Int)
    have h3 := Int.emod_nonneg m (b := ((2 ^ k.bits : Nat) : Int)) (by have := Nat.two_pow_pos k.bits; omega)
    omega
  have hk : k.min ≤ 0 := by cases k <;> decide
  rw [e, wrap_same k (by omega) (by omega)]
  omega
mutual
theorem Tm.rng_has [Val] : ∀ (d : Nat) (t : Tm), (Tm.rng d t).has t.v
  | 0, t => by rw [Tm.rng]; exact Tm.rng0_has t
  | d + 1, .var k i => by simp only [Tm.rng, Tm.v]; exact fullR_has _ _
  | d + 1, .lit n => by
    simp only [Tm.rng, Tm.v]
    intro l h e; injection e with e; injection e with e1 e2; omega
  | d + 1, .fn k f l => by simp only [Tm.rng, Tm.v]; exact fullR_has _ _
  | d + 1, .un o a => by
    have ih := Tm.rng_has d a
    cases o
    · simp only [Tm.rng, Tm.v, UOp.f]; exact fitR_has ih
    · simp only [Tm.rng, Tm.v, UOp.f]; exact fullR_has _ _
    · simp only [Tm.rng, Tm.v, UOp.f]; exact fullR_has _ _
  | d + 1, .op o a b => by
    have iha := Tm.rng_has d a
    have ihb := Tm.rng_has d b
    cases o
    case add k =>
      simp only [Tm.rng, Tm.v, IOp.f]
      refine fitR_has fun l h e => ?_
      revert e iha ihb
      cases Tm.rng d a <;> cases Tm.rng d b <;> simp only [bin2R] <;> intro iha ihb e <;> try cases e
      rename_i p q
      have h1 := iha p.1 p.2 rfl
      have h2 := ihb q.1 q.2 rfl
      omega
    case sub k =>
      simp only [Tm.rng, Tm.v, IOp.f]
      refine fitR_has fun l h e => ?_
      revert e iha ihb
      cases Tm.rng d a <;> cases Tm.rng d b <;> simp only [bin2R] <;> intro iha ihb e <;> try cases e
      rename_i p q
      have h1 := iha p.1 p.2 rfl
      have h2 := ihb q.1 q.2 rfl
      omega
    case and k =>
      have hf : (fullR k).has (bits .and k a.v b.v) := fullR_has _ _
      cases b <;> simp only [Tm.rng, Tm.v, IOp.f] <;> try exact hf
      split
      · rename_i h1 h2
        intro l h e
        injection e with e; injection e with e1 e2; subst e1 e2
        exact and_le (of_decide_eq_true h1) (of_decide_eq_true h2)
      · exact hf
    case rem =>
      cases b <;> simp only [Tm.rng, Tm.v, IOp.f] <;> try exact none_has _
      split
      · rename_i m x l h hr
        split
        · rename_i h1 h2
          have h1 := of_decide_eq_true h1
          have h2 := of_decide_eq_true h2
          obtain ⟨g1, g2⟩ := iha _ _ hr
          intro l' h' e
          injection e with e; injection e with e1 e2; subst e1 e2
          have e : a.v.tmod m = a.v % m := Int.tmod_eq_emod_of_nonneg (by omega)
          rw [e]
          have := Int.emod_nonneg a.v (b := m) (by omega)
          have := Int.emod_lt_of_pos a.v h2
          omega
        · exact none_has _
      · exact none_has _
    case mul k =>
      simp only [Tm.rng, Tm.v, IOp.f]
      exact fitR_has (mulR_has iha ihb)
    case quo k =>
      have hf : (fullR k).has (k.wrap (a.v.tdiv b.v)) := fullR_has _ _
      cases b <;> simp only [Tm.rng, Tm.v, IOp.f] <;> try exact hf
      exact fitR_has (quoR_has iha)
    case shl k =>
      simp only [Tm.rng, Tm.v, IOp.f]
      exact fitR_has (shlR'_has iha ihb)
    case shr k =>
      have hf : (match Tm.rng d a with
        | some (l, h) => match decide (0 ≤ l) with
          | true => some (0, h)
          | false => none
        | none => none : Rg).has (a.v.fdiv (2 ^ (min b.v.toNat k.bits))) := by
        split
        · rename_i l h hr
          split
          · rename_i h1
            have h1 := of_decide_eq_true h1
            obtain ⟨g1, g2⟩ := iha _ _ hr
            intro l' h' e
            injection e with e; injection e with e1 e2; subst e1 e2
            have hp : (0 : Int) < 2 ^ (min b.v.toNat k.bits) := Int.pow_pos (by decide)
            rw [Int.fdiv_eq_ediv_of_nonneg _ (by omega)]
            exact ⟨Int.ediv_nonneg (by omega) (by omega), Int.le_trans (Int.ediv_le_self _ (by omega)) g2⟩
          · exact none_has _
        · exact none_has _
      cases b <;> simp only [Tm.rng, Tm.v, IOp.f] <;> try exact hf
      split
      · rename_i m x l h hr
        split
        · rename_i h1
          have h1 := of_decide_eq_true h1
          obtain ⟨g1, g2⟩ := iha _ _ hr
          intro l' h' e
          injection e with e; injection e with e1 e2; subst e1 e2
          have hp : (0 : Int) < 2 ^ (min m.toNat k.bits) := Int.pow_pos (by decide)
          rw [Int.fdiv_eq_ediv_of_nonneg _ (by omega)]
          exact ⟨Int.ediv_nonneg (by omega) (by omega), Int.ediv_le_ediv hp g2⟩
        · exact none_has _
      · exact none_has _
    all_goals
      simp only [Tm.rng, Tm.v, IOp.f]
      exact fullR_has _ _
  | d + 1, .ite c a b => by
    simp only [Tm.rng, Tm.v]
    refine hullR_has ?_
    split
    · exact .inl (Tm.rng_has d a)
    · exact .inr (Tm.rng_has d b)
  | d + 1, .sel l i => by
    simp only [Tm.rng, Tm.v]
    exact Tms.rng_has d l i.v.toNat
theorem Tms.rng_has [Val] : ∀ (d : Nat) (l : Tms) (i : Nat), (Tms.rng d l).has (l.v.getD i 0)
  | d, .nil, i => by
    simp only [Tms.rng, Tms.v]
    intro l h e; injection e with e; injection e with e1 e2; simp; omega
  | d, .cons a l, i => by
    simp only [Tms.rng, Tms.v]
    refine hullR_has ?_
    cases i with
    | zero => exact .inl (Tm.rng_has d a)
    | succ i => exact .inr (by simpa using Tms.rng_has d l i)
end
def Tm.within (t : Tm) (l h : Int) : Bool :=
  match Tm.rng 6 t with
  | some (a, b) => match decide (l ≤ a) with
    | true => decide (b ≤ h)
    | false => false
  | none => false
theorem Tm.within_ok [Val] {t : Tm} {l h : Int} (e : t.within l h = true) : l ≤ t.v ∧ t.v ≤ h := by
  unfold Tm.within at e
  split at e
  · rename_i a b hr
    split at e
    · rename_i h1
      have h1 := of_decide_eq_true h1
      have e := of_decide_eq_true e
      have := Tm.rng_has 6 t _ _ hr
      omega
    · cases e
  · cases e

inductive SI where
  | lit (n : Int)
  | sym (t : Tm)
def SI.tm : SI → Tm
  | .lit n => .lit n
  | .sym t => t
def SI.v [Val] : SI → Int
  | .lit n => n
  | .sym t => t.v
inductive SB where
  | lit (b : Bool)
  | sym (b : Bm)
def SB.bm : SB → Bm
  | .lit b => .lit b
  | .sym b => b
def SB.v [Val] : SB → Bool
  | .lit b => b
  | .sym b => b.v
@[simp] theorem SI.tm_v [Val] (a : SI) : a.tm.v = a.v := by cases a <;> simp [SI.tm, SI.v, Tm.v]
@[simp] theorem SB.bm_v [Val] (a : SB) : a.bm.v = a.v := by cases a <;> simp [SB.bm, SB.v, Bm.v]
inductive SN where
  | lit (n : Nat)
  | sym (t : Tm)
  | env (i : Nat)
  | sub (i k : Nat)
inductive SOff where
  | lit (n : Nat)
  | idx (base stride len : Nat) (i : Tm)
  | raw (base stride len j : Nat) (i : Tm)
  | any
inductive SFn where
  | func (f : FuncId)
  | yield (h : Nat)
inductive SV where
  | any
  | bool (b : SB)
  | int (k : IntKind) (n : SI)
  | str (s : ByteArray)
  | nilp
  | ptr (h : Nat) (o : SOff)
  | nils
  | sl (h : Nat) (o : SOff) (len cap : SN)
  | nilm
  | map (h : Nat)
  | nilf
  | fn (f : SFn) (first captured : List SV)
  | nili
  | iface (t : TypeId) (v : SV)
  | agg (l : List SV)
  | tup (l : List SV)
  | nat (i : Nat)
  | slp (f : Nat) (i : Tm)
  | stp (f : Nat) (i : Tm)

def strF (g : Nat → Int) : ByteArray := ⟨((List.range 256).map fun j => UInt8.ofNat (g j).toNat).toArray⟩
abbrev Env := Nat → Option Nat
def Env.le (ρ ρ' : Env) : Prop := ∀ i x, ρ i = some x → ρ' i = some x
theorem Env.le_refl [Val] (ρ : Env) : ρ.le ρ := fun _ _ h => h
theorem Env.le_trans [Val] {a b c : Env} (h : a.le b) (h' : b.le c) : a.le c := fun i x e => h' i x (h i x e)
def Env.put (ρ : Env) (i x : Nat) : Env := fun j => if j = i then some x else ρ j
theorem Env.le_put [Val] {ρ : Env} {i : Nat} (x : Nat) (h : ρ i = none) : ρ.le (ρ.put i x) := fun j y e => by
  unfold Env.put
  split
  · subst_vars; rw [h] at e; cases e
  · exact e
@[simp] theorem Env.put_same [Val] (ρ : Env) (i x : Nat) : ρ.put i x i = some x := by simp [Env.put]
theorem Env.put_other [Val] (ρ : Env) {i j : Nat} (x : Nat) (h : j ≠ i) : ρ.put i x j = ρ j := by simp [Env.put, h]

def SN.Den [Val] (ρ : Env) : SN → Nat → Prop
  | .lit n, m => m = n
  | .sym t, m => t.v = (m : Int)
  | .env i, m => ρ i = some m
  | .sub i k, m => ∃ x, ρ i = some x ∧ k ≤ x ∧ m = x - k
def SOff.Den [Val] : SOff → Nat → Prop
  | .lit n, m => m = n
  | .idx b s l i, m => m = b + s * i.v.toNat ∧ 0 ≤ i.v ∧ i.v.toNat < l
  | .raw b s l j i, m => m = b + (Val.fi j []).toNat + s * i.v.toNat ∧ 0 ≤ i.v ∧ i.v.toNat < l
  | .any, _ => True
def SFn.Den (ρ : Env) : SFn → Fn → Prop
  | .func f, g => g = .func f
  | .yield h, g => ∃ b, ρ h = some b ∧ g = .yield b
mutual
def SV.Den [Val] (ρ : Env) : SV → Value → Prop
  | .any, _ => True
  | .bool b, v => v = .bool b.v
  | .int k n, v => v = .int k n.v
  | .str s, v => v = .string s
  | .nilp, v => v = .pointer none
  | .ptr h o, v => ∃ b m, ρ h = some b ∧ o.Den m ∧ v = .pointer (some ⟨b, m, none⟩)
  | .nils, v => v = .slice none 0 0
  | .sl h o l c, v => ∃ b m n k, ρ h = some b ∧ o.Den m ∧ l.Den ρ n ∧ c.Den ρ k ∧ n ≤ k ∧ v = .slice (some ⟨b, m, none⟩) n k
  | .nilm, v => v = .map none
  | .map h, v => ∃ b, ρ h = some b ∧ v = .map (some b)
  | .nilf, v => v = .nilFunc
  | .fn f xs ys, v => ∃ g a b, f.Den ρ g ∧ SV.DenL ρ xs a ∧ SV.DenL ρ ys b ∧ v = .func g a.toArray b.toArray
  | .nili, v => v = .nilIface
  | .iface t x, v => ∃ y, SV.Den ρ x y ∧ v = .iface t y
  | .agg l, v => ∃ vs, SV.DenL ρ l vs ∧ v = .agg vs.toArray
  | .tup l, v => ∃ vs, SV.DenL ρ l vs ∧ v = .tuple vs.toArray
  | .nat i, v => ∃ x, ρ i = some x ∧ v = .int .i64 (x : Int)
  | .slp f i, v => ∃ (p : Option Addr) (n c : Nat), v = .slice p n c ∧ (Tm.fn .i64 (f + 2) (.cons i .nil)).v = (n : Int) ∧ (n = 0 ∨ p = some ⟨(Val.fi f [i.v]).toNat, (Val.fi (f + 1) [i.v]).toNat, none⟩)
  | .stp f i, v => v = .string (strF fun j => Val.fi f [i.v, (j : Int)])
def SV.DenL [Val] (ρ : Env) : List SV → List Value → Prop
  | [], vs => vs = []
  | s :: l, vs => ∃ v vs', vs = v :: vs' ∧ SV.Den ρ s v ∧ SV.DenL ρ l vs'
end

theorem SN.Den.mono [Val] {ρ ρ' : Env} (h : ρ.le ρ') : ∀ {n : SN} {m : Nat}, n.Den ρ m → n.Den ρ' m
  | .lit _, _, e => e
  | .sym _, _, e => e
  | .env _, _, e => h _ _ e
  | .sub _ _, _, ⟨x, e1, e2⟩ => ⟨x, h _ _ e1, e2⟩
theorem SFn.Den.mono [Val] {ρ ρ' : Env} (h : ρ.le ρ') : ∀ {f : SFn} {g : Fn}, f.Den ρ g → f.Den ρ' g
  | .func _, _, e => e
  | .yield _, _, ⟨b, e, e'⟩ => ⟨b, h _ _ e, e'⟩
mutual
theorem SV.Den.mono [Val] {ρ ρ' : Env} (h : ρ.le ρ') : ∀ {s : SV} {v : Value}, s.Den ρ v → s.Den ρ' v
  | .any, _, e => by simp [SV.Den]
  | .bool _, _, e => by simpa [SV.Den] using e
  | .int _ _, _, e => by simpa [SV.Den] using e
  | .str _, _, e => by simpa [SV.Den] using e
  | .nilp, _, e => by simpa [SV.Den] using e
  | .ptr _ _, _, e => by
    simp only [SV.Den] at e ⊢
    obtain ⟨b, m, e1, e2, e3⟩ := e
    exact ⟨b, m, h _ _ e1, e2, e3⟩
  | .nils, _, e => by simpa [SV.Den] using e
  | .sl _ _ _ _, _, e => by
    simp only [SV.Den] at e ⊢
    obtain ⟨b, m, n, k, e1, e2, e3, e4, e5, e6⟩ := e
    exact ⟨b, m, n, k, h _ _ e1, e2, e3.mono h, e4.mono h, e5, e6⟩
  | .nilm, _, e => by simpa [SV.Den] using e
  | .map _, _, e => by
    simp only [SV.Den] at e ⊢
    obtain ⟨b, e1, e2⟩ := e
    exact ⟨b, h _ _ e1, e2⟩
  | .nilf, _, e => by simpa [SV.Den] using e
  | .fn f xs ys, _, e => by
    simp only [SV.Den] at e ⊢
    obtain ⟨g, a, b, e1, e2, e3, e4⟩ := e
    exact ⟨g, a, b, e1.mono h, SV.DenL.mono h e2, SV.DenL.mono h e3, e4⟩
  | .nili, _, e => by simpa [SV.Den] using e
  | .iface t x, _, e => by
    simp only [SV.Den] at e ⊢
    obtain ⟨y, e1, e2⟩ := e
    exact ⟨y, SV.Den.mono h e1, e2⟩
  | .agg l, _, e => by
    simp only [SV.Den] at e ⊢
    obtain ⟨vs, e1, e2⟩ := e
    exact ⟨vs, SV.DenL.mono h e1, e2⟩
  | .tup l, _, e => by
    simp only [SV.Den] at e ⊢
    obtain ⟨vs, e1, e2⟩ := e
    exact ⟨vs, SV.DenL.mono h e1, e2⟩
  | .nat i, _, e => by
    simp only [SV.Den] at e ⊢
    obtain ⟨x, e1, e2⟩ := e
    exact ⟨x, h _ _ e1, e2⟩
  | .slp f i, _, e => by
    simp only [SV.Den] at e ⊢
    exact e
  | .stp f i, _, e => by
    simp only [SV.Den] at e ⊢
    exact e
theorem SV.DenL.mono [Val] {ρ ρ' : Env} (h : ρ.le ρ') : ∀ {l : List SV} {vs : List Value}, SV.DenL ρ l vs → SV.DenL ρ' l vs
  | [], _, e => by simpa [SV.DenL] using e
  | s :: l, _, e => by
    simp only [SV.DenL] at e ⊢
    obtain ⟨v, vs', e1, e2, e3⟩ := e
    exact ⟨v, vs', e1, SV.Den.mono h e2, SV.DenL.mono h e3⟩
end

section lists
variable {ρ : Env}
@[simp] theorem denL_nil [Val] {vs : List Value} : SV.DenL ρ [] vs ↔ vs = [] := by simp [SV.DenL]
theorem denL_cons [Val] {s : SV} {l : List SV} {vs : List Value} : SV.DenL ρ (s :: l) vs ↔ ∃ v vs', vs = v :: vs' ∧ s.Den ρ v ∧ SV.DenL ρ l vs' := by simp [SV.DenL]
theorem denL_cons' [Val] {s : SV} {l : List SV} {v : Value} {vs : List Value} : SV.DenL ρ (s :: l) (v :: vs) ↔ s.Den ρ v ∧ SV.DenL ρ l vs := by
  rw [denL_cons]
  constructor
  · rintro ⟨_, _, e, a, b⟩; injection e with e1 e2; subst e1 e2; exact ⟨a, b⟩
  · rintro ⟨a, b⟩; exact ⟨_, _, rfl, a, b⟩
theorem denL_length [Val] : ∀ {l : List SV} {vs : List Value}, SV.DenL ρ l vs → vs.length = l.length
  | [], _, h => by rw [denL_nil] at h; subst h; rfl
  | _ :: _, _, h => by
    obtain ⟨v, vs', rfl, _, h2⟩ := denL_cons.1 h
    simp [denL_length h2]
theorem denL_get [Val] : ∀ {l : List SV} {vs : List Value}, SV.DenL ρ l vs → ∀ {i : Nat} {s : SV}, l[i]? = some s → ∃ v, vs[i]? = some v ∧ s.Den ρ v
  | [], _, _, i, s, e => by simp at e
  | x :: l, _, h, i, s, e => by
    obtain ⟨v, vs', rfl, h1, h2⟩ := denL_cons.1 h
    cases i with
    | zero => simp at e; subst e; exact ⟨v, by simp, h1⟩
    | succ i => simpa using denL_get h2 (by simpa using e)
theorem denL_of_get [Val] : ∀ {l : List SV} {vs : List Value}, vs.length = l.length → (∀ (i : Nat) (s : SV), l[i]? = some s → ∃ v, vs[i]? = some v ∧ s.Den ρ v) → SV.DenL ρ l vs
  | [], [], _, _ => by simp
  | x :: l, v :: vs, hl, h => by
    refine denL_cons'.2 ⟨?_, denL_of_get (by simpa using hl) fun i s e => by simpa using h (i + 1) s (by simpa using e)⟩
    obtain ⟨v', e1, e2⟩ := h 0 x rfl
    simp at e1; subst e1; exact e2
theorem denL_append [Val] : ∀ {l l' : List SV} {vs vs' : List Value}, SV.DenL ρ l vs → SV.DenL ρ l' vs' → SV.DenL ρ (l ++ l') (vs ++ vs')
  | [], _, _, _, h, h' => by rw [denL_nil] at h; subst h; simpa using h'
  | _ :: _, _, _, _, h, h' => by
    obtain ⟨v, vs', rfl, h1, h2⟩ := denL_cons.1 h
    exact denL_cons'.2 ⟨h1, denL_append h2 h'⟩
theorem denL_set [Val] {l : List SV} {vs : List Value} (h : SV.DenL ρ l vs) {s : SV} {v : Value} (hs : s.Den ρ v) (i : Nat) : SV.DenL ρ (l.set i s) (vs.set i v) := by
  have hl := denL_length h
  refine denL_of_get (by simp [hl]) fun j t e => ?_
  rw [List.getElem?_set] at e ⊢
  split at e
  · rename_i hij
    split at e
    · rename_i hlt
      injection e with e; subst e
      exact ⟨v, by subst hij; simp [hl, hlt], hs⟩
    · cases e
  · rename_i hij
    obtain ⟨u, e1, e2⟩ := denL_get h e
    exact ⟨u, by simp [hij, e1], e2⟩
theorem denL_take [Val] : ∀ {l : List SV} {vs : List Value} (n : Nat), SV.DenL ρ l vs → SV.DenL ρ (l.take n) (vs.take n)
  | _, _, 0, _ => by simp
  | [], _, n + 1, h => by rw [denL_nil] at h; subst h; simp
  | _ :: _, _, n + 1, h => by
    obtain ⟨v, vs', rfl, h1, h2⟩ := denL_cons.1 h
    exact denL_cons'.2 ⟨h1, denL_take n h2⟩
theorem denL_drop [Val] : ∀ {l : List SV} {vs : List Value} (n : Nat), SV.DenL ρ l vs → SV.DenL ρ (l.drop n) (vs.drop n)
  | _, _, 0, h => by simpa using h
  | [], _, n + 1, h => by rw [denL_nil] at h; subst h; simp
  | _ :: _, _, n + 1, h => by
    obtain ⟨v, vs', rfl, h1, h2⟩ := denL_cons.1 h
    simpa using denL_drop n h2
theorem denL_map [Val] {α : Type} (f : α → SV) (g : α → Value) : ∀ (l : List α), (∀ x ∈ l, (f x).Den ρ (g x)) → SV.DenL ρ (l.map f) (l.map g)
  | [], _ => by simp
  | x :: l, h => denL_cons'.2 ⟨h x (by simp), denL_map f g l fun y hy => h y (by simp [hy])⟩
theorem denL_replicate_any [Val] (n : Nat) (vs : List Value) (h : vs.length = n) : SV.DenL ρ (List.replicate n .any) vs :=
  denL_of_get (by simp [h]) fun i s e => by
    rw [List.getElem?_replicate] at e
    split at e
    · injection e with e; subst e
      exact ⟨vs[i]'(by omega), by simp, by simp [SV.Den]⟩
    · cases e
end lists

def ofScalar : Value → Option SV
  | .bool b => some (.bool (.lit b))
  | .int k n => some (.int k (.lit n))
  | .string s => some (.str s)
  | .pointer none => some .nilp
  | .slice none 0 0 => some .nils
  | .map none => some .nilm
  | .nilFunc => some .nilf
  | .nilIface => some .nili
  | _ => none
theorem ofScalar_den [Val] {ρ : Env} {v : Value} {s : SV} (h : ofScalar v = some s) : s.Den ρ v := by
  unfold ofScalar at h
  split at h <;> first
    | (injection h with h; subst h; simp [SV.Den, SB.v, SI.v]; done)
    | cases h
def ofScalars : List Value → Option (List SV)
  | [] => some []
  | v :: vs => match ofScalar v with
    | some s => match ofScalars vs with
      | some l => some (s :: l)
      | none => none
    | none => none
theorem ofScalars_den [Val] {ρ : Env} : ∀ {vs : List Value} {l : List SV}, ofScalars vs = some l → SV.DenL ρ l vs
  | [], _, h => by simp [ofScalars] at h; subst h; simp
  | v :: vs, _, h => by
    unfold ofScalars at h
    split at h
    · rename_i s hs
      split at h
      · rename_i l hl
        injection h with h; subst h
        exact denL_cons'.2 ⟨ofScalar_den hs, ofScalars_den hl⟩
      · cases h
    · cases h
def ofVal (v : Value) : Option SV :=
  match v with
  | .agg cs => match ofScalars cs.toList with
    | some l => some (.agg l)
    | none => none
  | .tuple cs => match ofScalars cs.toList with
    | some l => some (.tup l)
    | none => none
  | v => ofScalar v
theorem ofVal_den [Val] {ρ : Env} {v : Value} {s : SV} (h : ofVal v = some s) : s.Den ρ v := by
  unfold ofVal at h
  split at h
  · split at h
    · rename_i cs _ l hl
      injection h with h; subst h
      simp only [SV.Den]
      exact ⟨cs.toList, ofScalars_den hl, by simp⟩
    · cases h
  · split at h
    · rename_i cs _ l hl
      injection h with h; subst h
      simp only [SV.Den]
      exact ⟨cs.toList, ofScalars_den hl, by simp⟩
    · cases h
  · exact ofScalar_den h

def SV.cells : SV → List SV
  | .agg l => l
  | v => [v]
def SV.scalar : SV → Bool
  | .agg _ | .tup _ | .any => false
  | _ => true
theorem scalar_oneCell [Val] {ρ : Env} {s : SV} {v : Value} (hs : s.scalar = true) (h : s.Den ρ v) : v.oneCell' = true ∧ v.cells = #[v] := by
  cases s <;> simp [SV.scalar] at hs <;> simp only [SV.Den] at h
  all_goals first
    | (subst h; exact ⟨rfl, rfl⟩)
    | (obtain ⟨_, h⟩ := h; first
        | (subst h; exact ⟨rfl, rfl⟩)
        | (obtain ⟨_, _, rfl, _⟩ := h; exact ⟨rfl, rfl⟩)
        | (obtain ⟨_, rfl⟩ := h; exact ⟨rfl, rfl⟩)
        | (obtain ⟨_, _, _, rfl⟩ := h; exact ⟨rfl, rfl⟩)
        | (obtain ⟨_, _, _, _, _, rfl⟩ := h; exact ⟨rfl, rfl⟩)
        | (obtain ⟨_, _, _, _, _, _, _, rfl⟩ := h; exact ⟨rfl, rfl⟩)
        | (obtain ⟨_, _, _, _, _, _, _, _, rfl⟩ := h; exact ⟨rfl, rfl⟩))
end Go.Sx
