/- Parts of the proof: KitLaw, Sx1, Kit, KitMap, KitRow, KitHeap. -/
import Derived.Test.YtpooghnemlnopaaRows
import Derived.Carry
import Derived.WalkKit
import Derived.ProofKit
import Derived.OpenShut
import Derived.Lib.SmallJoins
import Derived.Calls
import Derived.Laws.Sem
import Derived.Laws.World
import Derived.Laws.Cells
import Derived.Laws.Entries
import Derived.Laws.Append
import Derived.Below
import Derived.KernelRfl
import Derived.WalkLawsBesides
import Derived.WalkSpells
import Derived.Handy
import Derived.Deep.QuietTactic
import Derived.BigQuiet
import Derived.Laws.EntriesVeiled
import Derived.Deep.RegionHeld3
import Derived.Deep.DrawnRows
import Derived.Lib.Hide
import Derived.Deep.DeepFit
import Derived.Deep.LoopGhost
import Derived.Deep.DeepCutAuto
import Derived.Deep.RegionWith
import Derived.Deep.RegionLaw
import Derived.StillTailTactics
import Derived.MapKept
import Derived.Deep.MidRow
import Derived.RangeFuncRecord
import Derived.RowKit2
/- What a law's row asks behind the call, where the call has made new blocks alone: one theorem for all laws. -/
namespace Go.Cd
open Go Go.ChangeShapes Go.WideShapes Go.ChangeAt Go.RowKit
section
variable {H : Type} {enc : TypeId × Value → H} {P : Program}
theorem trodAll_keep (hl : laidOutB P = true) {W W' : World} (hb : Below W.heap.size W W') : ∀ {ts : List TypeId} {vs : List Value} {ds : List (DataW H)} {ps : List MemPlace},
    (∀ t ∈ ts, P.readableRec t = true ∧ t < P.types.size) → DataW.TrodAll enc P W 0 (fun _ => true) true ts vs ds ps → (∀ x ∈ ps, x.block < W.heap.size) → DataW.TrodAll enc P W' 0 (fun b => decide (b < W.heap.size)) true ts vs ds ps
  | [], _, _, _, _, h, _ => by
    obtain ⟨rfl, rfl, rfl⟩ := trodAll_nil h
    rfl
  | t :: ts, _, _, _, hr, h, hlt => by
    obtain ⟨v, vs', d, ds', p, q, rfl, rfl, rfl, h1, h2⟩ := trodAll_cons h
    refine ⟨p, q, Below.trod hl (hr t (by simp)).1 (hr t (by simp)).2 h1 hb (fun x hx => hlt x (by simp [hx])), trodAll_keep hl hb (fun t' ht => hr t' (by simp [ht])) h2 (fun x hx => hlt x (by simp [hx])), rfl⟩
/-- A law that answered true and made new blocks alone. -/
theorem law_post {f : Func} {s : ChangeSpec} {W W' : World} {args : Array Value} {ds gs : List (DataW H)} {before : List MemPlace} {tb : TypeId} (hl : laidOutB P = true) (hr : ∀ t ∈ f.params.toList, P.readableRec t = true ∧ t < P.types.size)
    (hrt : f.resultTypes = #[tb]) (hub : P.underlying tb = some .bool) (hv : s.vars = [])
    (hW : DataW.Whole enc P f.params.toList s.vars false W args.toList ds gs before)
    (hfn : s.fn H ds = { results := [.lit (.bool true)], args := ds }) (hb : Below W.heap.size W W') :
    s.post enc P f false true false false W args (.bool true) W' := by
  have hlt : ∀ p ∈ before, p.block < W.heap.size := fun p hp => hW.lt p hp
  have hW' := hW
  obtain ⟨p, q, hA, hV, rfl, hfz, hnd⟩ := hW'
  rw [hv] at hV
  obtain ⟨rfl, rfl⟩ := trodVars_none hV
  refine ⟨ds, [], p ++ [], [], p, [], hW, ?_, ?_, ?_, World.keptBut_mono (fun x hx => ⟨hx, Or.inr (Or.inl (by simpa using hx))⟩) (hb.frame (· ∈ p ++ [])), fun h => by cases h⟩
  · rw [hrt, List.append_nil, hfn]
    exact trodAll_cons_mk (shut_bool hub _) trodAll_mk0
  · rw [List.append_nil, hfn]
    exact trodAll_keep hl hb hr hA (fun x hx => hlt x (by simp [hx]))
  · rw [List.append_nil, hfn, hv]
    rfl
end
theorem wf_u32 {a : Int} (h : (Lit.int .u32 a).wf = true) : 0 ≤ a ∧ a < 4294967296 := by
  have h1 : IntKind.u32.min ≤ a ∧ a ≤ IntKind.u32.max := by simpa [Lit.wf] using h
  have e1 : IntKind.u32.min = 0 := by decide
  have e2 : IntKind.u32.max = 4294967295 := by decide
  omega
theorem wf_i64 {a : Int} (h : (Lit.int .i64 a).wf = true) : -9223372036854775808 ≤ a ∧ a < 9223372036854775808 := by
  have h1 : IntKind.i64.min ≤ a ∧ a ≤ IntKind.i64.max := by simpa [Lit.wf] using h
  have e1 : IntKind.i64.min = -9223372036854775808 := by decide
  have e2 : IntKind.i64.max = 9223372036854775807 := by decide
  omega
end Go.Cd
/- Symbolic values, and what they stand for. -/
namespace Go.Sx
set_option linter.unusedSimpArgs false
set_option linter.unusedVariables false
open Go

/-! Terms. -/
inductive IOp where
  | add (k : IntKind)
  | sub (k : IntKind)
  | mul (k : IntKind)
  | quo (k : IntKind)
  | rem
  | and (k : IntKind)
  | or (k : IntKind)
  | xor (k : IntKind)
  | andNot (k : IntKind)
  | shl (k : IntKind)
  | shr (k : IntKind)
  deriving DecidableEq
def IOp.f : IOp → Int → Int → Int
  | .add k, x, y => k.wrap (x + y)
  | .sub k, x, y => k.wrap (x - y)
  | .mul k, x, y => k.wrap (x * y)
  | .quo k, x, y => k.wrap (x.tdiv y)
  | .rem, x, y => x.tmod y
  | .and k, x, y => bits .and k x y
  | .or k, x, y => bits .or k x y
  | .xor k, x, y => bits .xor k x y
  | .andNot k, x, y => bits .andNot k x y
  | .shl k, x, y => k.wrap (x * 2 ^ (min y.toNat k.bits))
  | .shr k, x, y => x.fdiv (2 ^ (min y.toNat k.bits))
inductive COp where
  | eq | ne | lt | le | gt | ge
  deriving DecidableEq
def COp.f : COp → Int → Int → Bool
  | .eq, x, y => x == y
  | .ne, x, y => x != y
  | .lt, x, y => decide (x < y)
  | .le, x, y => decide (x ≤ y)
  | .gt, x, y => decide (x > y)
  | .ge, x, y => decide (x ≥ y)
/-- What a number compared with itself says. -/
def COp.self : COp → Bool
  | .eq | .le | .ge => true
  | _ => false
inductive UOp where
  | wrap (k : IntKind)
  | neg (k : IntKind)
  | not (k : IntKind)
  deriving DecidableEq
def UOp.f : UOp → Int → Int
  | .wrap k, x => k.wrap x
  | .neg k, x => k.wrap (0 - x)
  | .not k, x => bits .xor k (if k.signed then -1 else k.max) x
inductive LOp where
  | and | or | eq
  deriving DecidableEq
def LOp.f : LOp → Bool → Bool → Bool
  | .and, x, y => x && y
  | .or, x, y => x || y
  | .eq, x, y => x == y
mutual
inductive Tm where
  | var (k : IntKind) (i : Nat)
  | lit (n : Int)
  | op (o : IOp) (a b : Tm)
  | un (o : UOp) (a : Tm)
  | ite (c : Bm) (a b : Tm)
  | sel (l : Tms) (i : Tm)
  | fn (k : IntKind) (f : Nat) (l : Tms)
inductive Tms where
  | nil
  | cons (a : Tm) (l : Tms)
inductive Bm where
  | var (i : Nat)
  | lit (b : Bool)
  | cmp (o : COp) (a b : Tm)
  | lop (o : LOp) (a b : Bm)
  | not (a : Bm)
  | ite (c a b : Bm)
  | fn (f : Nat) (l : Tms)
end
/-- What the letters and the named functions of terms stand for. -/
class Val where
  ints : Nat → Int
  bools : Nat → Bool
  fi : Nat → List Int → Int
  fb : Nat → List Int → Bool
mutual
def Tm.v [V : Val] : Tm → Int
  | .var k i => k.wrap (V.ints i)
  | .lit n => n
  | .op o a b => o.f a.v b.v
  | .un o a => o.f a.v
  | .ite c a b => if c.v then a.v else b.v
  | .sel l i => l.v.getD i.v.toNat 0
  | .fn k f l => k.wrap (V.fi f l.v)
def Tms.v [V : Val] : Tms → List Int
  | .nil => []
  | .cons a l => a.v :: l.v
def Bm.v [V : Val] : Bm → Bool
  | .var i => V.bools i
  | .lit b => b
  | .cmp o a b => o.f a.v b.v
  | .lop o a b => o.f a.v b.v
  | .not a => !a.v
  | .ite c a b => if c.v then a.v else b.v
  | .fn f l => V.fb f l.v
end
mutual
def Tm.same : Tm → Tm → Bool
  | .var k i, .var j n => match decide (k = j) with
    | true => Nat.beq i n
    | false => false
  | .lit i, .lit j => decide (i = j)
  | .op o a b, .op p c d => match decide (o = p) with
    | true => match Tm.same a c with
      | true => Tm.same b d
      | false => false
    | false => false
  | .un o a, .un p c => match decide (o = p) with
    | true => Tm.same a c
    | false => false
  | .ite c a b, .ite d e f => match Bm.same c d with
    | true => match Tm.same a e with
      | true => Tm.same b f
      | false => false
    | false => false
  | .sel l i, .sel m j => match Tms.same l m with
    | true => Tm.same i j
    | false => false
  | .fn k f l, .fn j g m => match decide (k = j) with
    | true => match Nat.beq f g with
      | true => Tms.same l m
      | false => false
    | false => false
  | _, _ => false
def Tms.same : Tms → Tms → Bool
  | .nil, .nil => true
  | .cons a l, .cons b m => match Tm.same a b with
    | true => Tms.same l m
    | false => false
  | _, _ => false
def Bm.same : Bm → Bm → Bool
  | .var i, .var j => Nat.beq i j
  | .lit i, .lit j => decide (i = j)
  | .cmp o a b, .cmp p c d => match decide (o = p) with
    | true => match Tm.same a c with
      | true => Tm.same b d
      | false => false
    | false => false
  | .lop o a b, .lop p c d => match decide (o = p) with
    | true => match Bm.same a c with
      | true => Bm.same b d
      | false => false
    | false => false
  | .not a, .not b => Bm.same a b
  | .ite c a b, .ite d e f => match Bm.same c d with
    | true => match Bm.same a e with
      | true => Bm.same b f
      | false => false
    | false => false
  | .fn f l, .fn g m => match Nat.beq f g with
    | true => Tms.same l m
    | false => false
  | _, _ => false
end
mutual
theorem Tm.same_eq : ∀ {a b : Tm}, Tm.same a b = true → a = b
  | .var k i, b, h => by
    cases b <;> simp only [Tm.same, Bool.false_eq_true] at h
    split at h
    · rename_i h1
      rw [of_decide_eq_true h1, Nat.eq_of_beq_eq_true h]
    · cases h
  | .lit i, b, h => by
    cases b <;> simp only [Tm.same, Bool.false_eq_true] at h
    rw [of_decide_eq_true h]
  | .op o a b, x, h => by
    cases x <;> simp only [Tm.same, Bool.false_eq_true] at h
    split at h
    · rename_i h1
      split at h
      · rename_i h2
        rw [of_decide_eq_true h1, Tm.same_eq h2, Tm.same_eq h]
      · cases h
    · cases h
  | .un o a, x, h => by
    cases x <;> simp only [Tm.same, Bool.false_eq_true] at h
    split at h
    · rename_i h1
      rw [of_decide_eq_true h1, Tm.same_eq h]
    · cases h
  | .ite c a b, x, h => by
    cases x <;> simp only [Tm.same, Bool.false_eq_true] at h
    split at h
    · rename_i h1
      split at h
      · rename_i h2
        rw [Bm.same_eq h1, Tm.same_eq h2, Tm.same_eq h]
      · cases h
    · cases h
  | .sel l i, x, h => by
    cases x <;> simp only [Tm.same, Bool.false_eq_true] at h
    split at h
    · rename_i h1
      rw [Tms.same_eq h1, Tm.same_eq h]
    · cases h
  | .fn k f l, x, h => by
    cases x <;> simp only [Tm.same, Bool.false_eq_true] at h
    split at h
    · rename_i h1
      split at h
      · rename_i h2
        rw [of_decide_eq_true h1, Nat.eq_of_beq_eq_true h2, Tms.same_eq h]
      · cases h
    · cases h
theorem Tms.same_eq : ∀ {a b : Tms}, Tms.same a b = true → a = b
  | .nil, b, h => by
    cases b <;> simp only [Tms.same, Bool.false_eq_true] at h
    rfl
  | .cons a l, x, h => by
    cases x <;> simp only [Tms.same, Bool.false_eq_true] at h
    split at h
    · rename_i h1
      rw [Tm.same_eq h1, Tms.same_eq h]
    · cases h
theorem Bm.same_eq : ∀ {a b : Bm}, Bm.same a b = true → a = b
  | .var i, b, h => by
    cases b <;> simp only [Bm.same, Bool.false_eq_true] at h
    rw [Nat.eq_of_beq_eq_true h]
  | .lit i, b, h => by
    cases b <;> simp only [Bm.same, Bool.false_eq_true] at h
    rw [of_decide_eq_true h]
  | .cmp o a b, x, h => by
    cases x <;> simp only [Bm.same, Bool.false_eq_true] at h
    split at h
    · rename_i h1
      split at h
      · rename_i h2
        rw [of_decide_eq_true h1, Tm.same_eq h2, Tm.same_eq h]
      · cases h
    · cases h
  | .lop o a b, x, h => by
    cases x <;> simp only [Bm.same, Bool.false_eq_true] at h
    split at h
    · rename_i h1
      split at h
      · rename_i h2
        rw [of_decide_eq_true h1, Bm.same_eq h2, Bm.same_eq h]
      · cases h
    · cases h
  | .not a, x, h => by
    cases x <;> simp only [Bm.same, Bool.false_eq_true] at h
    rw [Bm.same_eq h]
  | .ite c a b, x, h => by
    cases x <;> simp only [Bm.same, Bool.false_eq_true] at h
    split at h
    · rename_i h1
      split at h
      · rename_i h2
        rw [Bm.same_eq h1, Bm.same_eq h2, Bm.same_eq h]
      · cases h
    · cases h
  | .fn f l, x, h => by
    cases x <;> simp only [Bm.same, Bool.false_eq_true] at h
    split at h
    · rename_i h1
      rw [Nat.eq_of_beq_eq_true h1, Tms.same_eq h]
    · cases h
end
theorem COp.self_f (c : COp) (x : Int) : c.f x x = c.self := by cases c <;> simp [COp.f, COp.self]

/-! Bounds. -/
abbrev Rg := Option (Int × Int)
def fullR (k : IntKind) : Rg := some (k.min, k.max)
def fitR (k : IntKind) (r : Rg) : Rg :=
  match r with
  | some (l, h) => match decide (k.min ≤ l), decide (h ≤ k.max) with
    | true, true => some (l, h)
    | _, _ => fullR k
  | none => fullR k
def bin2R (f g : Int → Int → Int → Int → Int) : Rg → Rg → Rg
  | some (a, b), some (c, d) => some (f a b c d, g a b c d)
  | _, _ => none
def Rg.has (r : Rg) (x : Int) : Prop := ∀ l h, r = some (l, h) → l ≤ x ∧ x ≤ h
theorem wrap_within' (k : IntKind) (n : Int) : k.min ≤ k.wrap n ∧ k.wrap n ≤ k.max := by
  cases k <;> simp only [IntKind.wrap, IntKind.min, IntKind.max, IntKind.bits, IntKind.signed] <;> simp <;> (try split) <;> omega
theorem wrap_same (k : IntKind) {n : Int} (h : k.min ≤ n) (h' : n ≤ k.max) : k.wrap n = n := by
  cases k <;> simp only [IntKind.wrap, IntKind.min, IntKind.max, IntKind.bits, IntKind.signed] at * <;> simp at * <;> (try split) <;> omega
theorem fullR_has (k : IntKind) (n : Int) : (fullR k).has (k.wrap n) := fun l h e => by
  injection e with e; injection e with e1 e2; subst e1 e2
  exact wrap_within' k n
theorem fitR_has {k : IntKind} {r : Rg} {n : Int} (hr : r.has n) : (fitR k r).has (k.wrap n) := by
  unfold fitR
  split
  · rename_i l h
    split
    · rename_i h1 h2
      obtain ⟨g1, g2⟩ := hr l h rfl
      have := of_decide_eq_true h1
      have := of_decide_eq_true h2
      rw [wrap_same k (by omega) (by omega)]
      exact hr
    · exact fullR_has _ _
  · exact fullR_has _ _
theorem none_has (n : Int) : Rg.has none n := fun _ _ e => by cases e
def hullR : Rg → Rg → Rg
  | some (a, b), some (c, d) => some (match decide (a ≤ c) with | true => a | false => c, match decide (b ≤ d) with | true => d | false => b)
  | _, _ => none
theorem hullR_has {r s : Rg} {n : Int} (h : r.has n ∨ s.has n) : (hullR r s).has n := by
  unfold hullR
  split
  · rename_i a b c d
    intro l u e
    injection e with e; injection e with e1 e2; subst e1 e2
    have : (a ≤ n ∧ n ≤ b) ∨ (c ≤ n ∧ n ≤ d) := h.imp (fun q => q a b rfl) (fun q => q c d rfl)
    constructor
    · split
      · rename_i q; have := of_decide_eq_true q; omega
      · rename_i q; have := of_decide_eq_false q; omega
    · split
      · rename_i q; have := of_decide_eq_true q; omega
      · rename_i q; have := of_decide_eq_false q; omega
  · exact none_has _
def mulR : Rg → Rg → Rg
  | some (a, b), some (c, d) => match decide (0 ≤ a), decide (0 ≤ c) with
    | true, true => some (a * c, b * d)
    | _, _ => none
  | _, _ => none
theorem mulR_has {r s : Rg} {x y : Int} (hx : r.has x) (hy : s.has y) : (mulR r s).has (x * y) := by
  unfold mulR
  split
  · rename_i a b c d
    split
    · rename_i h1 h2
      have h1 := of_decide_eq_true h1
      have h2 := of_decide_eq_true h2
      have g1 := hx a b rfl
      have g2 := hy c d rfl
      intro l h e
      injection e with e; injection e with e1 e2; subst e1 e2
      exact ⟨Int.mul_le_mul g1.1 g2.1 h2 (by omega), Int.mul_le_mul g1.2 g2.2 (by omega) (by omega)⟩
    · exact none_has _
  · exact none_has _
def quoR (m : Int) : Rg → Rg
  | some (a, b) => match decide (0 ≤ a), decide (0 < m) with
    | true, true => some (a / m, b / m)
    | _, _ => none
  | _ => none
theorem quoR_has {r : Rg} {m x : Int} (hx : r.has x) : (quoR m r).has (x.tdiv m) := by
  unfold quoR
  split
  · rename_i a b
    split
    · rename_i h1 h2
      have h1 := of_decide_eq_true h1
      have h2 := of_decide_eq_true h2
      have g1 := hx a b rfl
      intro l h e
      injection e with e; injection e with e1 e2; subst e1 e2
      rw [Int.tdiv_eq_ediv_of_nonneg (by omega)]
      exact ⟨Int.ediv_le_ediv h2 g1.1, Int.ediv_le_ediv h2 g1.2⟩
    · exact none_has _
  · exact none_has _
def shlR' (k : IntKind) : Rg → Rg → Rg
  | some (a, b), some (c, d) => match decide (0 ≤ a), decide (0 ≤ c), decide (d ≤ k.bits) with
    | true, true, true => some (a * 2 ^ c.toNat, b * 2 ^ d.toNat)
    | _, _, _ => none
  | _, _ => none
theorem shlR'_has {k : IntKind} {r s : Rg} {x y : Int} (hx : r.has x) (hy : s.has y) : (shlR' k r s).has (x * 2 ^ (min y.toNat k.bits)) := by
  unfold shlR'
  split
  · rename_i a b c d
    split
    · rename_i h1 h2 h3
      have h1 := of_decide_eq_true h1
      have h2 := of_decide_eq_true h2
      have h3 := of_decide_eq_true h3
      have g1 := hx a b rfl
      have g2 := hy c d rfl
      intro l h e
      injection e with e; injection e with e1 e2; subst e1 e2
      rw [Nat.min_eq_left (by omega)]
      have p1 : (2 : Int) ^ c.toNat ≤ 2 ^ y.toNat := by
        have := Nat.pow_le_pow_right (show 0 < 2 by decide) (show c.toNat ≤ y.toNat by omega)
        exact_mod_cast this
      have p2 : (2 : Int) ^ y.toNat ≤ 2 ^ d.toNat := by
        have := Nat.pow_le_pow_right (show 0 < 2 by decide) (show y.toNat ≤ d.toNat by omega)
        exact_mod_cast this
      have p0 : (0 : Int) < 2 ^ c.toNat := Int.pow_pos (by decide)
      have p3 : (0 : Int) < 2 ^ y.toNat := Int.pow_pos (by decide)
      exact ⟨Int.mul_le_mul g1.1 p1 (by omega) (by omega), Int.mul_le_mul g1.2 p2 (by omega) (by omega)⟩
    · exact none_has _
  · exact none_has _
mutual
def Tm.rng : Nat → Tm → Rg
  | 0, _ => none
  | _ + 1, .var k _ => fullR k
  | _ + 1, .lit n => some (n, n)
  | _ + 1, .fn k _ _ => fullR k
  | d + 1, .un (.wrap k) a => fitR k (Tm.rng d a)
  | _ + 1, .un (.neg k) _ => fullR k
  | _ + 1, .un (.not k) _ => fullR k
  | d + 1, .op (.add k) a b => fitR k (bin2R (fun a b c d => a + c) (fun a b c d => b + d) (Tm.rng d a) (Tm.rng d b))
  | d + 1, .op (.sub k) a b => fitR k (bin2R (fun a b c d => a - d) (fun a b c d => b - c) (Tm.rng d a) (Tm.rng d b))
  | d + 1, .op (.and k) _ (.lit m) => match decide (0 ≤ m), decide (m ≤ k.max) with
    | true, true => some (0, m)
    | _, _ => fullR k
  | d + 1, .op (.mul k) a b => fitR k (mulR (Tm.rng d a) (Tm.rng d b))
  | d + 1, .op (.quo k) a (.lit m) => fitR k (quoR m (Tm.rng d a))
  | d + 1, .op (.quo k) _ _ => fullR k
  | d + 1, .op (.and k) _ _ => fullR k
  | d + 1, .op (.or k) _ _ => fullR k
  | d + 1, .op (.xor k) _ _ => fullR k
  | d + 1, .op (.andNot k) _ _ => fullR k
  | d + 1, .op (.shl k) a b => fitR k (shlR' k (Tm.rng d a) (Tm.rng d b))
  | d + 1, .op .rem a (.lit m) => match Tm.rng d a with
    | some (l, _) => match decide (0 ≤ l), decide (0 < m) with
      | true, true => some (0, m - 1)
      | _, _ => none
    | none => none
  | d + 1, .op (.shr k) a (.lit n) => match Tm.rng d a with
    | some (l, h) => match decide (0 ≤ l) with
      | true => some (0, h / 2 ^ (min n.toNat k.bits))
      | false => none
    | none => none
  | _ + 1, .op .rem _ _ => none
  | d + 1, .op (.shr _) a _ => match Tm.rng d a with
    | some (l, h) => match decide (0 ≤ l) with
      | true => some (0, h)
      | false => none
    | none => none
  | d + 1, .ite _ a b => hullR (Tm.rng d a) (Tm.rng d b)
  | d + 1, .sel l _ => Tms.rng d l
def Tms.rng : Nat → Tms → Rg
  | 0, _ => none
  | _ + 1, .nil => some (0, 0)
  | d + 1, .cons a l => hullR (Tm.rng d a) (Tms.rng d l)
end
theorem and_le {k : IntKind} {x m : Int} (h : 0 ≤ m) (h' : m ≤ k.max) : 0 ≤ bits .and k x m ∧ bits .and k x m ≤ m := by
  have e : bits .and k x m = k.wrap (((BitVec.ofInt k.bits x &&& BitVec.ofInt k.bits m).toNat : Nat) : Int) := rfl
  have h1 : (BitVec.ofInt k.bits x &&& BitVec.ofInt k.bits m).toNat ≤ (BitVec.ofInt k.bits m).toNat := by
    rw [BitVec.toNat_and]; exact Nat.and_le_right
  have h2 : (((BitVec.ofInt k.bits m).toNat : Nat) : Int) ≤ m := by
    rw [BitVec.toNat_ofInt]
    have hN : (0 : Int) ≤ ((2 ^ k.bits : Nat) : Int) := Int.natCast_nonneg _
    have hq := Int.mul_nonneg hN (Int.ediv_nonneg h hN)
    have := Int.emod_add_mul_ediv m ((2 ^ k.bits : Nat) : Int)
    have h3 := Int.emod_nonneg m (b := ((2 ^ k.bits : Nat) : Int)) (by have := Nat.two_pow_pos k.bits; omega)
    omega
  have hk : k.min ≤ 0 := by cases k <;> decide
  rw [e, wrap_same k (by omega) (by omega)]
  omega
mutual
theorem Tm.rng_has [Val] : ∀ (d : Nat) (t : Tm), (Tm.rng d t).has t.v
  | 0, t => by cases t <;> exact none_has _
  | d + 1, .var k i => by simp only [Tm.rng, Tm.v]; exact fullR_has _ _
  | d + 1, .lit n => by
    simp only [Tm.rng, Tm.v]
    intro l h e; injection e with e; injection e with e1 e2; omega
  | d + 1, .fn k f l => by simp only [Tm.rng, Tm.v]; exact fullR_has _ _
  | d + 1, .un o a => by
    have ih := Tm.rng_has d a
    cases o
    · simp only [Tm.rng, Tm.v, UOp.f]; exact fitR_has ih
    · simp only [Tm.rng, Tm.v, UOp.f]; exact fullR_has _ _
    · simp only [Tm.rng, Tm.v, UOp.f]; exact fullR_has _ _
  | d + 1, .op o a b => by
    have iha := Tm.rng_has d a
    have ihb := Tm.rng_has d b
    cases o
    case add k =>
      simp only [Tm.rng, Tm.v, IOp.f]
      refine fitR_has fun l h e => ?_
      revert e iha ihb
      cases Tm.rng d a <;> cases Tm.rng d b <;> simp only [bin2R] <;> intro iha ihb e <;> try cases e
      rename_i p q
      have h1 := iha p.1 p.2 rfl
      have h2 := ihb q.1 q.2 rfl
      omega
    case sub k =>
      simp only [Tm.rng, Tm.v, IOp.f]
      refine fitR_has fun l h e => ?_
      revert e iha ihb
      cases Tm.rng d a <;> cases Tm.rng d b <;> simp only [bin2R] <;> intro iha ihb e <;> try cases e
      rename_i p q
      have h1 := iha p.1 p.2 rfl
      have h2 := ihb q.1 q.2 rfl
      omega
    case and k =>
      have hf : (fullR k).has (bits .and k a.v b.v) := fullR_has _ _
      cases b <;> simp only [Tm.rng, Tm.v, IOp.f] <;> try exact hf
      split
      · rename_i h1 h2
        intro l h e
        injection e with e; injection e with e1 e2; subst e1 e2
        exact and_le (of_decide_eq_true h1) (of_decide_eq_true h2)
      · exact hf
    case rem =>
      cases b <;> simp only [Tm.rng, Tm.v, IOp.f] <;> try exact none_has _
      split
      · rename_i m x l h hr
        split
        · rename_i h1 h2
          have h1 := of_decide_eq_true h1
          have h2 := of_decide_eq_true h2
          obtain ⟨g1, g2⟩ := iha _ _ hr
          intro l' h' e
          injection e with e; injection e with e1 e2; subst e1 e2
          have e : a.v.tmod m = a.v % m := Int.tmod_eq_emod_of_nonneg (by omega)
          rw [e]
          have := Int.emod_nonneg a.v (b := m) (by omega)
          have := Int.emod_lt_of_pos a.v h2
          omega
        · exact none_has _
      · exact none_has _
    case mul k =>
      simp only [Tm.rng, Tm.v, IOp.f]
      exact fitR_has (mulR_has iha ihb)
    case quo k =>
      have hf : (fullR k).has (k.wrap (a.v.tdiv b.v)) := fullR_has _ _
      cases b <;> simp only [Tm.rng, Tm.v, IOp.f] <;> try exact hf
      exact fitR_has (quoR_has iha)
    case shl k =>
      simp only [Tm.rng, Tm.v, IOp.f]
      exact fitR_has (shlR'_has iha ihb)
    case shr k =>
      have hf : (match Tm.rng d a with
        | some (l, h) => match decide (0 ≤ l) with
          | true => some (0, h)
          | false => none
        | none => none : Rg).has (a.v.fdiv (2 ^ (min b.v.toNat k.bits))) := by
        split
        · rename_i l h hr
          split
          · rename_i h1
            have h1 := of_decide_eq_true h1
            obtain ⟨g1, g2⟩ := iha _ _ hr
            intro l' h' e
            injection e with e; injection e with e1 e2; subst e1 e2
            have hp : (0 : Int) < 2 ^ (min b.v.toNat k.bits) := Int.pow_pos (by decide)
            rw [Int.fdiv_eq_ediv_of_nonneg _ (by omega)]
            exact ⟨Int.ediv_nonneg (by omega) (by omega), Int.le_trans (Int.ediv_le_self _ (by omega)) g2⟩
          · exact none_has _
        · exact none_has _
      cases b <;> simp only [Tm.rng, Tm.v, IOp.f] <;> try exact hf
      split
      · rename_i m x l h hr
        split
        · rename_i h1
          have h1 := of_decide_eq_true h1
          obtain ⟨g1, g2⟩ := iha _ _ hr
          intro l' h' e
          injection e with e; injection e with e1 e2; subst e1 e2
          have hp : (0 : Int) < 2 ^ (min m.toNat k.bits) := Int.pow_pos (by decide)
          rw [Int.fdiv_eq_ediv_of_nonneg _ (by omega)]
          exact ⟨Int.ediv_nonneg (by omega) (by omega), Int.ediv_le_ediv hp g2⟩
        · exact none_has _
      · exact none_has _
    all_goals
      simp only [Tm.rng, Tm.v, IOp.f]
      exact fullR_has _ _
  | d + 1, .ite c a b => by
    simp only [Tm.rng, Tm.v]
    refine hullR_has ?_
    split
    · exact .inl (Tm.rng_has d a)
    · exact .inr (Tm.rng_has d b)
  | d + 1, .sel l i => by
    simp only [Tm.rng, Tm.v]
    exact Tms.rng_has d l i.v.toNat
theorem Tms.rng_has [Val] : ∀ (d : Nat) (l : Tms) (i : Nat), (Tms.rng d l).has (l.v.getD i 0)
  | 0, l, _ => by cases l <;> exact none_has _
  | d + 1, .nil, i => by
    simp only [Tms.rng, Tms.v]
    intro l h e; injection e with e; injection e with e1 e2; simp; omega
  | d + 1, .cons a l, i => by
    simp only [Tms.rng, Tms.v]
    refine hullR_has ?_
    cases i with
    | zero => exact .inl (Tm.rng_has d a)
    | succ i => exact .inr (by simpa using Tms.rng_has d l i)
end
/-- Does a term lie within these bounds? -/
def Tm.within (t : Tm) (l h : Int) : Bool :=
  match Tm.rng 6 t with
  | some (a, b) => match decide (l ≤ a) with
    | true => decide (b ≤ h)
    | false => false
  | none => false
theorem Tm.within_ok [Val] {t : Tm} {l h : Int} (e : t.within l h = true) : l ≤ t.v ∧ t.v ≤ h := by
  unfold Tm.within at e
  split at e
  · rename_i a b hr
    split at e
    · rename_i h1
      have h1 := of_decide_eq_true h1
      have e := of_decide_eq_true e
      have := Tm.rng_has 6 t _ _ hr
      omega
    · cases e
  · cases e

/-- A whole number: known, or a term. -/
inductive SI where
  | lit (n : Int)
  | sym (t : Tm)
def SI.tm : SI → Tm
  | .lit n => .lit n
  | .sym t => t
def SI.v [Val] : SI → Int
  | .lit n => n
  | .sym t => t.v
inductive SB where
  | lit (b : Bool)
  | sym (b : Bm)
def SB.bm : SB → Bm
  | .lit b => .lit b
  | .sym b => b
def SB.v [Val] : SB → Bool
  | .lit b => b
  | .sym b => b.v
@[simp] theorem SI.tm_v [Val] (a : SI) : a.tm.v = a.v := by cases a <;> simp [SI.tm, SI.v, Tm.v]
@[simp] theorem SB.bm_v [Val] (a : SB) : a.bm.v = a.v := by cases a <;> simp [SB.bm, SB.v, Bm.v]
inductive SN where
  | lit (n : Nat)
  | sym (t : Tm)
  | env (i : Nat)
  | sub (i k : Nat)
inductive SOff where
  | lit (n : Nat)
  | idx (base stride len : Nat) (i : Tm)
  | any
inductive SFn where
  | func (f : FuncId)
  | yield (h : Nat)
inductive SV where
  | any
  | bool (b : SB)
  | int (k : IntKind) (n : SI)
  | str (s : ByteArray)
  | nilp
  | ptr (h : Nat) (o : SOff)
  | nils
  | sl (h : Nat) (o : SOff) (len cap : SN)
  | nilm
  | map (h : Nat)
  | nilf
  | fn (f : SFn) (first captured : List SV)
  | nili
  | iface (t : TypeId) (v : SV)
  | agg (l : List SV)
  | tup (l : List SV)

/-- Which block (or number) a name stands for. -/
abbrev Env := Nat → Option Nat
def Env.le (ρ ρ' : Env) : Prop := ∀ i x, ρ i = some x → ρ' i = some x
theorem Env.le_refl [Val] (ρ : Env) : ρ.le ρ := fun _ _ h => h
theorem Env.le_trans [Val] {a b c : Env} (h : a.le b) (h' : b.le c) : a.le c := fun i x e => h' i x (h i x e)
def Env.put (ρ : Env) (i x : Nat) : Env := fun j => if j = i then some x else ρ j
theorem Env.le_put [Val] {ρ : Env} {i : Nat} (x : Nat) (h : ρ i = none) : ρ.le (ρ.put i x) := fun j y e => by
  unfold Env.put
  split
  · subst_vars; rw [h] at e; cases e
  · exact e
@[simp] theorem Env.put_same [Val] (ρ : Env) (i x : Nat) : ρ.put i x i = some x := by simp [Env.put]
theorem Env.put_other [Val] (ρ : Env) {i j : Nat} (x : Nat) (h : j ≠ i) : ρ.put i x j = ρ j := by simp [Env.put, h]

def SN.Den [Val] (ρ : Env) : SN → Nat → Prop
  | .lit n, m => m = n
  | .sym t, m => t.v = (m : Int)
  | .env i, m => ρ i = some m
  | .sub i k, m => ∃ x, ρ i = some x ∧ k ≤ x ∧ m = x - k
def SOff.Den [Val] : SOff → Nat → Prop
  | .lit n, m => m = n
  | .idx b s l i, m => m = b + s * i.v.toNat ∧ 0 ≤ i.v ∧ i.v.toNat < l
  | .any, _ => True
def SFn.Den (ρ : Env) : SFn → Fn → Prop
  | .func f, g => g = .func f
  | .yield h, g => ∃ b, ρ h = some b ∧ g = .yield b
mutual
def SV.Den [Val] (ρ : Env) : SV → Value → Prop
  | .any, _ => True
  | .bool b, v => v = .bool b.v
  | .int k n, v => v = .int k n.v
  | .str s, v => v = .string s
  | .nilp, v => v = .pointer none
  | .ptr h o, v => ∃ b m, ρ h = some b ∧ o.Den m ∧ v = .pointer (some ⟨b, m, none⟩)
  | .nils, v => v = .slice none 0 0
  | .sl h o l c, v => ∃ b m n k, ρ h = some b ∧ o.Den m ∧ l.Den ρ n ∧ c.Den ρ k ∧ n ≤ k ∧ v = .slice (some ⟨b, m, none⟩) n k
  | .nilm, v => v = .map none
  | .map h, v => ∃ b, ρ h = some b ∧ v = .map (some b)
  | .nilf, v => v = .nilFunc
  | .fn f xs ys, v => ∃ g a b, f.Den ρ g ∧ SV.DenL ρ xs a ∧ SV.DenL ρ ys b ∧ v = .func g a.toArray b.toArray
  | .nili, v => v = .nilIface
  | .iface t x, v => ∃ y, SV.Den ρ x y ∧ v = .iface t y
  | .agg l, v => ∃ vs, SV.DenL ρ l vs ∧ v = .agg vs.toArray
  | .tup l, v => ∃ vs, SV.DenL ρ l vs ∧ v = .tuple vs.toArray
def SV.DenL [Val] (ρ : Env) : List SV → List Value → Prop
  | [], vs => vs = []
  | s :: l, vs => ∃ v vs', vs = v :: vs' ∧ SV.Den ρ s v ∧ SV.DenL ρ l vs'
end

theorem SN.Den.mono [Val] {ρ ρ' : Env} (h : ρ.le ρ') : ∀ {n : SN} {m : Nat}, n.Den ρ m → n.Den ρ' m
  | .lit _, _, e => e
  | .sym _, _, e => e
  | .env _, _, e => h _ _ e
  | .sub _ _, _, ⟨x, e1, e2⟩ => ⟨x, h _ _ e1, e2⟩
theorem SFn.Den.mono [Val] {ρ ρ' : Env} (h : ρ.le ρ') : ∀ {f : SFn} {g : Fn}, f.Den ρ g → f.Den ρ' g
  | .func _, _, e => e
  | .yield _, _, ⟨b, e, e'⟩ => ⟨b, h _ _ e, e'⟩
mutual
theorem SV.Den.mono [Val] {ρ ρ' : Env} (h : ρ.le ρ') : ∀ {s : SV} {v : Value}, s.Den ρ v → s.Den ρ' v
  | .any, _, e => by simp [SV.Den]
  | .bool _, _, e => by simpa [SV.Den] using e
  | .int _ _, _, e => by simpa [SV.Den] using e
  | .str _, _, e => by simpa [SV.Den] using e
  | .nilp, _, e => by simpa [SV.Den] using e
  | .ptr _ _, _, e => by
    simp only [SV.Den] at e ⊢
    obtain ⟨b, m, e1, e2, e3⟩ := e
    exact ⟨b, m, h _ _ e1, e2, e3⟩
  | .nils, _, e => by simpa [SV.Den] using e
  | .sl _ _ _ _, _, e => by
    simp only [SV.Den] at e ⊢
    obtain ⟨b, m, n, k, e1, e2, e3, e4, e5, e6⟩ := e
    exact ⟨b, m, n, k, h _ _ e1, e2, e3.mono h, e4.mono h, e5, e6⟩
  | .nilm, _, e => by simpa [SV.Den] using e
  | .map _, _, e => by
    simp only [SV.Den] at e ⊢
    obtain ⟨b, e1, e2⟩ := e
    exact ⟨b, h _ _ e1, e2⟩
  | .nilf, _, e => by simpa [SV.Den] using e
  | .fn f xs ys, _, e => by
    simp only [SV.Den] at e ⊢
    obtain ⟨g, a, b, e1, e2, e3, e4⟩ := e
    exact ⟨g, a, b, e1.mono h, SV.DenL.mono h e2, SV.DenL.mono h e3, e4⟩
  | .nili, _, e => by simpa [SV.Den] using e
  | .iface t x, _, e => by
    simp only [SV.Den] at e ⊢
    obtain ⟨y, e1, e2⟩ := e
    exact ⟨y, SV.Den.mono h e1, e2⟩
  | .agg l, _, e => by
    simp only [SV.Den] at e ⊢
    obtain ⟨vs, e1, e2⟩ := e
    exact ⟨vs, SV.DenL.mono h e1, e2⟩
  | .tup l, _, e => by
    simp only [SV.Den] at e ⊢
    obtain ⟨vs, e1, e2⟩ := e
    exact ⟨vs, SV.DenL.mono h e1, e2⟩
theorem SV.DenL.mono [Val] {ρ ρ' : Env} (h : ρ.le ρ') : ∀ {l : List SV} {vs : List Value}, SV.DenL ρ l vs → SV.DenL ρ' l vs
  | [], _, e => by simpa [SV.DenL] using e
  | s :: l, _, e => by
    simp only [SV.DenL] at e ⊢
    obtain ⟨v, vs', e1, e2, e3⟩ := e
    exact ⟨v, vs', e1, SV.Den.mono h e2, SV.DenL.mono h e3⟩
end

section lists
variable {ρ : Env}
@[simp] theorem denL_nil [Val] {vs : List Value} : SV.DenL ρ [] vs ↔ vs = [] := by simp [SV.DenL]
theorem denL_cons [Val] {s : SV} {l : List SV} {vs : List Value} : SV.DenL ρ (s :: l) vs ↔ ∃ v vs', vs = v :: vs' ∧ s.Den ρ v ∧ SV.DenL ρ l vs' := by simp [SV.DenL]
theorem denL_cons' [Val] {s : SV} {l : List SV} {v : Value} {vs : List Value} : SV.DenL ρ (s :: l) (v :: vs) ↔ s.Den ρ v ∧ SV.DenL ρ l vs := by
  rw [denL_cons]
  constructor
  · rintro ⟨_, _, e, a, b⟩; injection e with e1 e2; subst e1 e2; exact ⟨a, b⟩
  · rintro ⟨a, b⟩; exact ⟨_, _, rfl, a, b⟩
theorem denL_length [Val] : ∀ {l : List SV} {vs : List Value}, SV.DenL ρ l vs → vs.length = l.length
  | [], _, h => by rw [denL_nil] at h; subst h; rfl
  | _ :: _, _, h => by
    obtain ⟨v, vs', rfl, _, h2⟩ := denL_cons.1 h
    simp [denL_length h2]
theorem denL_get [Val] : ∀ {l : List SV} {vs : List Value}, SV.DenL ρ l vs → ∀ {i : Nat} {s : SV}, l[i]? = some s → ∃ v, vs[i]? = some v ∧ s.Den ρ v
  | [], _, _, i, s, e => by simp at e
  | x :: l, _, h, i, s, e => by
    obtain ⟨v, vs', rfl, h1, h2⟩ := denL_cons.1 h
    cases i with
    | zero => simp at e; subst e; exact ⟨v, by simp, h1⟩
    | succ i => simpa using denL_get h2 (by simpa using e)
theorem denL_of_get [Val] : ∀ {l : List SV} {vs : List Value}, vs.length = l.length → (∀ (i : Nat) (s : SV), l[i]? = some s → ∃ v, vs[i]? = some v ∧ s.Den ρ v) → SV.DenL ρ l vs
  | [], [], _, _ => by simp
  | x :: l, v :: vs, hl, h => by
    refine denL_cons'.2 ⟨?_, denL_of_get (by simpa using hl) fun i s e => by simpa using h (i + 1) s (by simpa using e)⟩
    obtain ⟨v', e1, e2⟩ := h 0 x rfl
    simp at e1; subst e1; exact e2
theorem denL_append [Val] : ∀ {l l' : List SV} {vs vs' : List Value}, SV.DenL ρ l vs → SV.DenL ρ l' vs' → SV.DenL ρ (l ++ l') (vs ++ vs')
  | [], _, _, _, h, h' => by rw [denL_nil] at h; subst h; simpa using h'
  | _ :: _, _, _, _, h, h' => by
    obtain ⟨v, vs', rfl, h1, h2⟩ := denL_cons.1 h
    exact denL_cons'.2 ⟨h1, denL_append h2 h'⟩
theorem denL_set [Val] {l : List SV} {vs : List Value} (h : SV.DenL ρ l vs) {s : SV} {v : Value} (hs : s.Den ρ v) (i : Nat) : SV.DenL ρ (l.set i s) (vs.set i v) := by
  have hl := denL_length h
  refine denL_of_get (by simp [hl]) fun j t e => ?_
  rw [List.getElem?_set] at e ⊢
  split at e
  · rename_i hij
    split at e
    · rename_i hlt
      injection e with e; subst e
      exact ⟨v, by subst hij; simp [hl, hlt], hs⟩
    · cases e
  · rename_i hij
    obtain ⟨u, e1, e2⟩ := denL_get h e
    exact ⟨u, by simp [hij, e1], e2⟩
theorem denL_take [Val] : ∀ {l : List SV} {vs : List Value} (n : Nat), SV.DenL ρ l vs → SV.DenL ρ (l.take n) (vs.take n)
  | _, _, 0, _ => by simp
  | [], _, n + 1, h => by rw [denL_nil] at h; subst h; simp
  | _ :: _, _, n + 1, h => by
    obtain ⟨v, vs', rfl, h1, h2⟩ := denL_cons.1 h
    exact denL_cons'.2 ⟨h1, denL_take n h2⟩
theorem denL_drop [Val] : ∀ {l : List SV} {vs : List Value} (n : Nat), SV.DenL ρ l vs → SV.DenL ρ (l.drop n) (vs.drop n)
  | _, _, 0, h => by simpa using h
  | [], _, n + 1, h => by rw [denL_nil] at h; subst h; simp
  | _ :: _, _, n + 1, h => by
    obtain ⟨v, vs', rfl, h1, h2⟩ := denL_cons.1 h
    simpa using denL_drop n h2
theorem denL_map [Val] {α : Type} (f : α → SV) (g : α → Value) : ∀ (l : List α), (∀ x ∈ l, (f x).Den ρ (g x)) → SV.DenL ρ (l.map f) (l.map g)
  | [], _ => by simp
  | x :: l, h => denL_cons'.2 ⟨h x (by simp), denL_map f g l fun y hy => h y (by simp [hy])⟩
theorem denL_replicate_any [Val] (n : Nat) (vs : List Value) (h : vs.length = n) : SV.DenL ρ (List.replicate n .any) vs :=
  denL_of_get (by simp [h]) fun i s e => by
    rw [List.getElem?_replicate] at e
    split at e
    · injection e with e; subst e
      exact ⟨vs[i]'(by omega), by simp, by simp [SV.Den]⟩
    · cases e
end lists

/-- The symbolic value of a constant. -/
def ofScalar : Value → Option SV
  | .bool b => some (.bool (.lit b))
  | .int k n => some (.int k (.lit n))
  | .string s => some (.str s)
  | .pointer none => some .nilp
  | .slice none 0 0 => some .nils
  | .map none => some .nilm
  | .nilFunc => some .nilf
  | .nilIface => some .nili
  | _ => none
theorem ofScalar_den [Val] {ρ : Env} {v : Value} {s : SV} (h : ofScalar v = some s) : s.Den ρ v := by
  unfold ofScalar at h
  split at h <;> first
    | (injection h with h; subst h; simp [SV.Den, SB.v, SI.v]; done)
    | cases h
def ofScalars : List Value → Option (List SV)
  | [] => some []
  | v :: vs => match ofScalar v with
    | some s => match ofScalars vs with
      | some l => some (s :: l)
      | none => none
    | none => none
theorem ofScalars_den [Val] {ρ : Env} : ∀ {vs : List Value} {l : List SV}, ofScalars vs = some l → SV.DenL ρ l vs
  | [], _, h => by simp [ofScalars] at h; subst h; simp
  | v :: vs, _, h => by
    unfold ofScalars at h
    split at h
    · rename_i s hs
      split at h
      · rename_i l hl
        injection h with h; subst h
        exact denL_cons'.2 ⟨ofScalar_den hs, ofScalars_den hl⟩
      · cases h
    · cases h
def ofVal (v : Value) : Option SV :=
  match v with
  | .agg cs => match ofScalars cs.toList with
    | some l => some (.agg l)
    | none => none
  | .tuple cs => match ofScalars cs.toList with
    | some l => some (.tup l)
    | none => none
  | v => ofScalar v
theorem ofVal_den [Val] {ρ : Env} {v : Value} {s : SV} (h : ofVal v = some s) : s.Den ρ v := by
  unfold ofVal at h
  split at h
  · split at h
    · rename_i cs _ l hl
      injection h with h; subst h
      simp only [SV.Den]
      exact ⟨cs.toList, ofScalars_den hl, by simp⟩
    · cases h
  · split at h
    · rename_i cs _ l hl
      injection h with h; subst h
      simp only [SV.Den]
      exact ⟨cs.toList, ofScalars_den hl, by simp⟩
    · cases h
  · exact ofScalar_den h

/-- The cells of a value. -/
def SV.cells : SV → List SV
  | .agg l => l
  | v => [v]
/-- Is the value one cell? (.any may be anything) -/
def SV.scalar : SV → Bool
  | .agg _ | .tup _ | .any => false
  | _ => true
theorem scalar_oneCell [Val] {ρ : Env} {s : SV} {v : Value} (hs : s.scalar = true) (h : s.Den ρ v) : v.oneCell' = true ∧ v.cells = #[v] := by
  cases s <;> simp [SV.scalar] at hs <;> simp only [SV.Den] at h
  all_goals first
    | (subst h; exact ⟨rfl, rfl⟩)
    | (obtain ⟨_, h⟩ := h; first
        | (subst h; exact ⟨rfl, rfl⟩)
        | (obtain ⟨_, rfl⟩ := h; exact ⟨rfl, rfl⟩)
        | (obtain ⟨_, _, _, rfl⟩ := h; exact ⟨rfl, rfl⟩)
        | (obtain ⟨_, _, _, _, _, rfl⟩ := h; exact ⟨rfl, rfl⟩)
        | (obtain ⟨_, _, _, _, _, _, _, rfl⟩ := h; exact ⟨rfl, rfl⟩)
        | (obtain ⟨_, _, _, _, _, _, _, _, rfl⟩ := h; exact ⟨rfl, rfl⟩))
end Go.Sx
/- Small laws for walks: a call through a function value in a slot; what is below stays. -/
namespace Go.Cd
open Go Go.RowKit

def callValue (v : Value) (args : Array Value) : Sem Next := do let d ← Deferred.ofValue v args; invoke d.target d.args
theorem execOp_call_tmp (a : Act) (dst : Option Tmp) (t : Nat) (xs : Array Operand) (ats : Array TypeId) (ty : TypeId) (pos : String) (after : Array Edge) (guard : Option (Nat × Bool)) :
    execOp a.eval { dst, op := .call { callee := .value (.tmp t), args := xs, argTypes := ats }, type := ty, pos, after, guard } = callValue (a.eval (.tmp t)) (xs.map a.eval) := rfl
theorem callValue_func (f : FuncId) (first captured args : Array Value) : callValue (.func (.func f) first captured) args = callFunc f (first ++ args ++ captured) := rfl
theorem callValue_yield (l : Nat) (first captured args : Array Value) : callValue (.func (.yield l) first captured) args = Instr.yield l (first ++ args) := rfl
attribute [go_sem ↓] execOp_call_tmp callValue_func callValue_yield

/-- What a call that makes memory leaves of what was there. -/
abbrev New (w w' : World) : Prop := Below w.heap.size w w'
theorem New.refl (w : World) : New w w := Below.refl _ _

/-- Behind such a call: all old cells and marks as before, for the walk's own rules. -/
theorem bcell {W w1 : World} (hb : New W w1) : (∀ b o, b < W.heap.size → w1.cell? ⟨b, o, none⟩ = W.cell? ⟨b, o, none⟩) ∧ (∀ b o, b < W.heap.size → w1.frozen? ⟨b, o, none⟩ = W.frozen? ⟨b, o, none⟩) :=
  ⟨fun b o h => hb.cell (p := ⟨b, o, none⟩) h, fun b o h => hb.frozen (p := ⟨b, o, none⟩) h⟩
/-- The same, and that no block has gone. -/
theorem bcell3 {W w1 : World} (hb : New W w1) : (∀ b o, b < W.heap.size → w1.cell? ⟨b, o, none⟩ = W.cell? ⟨b, o, none⟩) ∧ (∀ b o, b < W.heap.size → w1.frozen? ⟨b, o, none⟩ = W.frozen? ⟨b, o, none⟩) ∧ W.heap.size ≤ w1.heap.size :=
  ⟨fun b o h => hb.cell (p := ⟨b, o, none⟩) h, fun b o h => hb.frozen (p := ⟨b, o, none⟩) h, hb.size⟩
theorem Calls.new {P : Program} {f : FuncId} {args : Array Value} {w : World} {v : Value} (h : Calls P f args w fun e w' => e = .returned v ∧ w = w') : Calls P f args w fun e w' => e = .returned v ∧ New w w' :=
  h.mono fun _ _ ⟨he, hw⟩ => ⟨he, hw ▸ New.refl _⟩
theorem ret_bool {a b : Bool} (h : a = b) : Ending.returned (.bool a) = .returned (.bool b) := by rw [h]
theorem ret_int {k : IntKind} {a b : Int} (h : a = b) : Ending.returned (.int k a) = .returned (.int k b) := by rw [h]
end Go.Cd
/- Laws for small maps that a function makes itself: whole numbers as keys, all entries known. -/
namespace Go.Cd
open Go Go.RowKit Go.MapKept

theorem heap_alloc_at (w : World) (o : Obj) (r : Nat) (hr : r = w.heap.size) : (w.alloc o).heap[r]? = some o := by
  subst hr; exact (MapKept.heap_alloc w _).1
theorem alloc_set_at (w : World) (o o' : Obj) (r : Nat) (hr : r = w.heap.size) : ({ (w.alloc o) with heap := (w.alloc o).heap.setIfInBounds r o' } : World) = w.alloc o' := by
  subst hr
  show ({ heap := (w.heap.push o).setIfInBounds w.heap.size o', tape := w.tape, drawn := w.drawn, os := w.os, output := w.output } : World) = { heap := w.heap.push o', tape := w.tape, drawn := w.drawn, os := w.os, output := w.output }
  have e : (w.heap.push o).setIfInBounds w.heap.size o' = w.heap.push o' := by
    rw [← Array.toList_inj, Array.toList_setIfInBounds, Array.toList_push, Array.toList_push, ← Array.length_toList, List.set_append_right _ _ (Nat.le_refl _)]
    simp
  rw [e]

theorem isKey_int (j : IntKind) (k : Int) : IsKey (.int j) (.int j k) := rfl
section
variable {P : Program} {T K E : TypeId} {j : IntKind} (hT : P.underlying T = some (.map K E)) (hK : P.underlying K = some (.int j))
include hT hK
/-- A new entry into a map that is the newest block. -/
theorem run_mapInsert (es : Array MapEntry) (c : Nat) (k : Int) (v : Value) (w : World) (r : Nat) (hr : r = w.heap.size) (hf : Instr.findNow (.int j) (.int j k) es.toList 0 = some none) :
    (Instr.mapUpdate T (.map (some r)) (.int j k) v).run P (w.alloc (.map es c)) = .ok () (w.alloc (.map (es.push { key := .int j k, val := v, born := c }) (c + 1))) := by
  have h1 := heap_alloc_at w (.map es c) r hr
  have h2 := alloc_set_at w (.map es c) (.map (es.push { key := .int j k, val := v, born := c }) (c + 1)) r hr
  simp only [Instr.mapUpdate, Sem.run_bind, run_underlying hT, MapKept.run_getObj_map h1, run_checkKey hK (isKey_int j k), run_findKey hK hf, MapKept.run_setObj_map _ h1, Result.andThen, h2]
/-- A lookup of a key that is there. -/
theorem run_mapGet (es : Array MapEntry) (c : Nat) (k : Int) (i : Nat) (v : Value) (w : World) (r : Nat) (hb : w.heap[r]? = some (.map es c)) (hf : Instr.findNow (.int j) (.int j k) es.toList 0 = some (some (i, v))) (ok : Bool) :
    (Instr.lookup T (.map (some r)) (.int j k) ok).run P w = .ok (if ok then .tuple #[v, .bool true] else v) w := by
  simp [Instr.lookup, run_underlying hT, MapKept.run_getObj_map hb, run_checkKey hK (isKey_int j k), run_findKey hK hf, Result.andThen]
theorem run_mapGet_at (es : Array MapEntry) (c : Nat) (k : Int) (i : Nat) (v : Value) (w : World) (r : Nat) (hr : r = w.heap.size) (hf : Instr.findNow (.int j) (.int j k) es.toList 0 = some (some (i, v))) (ok : Bool) :
    (Instr.lookup T (.map (some r)) (.int j k) ok).run P (w.alloc (.map es c)) = .ok (if ok then .tuple #[v, .bool true] else v) (w.alloc (.map es c)) :=
  run_mapGet hT hK es c k i v _ r (heap_alloc_at w _ r hr) hf ok
/-- A lookup of a key that is not there. -/
theorem run_mapMiss (es : Array MapEntry) (c : Nat) (k : Int) (z : Value) (w : World) (r : Nat) (hb : w.heap[r]? = some (.map es c)) (hz : (zeroValue E).run P w = .ok z w) (hf : Instr.findNow (.int j) (.int j k) es.toList 0 = some none) (ok : Bool) :
    (Instr.lookup T (.map (some r)) (.int j k) ok).run P w = .ok (if ok then .tuple #[z, .bool false] else z) w := by
  simp [Instr.lookup, run_underlying hT, MapKept.run_getObj_map hb, run_checkKey hK (isKey_int j k), run_findKey hK hf, hz, Result.andThen]
end
end Go.Cd
/- Whole structs and arrays, stored into blocks of the call's own and loaded from them, with no unrolling. -/
namespace Go.Cd
open Go Go.RowKit

def spl (c : Array Value) : Nat → List Value → Array Value
  | _, [] => c
  | o, v :: r => spl (c.setIfInBounds o v) (o + 1) r
theorem spl_size : ∀ (vs : List Value) (c : Array Value) (o : Nat), (spl c o vs).size = c.size
  | [], _, _ => rfl
  | v :: r, c, o => by rw [spl, spl_size r, Array.size_setIfInBounds]
theorem spl_get : ∀ (vs : List Value) (c : Array Value) (o i : Nat), o + vs.length ≤ c.size → (spl c o vs)[i]? = if o ≤ i ∧ i < o + vs.length then vs[i - o]? else c[i]?
  | [], c, o, i, _ => by rw [if_neg (by simp only [List.length_nil]; omega)]; rfl
  | v :: r, c, o, i, h => by
    rw [spl, spl_get r _ _ _ (by simp at h ⊢; omega)]
    simp only [List.length_cons] at h ⊢
    by_cases h1 : o + 1 ≤ i ∧ i < o + 1 + r.length
    · rw [if_pos h1, if_pos (by omega), show i - o = (i - (o + 1)) + 1 by omega]; rfl
    · rw [if_neg h1]
      by_cases h2 : i = o
      · subst h2
        rw [if_pos (by omega), Nat.sub_self, Array.getElem?_setIfInBounds_self]
        simp; omega
      · rw [if_neg (by omega)]
        simp [Ne.symm h2]
theorem spl_full (vs : List Value) (c : Array Value) (h : c.size = vs.length) : spl c 0 vs = vs.toArray := by
  apply Array.ext_getElem?
  intro i
  rw [spl_get vs c 0 i (by omega)]
  by_cases hi : i < vs.length
  · rw [if_pos (by omega)]; simp
  · rw [if_neg (by omega), Array.getElem?_eq_none (by omega), Array.getElem?_eq_none (by simpa using Nat.le_of_not_lt hi)]
theorem setCell_new (w : World) (c : Array Value) (t : TypeId) (b o : Nat) (v : Value) (hb : b = w.heap.size) : (w.alloc (.cells c t)).setCell ⟨b, o, none⟩ v = w.alloc (.cells (c.setIfInBounds o v) t) := by
  subst hb
  exact World.setCell_alloc_at _ _ _ _ _ rfl
theorem setCells_new (w : World) (t : TypeId) (b : Nat) (hb : b = w.heap.size) : ∀ (vs : List Value) (c : Array Value) (o : Nat), (w.alloc (.cells c t)).setCells b o vs = w.alloc (.cells (spl c o vs) t)
  | [], _, _ => rfl
  | v :: r, c, o => by rw [World.setCells, setCell_new w c t b o v hb, setCells_new w t b hb r]; rfl
theorem setCells_past (b : Nat) (ob : Obj) : ∀ (vs : List Value) (o : Nat) (w : World), b < w.heap.size → (w.alloc ob).setCells b o vs = (w.setCells b o vs).alloc ob
  | [], _, _, _ => rfl
  | v :: r, o, w, h => by
    have e : (w.alloc ob).setCell ⟨b, o, none⟩ v = (w.setCell ⟨b, o, none⟩ v).alloc ob := World.setCell_alloc_past _ _ _ _ h
    rw [World.setCells, World.setCells, e, setCells_past b ob r (o + 1) _ (by simpa using h)]
theorem there_new (w : World) (c : Array Value) (t : TypeId) (b : Nat) (hb : b = w.heap.size) : (w.alloc (.cells c t)).there b 0 c.size := by
  subst hb
  intro j hj
  refine ⟨?_, ?_⟩
  · rw [Nat.zero_add, World.cell?_alloc_new]; simp [hj]
  · rw [frozen?_alloc_cells]
    simp [World.frozen?]
/-- All cells are single. -/
def Ones (l : List Value) : Prop := ∀ v ∈ l, v.oneCell' = true
theorem ones_nil : Ones [] = True := by simp [Ones]
theorem ones_int (k : IntKind) (n : Int) (l : List Value) : Ones (.int k n :: l) = Ones l := by simp [Ones, Value.oneCell']
theorem ones_bool (b : Bool) (l : List Value) : Ones (.bool b :: l) = Ones l := by simp [Ones, Value.oneCell']
theorem ones_slice (a : Option Addr) (n c : Nat) (l : List Value) : Ones (.slice a n c :: l) = Ones l := by simp [Ones, Value.oneCell']
theorem ones_pointer (a : Option Addr) (l : List Value) : Ones (.pointer a :: l) = Ones l := by simp [Ones, Value.oneCell']
theorem ones_all {l : List Value} (h : Ones l) : l.toArray.all (·.oneCell') = true := all_oneCell_toArray h
section
variable {P : Program}
/-- A whole value goes into the newest block. -/
theorem store_new (ty : TypeId) (n : Nat) (c cs : Array Value) (t : TypeId) (w : World) (hn : n = w.heap.size) (hc : c.size = cs.size) (hi : (P.info? ty).map (·.size) = some cs.size) (h1 : cs.all (·.oneCell') = true) :
    (storeVar ty ⟨n, 0, none⟩ (.agg cs)).run P (w.alloc (.cells c t)) = .ok () (w.alloc (.cells cs t)) := by
  rw [run_storeVar_mid _ n 0 ty cs (by rw [← hc]; exact there_new w c t n hn) hi h1, setCells_new w t n hn, spl_full _ _ (by simpa using hc)]
/-- .. or into the one ahead of it. -/
theorem store_new2 (ty : TypeId) (n : Nat) (c cs : Array Value) (t : TypeId) (ob : Obj) (w : World) (hn : n = w.heap.size) (hc : c.size = cs.size) (hi : (P.info? ty).map (·.size) = some cs.size) (h1 : cs.all (·.oneCell') = true) :
    (storeVar ty ⟨n, 0, none⟩ (.agg cs)).run P ((w.alloc (.cells c t)).alloc ob) = .ok () ((w.alloc (.cells cs t)).alloc ob) := by
  rw [run_storeVar_mid _ n 0 ty cs (World.there_alloc (by rw [← hc]; exact there_new w c t n hn) ob) hi h1, setCells_past _ _ _ _ _ (by simp; omega), setCells_new w t n hn, spl_full _ _ (by simpa using hc)]
/-- A whole value is loaded from a block that is known. -/
theorem load_row (ty : TypeId) (n : Nat) (cs : Array Value) (t : TypeId) (d : TypeDesc) (w : World) (hb : w.heap[n]? = some (.cells cs t)) (hu : P.underlying ty = some d) (hd : d.isRow = true) (hi : (P.info? ty).map (·.size) = some cs.size) :
    (loadVar ty ⟨n, 0, none⟩).run P w = .ok (.agg cs) w := by
  have h := run_loadVar_mid (P := P) w n 0 ty cs.toList d (by
    have := World.rangeAt_of_block hb 0 cs.size
    rwa [Nat.zero_add, Array.extract_size] at this) hu hd (by simpa using hi)
  simpa using h
theorem load_new (ty : TypeId) (n : Nat) (cs : Array Value) (t : TypeId) (d : TypeDesc) (w : World) (hn : n = w.heap.size) (hu : P.underlying ty = some d) (hd : d.isRow = true) (hi : (P.info? ty).map (·.size) = some cs.size) :
    (loadVar ty ⟨n, 0, none⟩).run P (w.alloc (.cells cs t)) = .ok (.agg cs) (w.alloc (.cells cs t)) := load_row ty n cs t d _ (heap_alloc_at _ _ _ hn) hu hd hi
theorem load_new2 (ty : TypeId) (n : Nat) (cs : Array Value) (t : TypeId) (ob : Obj) (d : TypeDesc) (w : World) (hn : n = w.heap.size) (hu : P.underlying ty = some d) (hd : d.isRow = true) (hi : (P.info? ty).map (·.size) = some cs.size) :
    (loadVar ty ⟨n, 0, none⟩).run P ((w.alloc (.cells cs t)).alloc ob) = .ok (.agg cs) ((w.alloc (.cells cs t)).alloc ob) :=
  load_row ty n cs t d _ (((MapKept.heap_alloc (w.alloc (.cells cs t)) ob).2 n (by simp; omega)).trans (heap_alloc_at _ _ _ hn)) hu hd hi
/-! The same at the operation: what is stored and loaded stays folded till its operands are known. -/
def storeRow (t : TypeId) (p v : Value) : Sem Next := do Instr.storeAt t p v; pure .skip
def loadRow (t : TypeId) (p : Value) : Sem Next := do pure (.value (← Instr.loadAt t p))
theorem execOp_storeRow (a : Act) (dst : Option Tmp) (t : TypeId) (x y : Operand) (ty : TypeId) (pos : String) (after : Array Edge) (guard : Option (Nat × Bool)) :
    execOp a.eval { dst, op := .store t x y, type := ty, pos, after, guard } = storeRow t (a.eval x) (a.eval y) := rfl
theorem execOp_loadRow (a : Act) (dst : Option Tmp) (t : TypeId) (x : Operand) (ty : TypeId) (pos : String) (after : Array Edge) (guard : Option (Nat × Bool)) :
    execOp a.eval { dst, op := .load t x, type := ty, pos, after, guard } = loadRow t (a.eval x) := rfl
theorem run_storeRow (ty : TypeId) (n k : Nat) (v : Value) (w w' : World) (h : (storeVar ty ⟨n, k, none⟩ v).run P w = .ok () w') : (storeRow ty (.pointer (some ⟨n, k, none⟩)) v).run P w = .ok .skip w' := by
  simp only [storeRow, Instr.storeAt, Instr.sureAddr, Sem.run_bind, Sem.run_pure, Result.andThen_ok, h]
theorem run_loadRow (ty : TypeId) (n k : Nat) (v : Value) (w w' : World) (h : (loadVar ty ⟨n, k, none⟩).run P w = .ok v w') : (loadRow ty (.pointer (some ⟨n, k, none⟩))).run P w = .ok (.value v) w' := by
  simp only [loadRow, Instr.loadAt, Instr.sureAddr, Sem.run_bind, Sem.run_pure, Result.andThen_ok, h]
/-- Two results that lie in memory. -/
theorem results_rows2 {fn : Func} {p q : Tmp} {ty ty2 : TypeId} (h : fn.results = #[.cell p ty, .cell q ty2]) (tmps : Array Value) (w : World) (a b : Addr) (v1 v2 : Value)
    (hp : tmps.getD p undef = .pointer (some a)) (hq : tmps.getD q undef = .pointer (some b)) (h1 : (loadVar ty a).run P w = .ok v1 w) (h2 : (loadVar ty2 b).run P w = .ok v2 w) : (results fn tmps).run P w = .ok (.tuple #[v1, v2]) w := by
  simp only [results, h]
  simp only [Array.getD_eq_getD_getElem?] at hp hq
  simp [hp, hq, asAddr, h1, h2]
end
end Go.Cd
/- Blocks of memory: what a cell holds, worlds that are alike but for one block. -/
namespace Go.Proofs.Ytpooghnemlnopaa
open Go Go.RowKit Go.MapKept Go.Cd

theorem cell_of_heap {w : World} {b i : Nat} {c : Array Value} {t : TypeId} {v : Value} (h : w.heap[b]? = some (.cells c t)) (hc : c[i]? = some v) : w.cell? ⟨b, i, none⟩ = some v := by
  simp [World.cell?, h, hc]
theorem frozen_of_heap {w : World} {b i : Nat} {c : Array Value} {t : TypeId} (h : w.heap[b]? = some (.cells c t)) : w.frozen? ⟨b, i, none⟩ = false := by
  simp [World.frozen?, h]
/-- A world that is another but for one block's cells. -/
structure Only (r : Nat) (w w' : World) : Prop where
  size : w'.heap.size = w.heap.size
  os : w'.os = w.os
  tape : w'.tape = w.tape
  output : w'.output = w.output
  block : ∀ k, k ≠ r → w'.heap[k]? = w.heap[k]?
theorem addr_ne (b : Nat) {i j : Nat} (h : i ≠ j) : (⟨b, i, none⟩ : Addr) ≠ ⟨b, j, none⟩ := fun q => h (by injection q)
theorem only_setCell (w : World) (b o : Nat) (v : Value) : Only b w (w.setCell ⟨b, o, none⟩ v) :=
  ⟨by simp, rfl, rfl, rfl, fun k hk => Below.heap_setCell _ _ _ _ hk⟩
theorem only_putObj (w : World) (b : Nat) (o : Obj) : Only b w (w.putObj b o) :=
  ⟨by simp, rfl, rfl, rfl, fun k hk => World.putObj_heap_other hk⟩
theorem Only.cell {r : Nat} {w w' : World} (h : Only r w w') {b o : Nat} (hb : b ≠ r) : w'.cell? ⟨b, o, none⟩ = w.cell? ⟨b, o, none⟩ := by
  simp only [World.cell?, h.block b hb]
theorem Only.frozen {r : Nat} {w w' : World} (h : Only r w w') {b o : Nat} (hb : b ≠ r) : w'.frozen? ⟨b, o, none⟩ = w.frozen? ⟨b, o, none⟩ := by
  simp only [World.frozen?, h.block b hb]
theorem new_only {r : Nat} {a b c : World} (h : New a b) (k : Only r b c) (hr : a.heap.size ≤ r) : New a c :=
  ⟨k.os.trans h.os, k.tape.trans h.tape, k.output.trans h.output, by rw [k.size]; exact h.size, fun x hx => (k.block x (by omega)).trans (h.block x hx)⟩
theorem lt_of_heap {w : World} {k : Nat} {c : Obj} (h : w.heap[k]? = some c) : k < w.heap.size := by
  rcases Nat.lt_or_ge k w.heap.size with h' | h'
  · exact h'
  · rw [Array.getElem?_eq_none h'] at h; cases h
theorem heap_keep {w : World} {o : Obj} {k : Nat} {c : Obj} (h : w.heap[k]? = some c) : (w.alloc o).heap[k]? = some c := by
  rw [(MapKept.heap_alloc w o).2 k (lt_of_heap h)]; exact h
theorem own_of_heap {w w' : World} {base : Nat} {e : TypeId} {size : Nat} {v : Value} {n : Nat} {xs : List Value} (h : w.ownsRow base e size v n xs) (hh : ∀ g, v.ownBlock = some g → w'.heap[g]? = w.heap[g]?) : w'.ownsRow base e size v n xs := by
  obtain ⟨h1, h2⟩ := h
  refine ⟨h1, ?_⟩
  rcases h2 with h2 | ⟨g, cap, cur, hv, hb, hg, r⟩
  · exact .inl h2
  · refine .inr ⟨g, cap, cur, hv, hb, ?_, r⟩
    rw [hh g (by rw [hv]; rfl)]; exact hg
theorem own_lt {w : World} {base : Nat} {e : TypeId} {size : Nat} {v : Value} {n : Nat} {xs : List Value} (h : w.ownsRow base e size v n xs) {g : Nat} (hg : v.ownBlock = some g) : g < w.heap.size := (h.lt g hg).2
theorem own_new {w w' : World} {base : Nat} {e : TypeId} {size : Nat} {v : Value} {n : Nat} {xs : List Value} (h : w.ownsRow base e size v n xs) (hn : New w w') : w'.ownsRow base e size v n xs :=
  own_of_heap h fun g hg => hn.block g (own_lt h hg)
theorem grow_new {w wr w' : World} {e : TypeId} {size : Nat} {v : Value} {n : Nat} {xs : List Value} (hN : New w wr) (h : wr.ownsRow w.heap.size e size v n xs) (hg : wr.grownBy w' v.ownBlock) : New w w' :=
  ⟨hg.os.trans hN.os, hg.tape.trans hN.tape, hg.output.trans hN.output, Nat.le_trans hN.size hg.size, fun k hk => (hg.block k (Nat.lt_of_lt_of_le hk hN.size) (fun q => by have := (h.lt k q.symm).1; omega)).trans (hN.block k hk)⟩
end Go.Proofs.Ytpooghnemlnopaa
