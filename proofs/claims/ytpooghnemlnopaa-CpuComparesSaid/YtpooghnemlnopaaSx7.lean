/- The operations on symbolic values: two operands, one operand, conversions, interfaces, function values. -/
import Derived.Test.YtpooghnemlnopaaSx6
import Derived.Laws.StructEq
namespace Go.Sx
set_option linter.unusedSimpArgs false
set_option linter.unusedVariables false
open Go Go.RowKit Go.Cd Go.Proofs.Ytpooghnemlnopaa
section
variable {P : Program} {ρ : Env} {X : Nat → Prop} {w0 w : World} {look : Look} {fresh : Nat → Prop} {id : Nat} {r : SV × List Upd × List Nat}

def intBin (op : BinOp) (k : IntKind) (a b : SI) : Option SV :=
  match op with
  | .add => some (.int k (SI.op (.add k) a b))
  | .sub => some (.int k (SI.op (.sub k) a b))
  | .mul => some (.int k (SI.op (.mul k) a b))
  | .quo => match b.nonzero with
    | true => some (.int k (SI.op (.quo k) a b))
    | false => none
  | .rem => match b.nonzero with
    | true => some (.int k (SI.op .rem a b))
    | false => none
  | .and => some (.int k (SI.op (.and k) a b))
  | .or => some (.int k (SI.op (.or k) a b))
  | .xor => some (.int k (SI.op (.xor k) a b))
  | .andNot => some (.int k (SI.op (.andNot k) a b))
  | .eql => some (.bool (SI.cmp .eq a b))
  | .neq => some (.bool (SI.cmp .ne a b))
  | .lss => some (.bool (SI.cmp .lt a b))
  | .leq => some (.bool (SI.cmp .le a b))
  | .gtr => some (.bool (SI.cmp .gt a b))
  | .geq => some (.bool (SI.cmp .ge a b))
  | _ => none
def shiftBy (op : BinOp) (k : IntKind) (a : SI) (b : SI) : Option SV :=
  match op with
  | .shl => some (.int k (SI.op (.shl k) a b))
  | .shr => some (.int k (SI.op (.shr k) a b))
  | _ => none
def isShift : BinOp → Bool
  | .shl => true
  | .shr => true
  | _ => false
def isEq : BinOp → Option Bool
  | .eql => some true
  | .neq => some false
  | _ => none
def SB.flip (f : Bool) (b : SB) : SB := match f with
  | true => b
  | false => SB.not b
def sBin (P : Program) (op : BinOp) (t : TypeId) (x y : SV) : R :=
  match x, y with
  | .int k a, .int k' b => match isShift op with
    | true => match b.within 0 18446744073709551615 with
      | true => match shiftBy op k a b with
        | some v => some (v, [], [])
        | none => none
      | false => none
    | false => match decide (k = k') with
      | true => match intBin op k a b with
        | some v => some (v, [], [])
        | none => none
      | false => none
  | .bool a, .bool b => match isEq op with
    | some f => match tyOf P t with
      | some ti => match ti.desc with
        | .bool => some (.bool (SB.flip f (SB.op .eq a b)), [], [])
        | _ => none
      | none => none
    | none => none
  | .agg a, .agg b => match isEq op with
    | some f => match P.eqGuardType P.depth t with
      | true => none
      | false => match eqS P 8 t (.agg a) (.agg b) with
        | some s => some (.bool (SB.flip f s), [], [])
        | none => none
    | none => none
  | .str a, .str b => match isEq op with
    | some f => some (.bool (.lit (f == (a.data.toList == b.data.toList))), [], [])
    | none => none
  | x, y => match isEq op with
    | some f => match tyOf P t with
      | some ti => match nilKind ti.desc x y with
        | true => match nilEq x y with
          | some b => some (.bool (.lit (f == b)), [], [])
          | none => none
        | false => none
      | none => none
    | none => none
theorem isEq_cases [Val] {op : BinOp} {f : Bool} (h : isEq op = some f) : op = .eql ∧ f = true ∨ op = .neq ∧ f = false := by
  cases op <;> simp [isEq] at h <;> subst h <;> simp
theorem run_bin_eq [Val] {op : BinOp} {f : Bool} (h : isEq op = some f) {t : TypeId} {x y : Value} {xo yo : Operand} {b : Bool} (hg : (eqGuard op t xo yo x y).run P w = .ok () w)
    (hne : ∀ f, isEq op = some f → binOp op t x y = (Op.equal t x y >>= fun b => pure (.bool (if f then b else !b)))) (he : (Op.equal t x y).run P w = .ok b w) :
    (do eqGuard op t xo yo x y; binOp op t x y : Sem Value).run P w = .ok (.bool (f == b)) w := by
  rw [hne f h]
  simp only [Sem.run_bind, hg, Result.andThen_ok, he, Sem.run_pure]
  cases f <;> cases b <;> rfl
theorem sBin_ok [Val] {op : BinOp} {t : TypeId} {x y : SV} {xv yv : Value} (xo yo : Operand) (d : DenH ρ X w0 look fresh w) (hx : x.Den ρ xv) (hy : y.Den ρ yv) (h : sBin P op t x y = some r) :
    Good P ρ X w0 look fresh id r (do pure (.value (← (do eqGuard op t xo yo xv yv; binOp op t xv yv)))) w := by
  unfold sBin at h
  split at h
  · rename_i k a k' b
    simp only [SV.Den] at hx hy; subst hx hy
    split at h
    · rename_i hs
      split at h <;> try cases h
      rename_i hwi
      have hwi := (SI.within_ok hwi).1
      split at h <;> try cases h
      rename_i v hv
      have hn0 : ¬ (b.v < 0) := by omega
      cases op <;> simp [isShift] at hs <;> simp only [shiftBy, Option.some.injEq] at hv <;> subst hv
      · refine Good.value d (val := .int k (k.wrap (a.v * 2 ^ (min b.v.toNat k.bits)))) ?_ (by simp [SV.Den, IOp.f, COp.f, UOp.f, LOp.f])
        rw [eqGuard_shl, binOp_shl]; simp [Op.shift, hn0]
      · refine Good.value d (val := .int k (a.v.fdiv (2 ^ (min b.v.toNat k.bits)))) ?_ (by simp [SV.Den, IOp.f, COp.f, UOp.f, LOp.f])
        rw [eqGuard_shr, binOp_shr]; simp [Op.shift, hn0]
    · rename_i hs
      split at h <;> try cases h
      rename_i hk
      have hk := of_decide_eq_true hk; subst hk
      split at h <;> try cases h
      rename_i v hv
      have hg : eqGuard op t xo yo (.int k a.v) (.int k b.v) = pure () := eqGuard_at_int _ _ _ _ _ _ _
      rw [hg]
      cases op <;> simp [intBin] at hv <;> simp [isShift] at hs
      case quo =>
        split at hv <;> cases hv
        rename_i hy0
        have hy0 := SI.nonzero_ok hy0
        refine Good.value d (val := .int k (k.wrap (a.v.tdiv b.v))) ?_ (by simp [SV.Den, IOp.f, COp.f, UOp.f, LOp.f])
        simp [binOp_quo, Op.intDiv, hy0]
      case rem =>
        split at hv <;> cases hv
        rename_i hy0
        have hy0 := SI.nonzero_ok hy0
        refine Good.value d (val := .int k (a.v.tmod b.v)) ?_ (by simp [SV.Den, IOp.f, COp.f, UOp.f, LOp.f])
        simp [binOp_rem, Op.intDiv, hy0]
      all_goals
        subst hv
        first
          | (refine Good.value d (val := .int k (k.wrap (a.v + b.v))) ?_ (by simp [SV.Den, IOp.f, COp.f, UOp.f, LOp.f]); simp [binOp_add, Op.intArith]; done)
          | (refine Good.value d (val := .int k (k.wrap (a.v - b.v))) ?_ (by simp [SV.Den, IOp.f, COp.f, UOp.f, LOp.f]); simp [binOp_sub, Op.intArith]; done)
          | (refine Good.value d (val := .int k (k.wrap (a.v * b.v))) ?_ (by simp [SV.Den, IOp.f, COp.f, UOp.f, LOp.f]); simp [binOp_mul, Op.intArith]; done)
          | (refine Good.value d (val := .int k (bits .and k a.v b.v)) ?_ (by simp [SV.Den, IOp.f, COp.f, UOp.f, LOp.f]); simp [binOp_and, intBits_and]; done)
          | (refine Good.value d (val := .int k (bits .or k a.v b.v)) ?_ (by simp [SV.Den, IOp.f, COp.f, UOp.f, LOp.f]); simp [binOp_or, intBits_or]; done)
          | (refine Good.value d (val := .int k (bits .xor k a.v b.v)) ?_ (by simp [SV.Den, IOp.f, COp.f, UOp.f, LOp.f]); simp [binOp_xor, intBits_xor]; done)
          | (refine Good.value d (val := .int k (bits .andNot k a.v b.v)) ?_ (by simp [SV.Den, IOp.f, COp.f, UOp.f, LOp.f]); simp [binOp_andNot, intBits_andNot]; done)
          | (refine Good.value d (val := .bool (a.v == b.v)) ?_ (by simp [SV.Den, IOp.f, COp.f, UOp.f, LOp.f]); simp [binOp_eql]; done)
          | (refine Good.value d (val := .bool (a.v != b.v)) ?_ (by simp [SV.Den, IOp.f, COp.f, UOp.f, LOp.f]); simp [binOp_neq]; done)
          | (refine Good.value d (val := .bool (decide (a.v < b.v))) ?_ (by simp [SV.Den, IOp.f, COp.f, UOp.f, LOp.f]); simp [binOp_lss]; done)
          | (refine Good.value d (val := .bool (decide (a.v ≤ b.v))) ?_ (by simp [SV.Den, IOp.f, COp.f, UOp.f, LOp.f]); simp [binOp_leq]; done)
          | (refine Good.value d (val := .bool (decide (a.v > b.v))) ?_ (by simp [SV.Den, IOp.f, COp.f, UOp.f, LOp.f]); simp [binOp_gtr]; done)
          | (refine Good.value d (val := .bool (decide (a.v ≥ b.v))) ?_ (by simp [SV.Den, IOp.f, COp.f, UOp.f, LOp.f]); simp [binOp_geq]; done)
  · rename_i a b
    split at h <;> try cases h
    rename_i f hf
    split at h <;> try cases h
    rename_i ti hti
    obtain ⟨i, hi, hu, _, _, _⟩ := tyOf_spec hti
    split at h <;> try cases h
    rename_i hdesc
    rw [hdesc] at hu
    simp only [SV.Den] at hx hy; subst hx hy
    refine Good.value d (run_bin_eq hf (b := a.v == b.v) (by rw [eqGuard_at_bool]; rfl) (fun f hf => ?_) (run_equalIn_bool' _ _ _ _ _ hu)) ?_
    · rcases isEq_cases hf with ⟨rfl, rfl⟩ | ⟨rfl, rfl⟩ <;> simp [binOp]
    · simp only [SV.Den]
      cases f <;> simp [SB.flip, LOp.f]
  · rename_i a b
    split at h <;> try cases h
    rename_i f hf
    split at h <;> try cases h
    rename_i hg
    split at h <;> try cases h
    rename_i s hs
    have hx0 := hx
    have hy0 := hy
    simp only [SV.Den] at hx hy
    obtain ⟨va, hva, rfl⟩ := hx
    obtain ⟨vb, hvb, rfl⟩ := hy
    have he := eqS_ok 8 10000 t _ _ _ _ s w (by decide) hs hx0 hy0
    refine Good.value d (run_bin_eq hf (b := s.v) (run_eqGuard_agg _ _ _ _ _ _ _ hg) (fun f hf => ?_) he) ?_
    · rcases isEq_cases hf with ⟨rfl, rfl⟩ | ⟨rfl, rfl⟩ <;> simp [binOp]
    · simp only [SV.Den]
      cases f <;> simp [SB.flip, LOp.f]
  · rename_i a b
    split at h <;> try cases h
    rename_i f hf
    simp only [SV.Den] at hx hy; subst hx hy
    refine Good.value d (val := .bool (f == (a.data.toList == b.data.toList))) ?_ (by simp [SV.Den, IOp.f, COp.f, UOp.f, LOp.f])
    rw [eqGuard_at_string]
    rcases isEq_cases hf with ⟨rfl, rfl⟩ | ⟨rfl, rfl⟩ <;> simp only [binOp, Op.stringOp, ByteArray.toList_eq, Sem.run_bind, Sem.run_pure, Result.andThen_ok]
    · cases (a.data.toList == b.data.toList) <;> rfl
    · cases (a.data.toList == b.data.toList) <;> rfl
  · split at h <;> try cases h
    rename_i f hf
    split at h <;> try cases h
    rename_i ti hti
    split at h <;> try cases h
    rename_i hk
    split at h <;> try cases h
    rename_i b hb
    obtain ⟨he, hg⟩ := nilEq_ok (D := 9999) hti hk hb hx hy w
    refine Good.value d (run_bin_eq hf (b := b) (hg _ _ _) (fun f hf => ?_) he) (by simp [SV.Den, IOp.f, COp.f, UOp.f, LOp.f])
    unfold nilEq at hb
    split at hb <;> first
      | (cases hb; done)
      | (simp only [SV.Den] at hx hy
         (try obtain ⟨b1, m1, _, _, rfl⟩ := hx)
         (try obtain ⟨b1, m1, n1, c1, _, _, _, _, _, rfl⟩ := hx)
         (try obtain ⟨b1, _, rfl⟩ := hx)
         (try obtain ⟨g1, a1, c1, _, _, _, rfl⟩ := hx)
         (try obtain ⟨y1, _, rfl⟩ := hx)
         (try obtain ⟨b2, m2, _, _, rfl⟩ := hy)
         (try obtain ⟨b2, m2, n2, c2, _, _, _, _, _, rfl⟩ := hy)
         (try obtain ⟨b2, _, rfl⟩ := hy)
         (try obtain ⟨g2, a2, c2, _, _, _, rfl⟩ := hy)
         (try obtain ⟨y2, _, rfl⟩ := hy)
         (try subst hx)
         (try subst hy)
         rcases isEq_cases hf with ⟨rfl, rfl⟩ | ⟨rfl, rfl⟩ <;> simp [binOp])

/-! One operand. -/
def sUn (op : UnOp) (x : SV) : R :=
  match op, x with
  | .not, .bool b => some (.bool (SB.not b), [], [])
  | .neg, .int k n => some (.int k (SI.ap (.neg k) n), [], [])
  | .xor, .int k n => some (.int k (SI.ap (.not k) n), [], [])
  | _, _ => none
theorem sUn_ok [Val] {op : UnOp} {x : SV} {xv : Value} (d : DenH ρ X w0 look fresh w) (hx : x.Den ρ xv) (h : sUn op x = some r) : Good P ρ X w0 look fresh id r (do pure (.value (← Op.unary op xv))) w := by
  unfold sUn at h
  split at h <;> try cases h
  · rename_i b
    simp only [SV.Den] at hx; subst hx
    exact Good.value d (val := .bool (!b.v)) (by simp [Op.unary]) (by simp [SV.Den, IOp.f, COp.f, UOp.f, LOp.f])
  · rename_i k n
    simp only [SV.Den] at hx; subst hx
    exact Good.value d (val := .int k (k.wrap (0 - n.v))) (by simp [Op.unary, Op.intArith]) (by simp [SV.Den, IOp.f, COp.f, UOp.f, LOp.f])
  · rename_i k n
    simp only [SV.Den] at hx; subst hx
    refine Good.value d (val := .int k (bits .xor k (if k.signed then -1 else k.max) n.v)) ?_ (by simp [SV.Den, IOp.f, COp.f, UOp.f, LOp.f])
    simp only [Op.unary, intBits_xor, Sem.run_pure]
def sConv (P : Program) (src dst : TypeId) (x : SV) : R :=
  match tyOf P src, tyOf P dst, x with
  | some _, some td, .int _ n => match td.desc with
    | .int k => some (.int k (SI.ap (.wrap k) n), [], [])
    | _ => none
  | _, _, _ => none
theorem sConv_ok [Val] {src dst : TypeId} {x : SV} {xv : Value} (d : DenH ρ X w0 look fresh w) (hx : x.Den ρ xv) (h : sConv P src dst x = some r) : Good P ρ X w0 look fresh id r (do pure (.value (← convert src dst xv))) w := by
  unfold sConv at h
  split at h <;> try cases h
  rename_i ts td k0 n hts htd
  obtain ⟨_, _, hus, _, _, _⟩ := tyOf_spec hts
  obtain ⟨_, _, hud, _, _, _⟩ := tyOf_spec htd
  split at h <;> try cases h
  rename_i k hdesc
  rw [hdesc] at hud
  simp only [SV.Den] at hx; subst hx
  refine Good.value d (val := .int k (k.wrap n.v)) ?_ (by simp [SV.Den, IOp.f, COp.f, UOp.f, LOp.f])
  simp [convert, run_underlying hus, run_underlying hud, Conv.intToInt]
def isIface : TypeDesc → Bool
  | .interface _ => true
  | _ => false
def sIface (P : Program) (t : TypeId) (x : SV) : R :=
  match tyOf P t with
  | some ti => match isIface ti.desc with
    | false => some (.iface t x, [], [])
    | true => none
  | none => none
theorem sIface_ok [Val] {t : TypeId} {x : SV} {xv : Value} (d : DenH ρ X w0 look fresh w) (hx : x.Den ρ xv) (h : sIface P t x = some r) : Good P ρ X w0 look fresh id r (do pure (.value (← Instr.makeInterface t xv))) w := by
  unfold sIface at h
  split at h <;> try cases h
  rename_i ti hti
  obtain ⟨_, _, hu, _, _, _⟩ := tyOf_spec hti
  split at h <;> try cases h
  rename_i hd
  refine Good.value d (val := .iface t xv) ?_ (by simp only [SV.Den]; exact ⟨xv, hx, rfl⟩)
  generalize ti.desc = dd at *
  simp only [Instr.makeInterface, Sem.run_bind, run_underlying hu, Result.andThen_ok]
  cases dd <;> simp [isIface] at hd <;> rfl
def sAssert (P : Program) (x : SV) (t : TypeId) (ok : Bool) : R :=
  match tyOf P t with
  | some ti => match isIface ti.desc with
    | true => none
    | false => match x with
      | .iface u v => match Nat.beq u t with
        | true => match ok with
          | true => some (.tup [v, .bool (.lit true)], [], [])
          | false => some (v, [], [])
        | false => match ok, ti.zero with
          | true, some z => some (.tup [z, .bool (.lit false)], [], [])
          | _, _ => none
      | .nili => match ok, ti.zero with
        | true, some z => some (.tup [z, .bool (.lit false)], [], [])
        | _, _ => none
      | _ => none
  | none => none
theorem sAssert_ok [Val] {x : SV} {xv : Value} {xt t : TypeId} {ok : Bool} (d : DenH ρ X w0 look fresh w) (hx : x.Den ρ xv) (h : sAssert P x t ok = some r) : Good P ρ X w0 look fresh id r (do pure (.value (← Instr.typeAssert xv xt t ok))) w := by
  unfold sAssert at h
  split at h <;> try cases h
  rename_i ti hti
  obtain ⟨i, hi, hu, _, _, hz⟩ := tyOf_spec hti
  split at h <;> try cases h
  rename_i hd
  have tup : ∀ (a : Value) (s : SV) (b : Bool), s.Den ρ a → (SV.tup [s, .bool (.lit b)]).Den ρ (.tuple #[a, .bool b]) := fun a s b ha => by
    simp only [SV.Den]
    exact ⟨[a, .bool b], denL_cons'.2 ⟨ha, denL_cons'.2 ⟨by simp [SV.Den], by simp⟩⟩, by simp⟩
  split at h
  · rename_i u v
    simp only [SV.Den] at hx
    obtain ⟨y, hy, rfl⟩ := hx
    split at h
    · rename_i hb
      have hb := Nat.eq_of_beq_eq_true hb; subst hb
      have e : (Instr.typeAssert (.iface u y) xt u ok).run P w = .ok (if ok then .tuple #[y, .bool true] else y) w := by
        generalize ti.desc = dd at *
        simp only [Instr.typeAssert, Sem.run_bind, run_underlying hu, Result.andThen_ok]
        cases dd <;> simp [isIface] at hd <;> simp
      split at h <;> cases h
      · exact Good.value d e (tup _ _ _ hy)
      · exact Good.value d e hy
    · rename_i hb
      have hb := Nat.ne_of_beq_eq_false hb
      split at h <;> try cases h
      rename_i z hz0
      obtain ⟨zv, hz1, hz2⟩ := hz z hz0
      have e : (Instr.typeAssert (.iface u y) xt t true).run P w = .ok (.tuple #[zv, .bool false]) w := by
        generalize ti.desc = dd at *
        simp only [Instr.typeAssert, Sem.run_bind, run_underlying hu, Result.andThen_ok]
        cases dd <;> simp [isIface] at hd <;> simp [hb, zeroValue, typeInfo, hi, hz1]
      exact Good.value d e (tup _ _ _ (ofVal_den hz2))
  · simp only [SV.Den] at hx; subst hx
    split at h <;> try cases h
    rename_i z hz0
    obtain ⟨zv, hz1, hz2⟩ := hz z hz0
    have e : (Instr.typeAssert .nilIface xt t true).run P w = .ok (.tuple #[zv, .bool false]) w := by
      generalize ti.desc = dd at *
      simp only [Instr.typeAssert, Sem.run_bind, run_underlying hu, Result.andThen_ok]
      cases dd <;> simp [isIface] at hd <;> simp [zeroValue, typeInfo, hi, hz1]
    exact Good.value d e (tup _ _ _ (ofVal_den hz2))
  · cases h
end
end Go.Sx
