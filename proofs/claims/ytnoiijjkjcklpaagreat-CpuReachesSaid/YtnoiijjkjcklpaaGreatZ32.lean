/- Parts of the proof: PVal, Num2, CCpu, SxRch2, SxLw1, SxSane, SxLw2, LReachesT, KitArr, KitCpu, KitInsn. -/
import Derived.Test.YtnoiijjkjcklpaaGreatZ17
import Derived.IntWalk
import Derived.Test.YtnoiijjkjcklpaaGreatRows
import Derived.Test.YtnoiijjkjcklpaaGreatZ1
import Derived.Test.YtnoiijjkjcklpaaGreatZ31
import Derived.Test.YtnoiijjkjcklpaaGreatZ30
import Derived.Test.YtnoiijjkjcklpaaGreatZ18
import Derived.Test.YtnoiijjkjcklpaaGreatZ0
import Derived.Laws.IdiomArrays
import Derived.Lib.SmallJoins
/- What a valid instruction's fields are. -/
namespace Go.Proofs.YtnoiijjkjcklpaaGreat
open Go
theorem opL_mem {op : Int} (h : (opL op).isSome = true) : ∃ p ∈ opTab, p.1 = op ∧ opL op = some p.2 := by
  have g : ∀ l : List (Int × Array UInt8), (l.lookup op).isSome = true → ∃ p ∈ l, p.1 = op ∧ l.lookup op = some p.2 := by
    intro l
    induction l with
    | nil => intro h; cases h
    | cons p l ih =>
      intro h
      rw [List.lookup_cons] at h ⊢
      cases he : op == p.1 with
      | true => exact ⟨p, by simp, (beq_iff_eq.1 he).symm, rfl⟩
      | false =>
        rw [he] at h
        obtain ⟨q, hq, h1, h2⟩ := ih h
        exact ⟨q, List.mem_cons_of_mem _ hq, h1, h2⟩
  exact g opTab h
def memK : List Int := [27, 28, 29, 30, 31, 32, 33, 36, 37, 38, 48, 49]
theorem opTab_rooms : ∀ p ∈ opTab, ((roomOf p.2.toList).a ≤ 15 ∧ (roomOf p.2.toList).b ≤ 15 ∧ (roomOf p.2.toList).c ≤ 15 ∧ (roomOf p.2.toList).d ≤ 15) ∧ ((p.1 = 69 ∨ p.1 = 70) → (roomOf p.2.toList).k = false) ∧ (p.1 ∈ memK → (roomOf p.2.toList).i = false) := by decide +kernel
theorem valid_room {x : Insn} (h : validF x = true) : ∃ r : Room, hasF r x = true ∧ (r.a ≤ 15 ∧ r.b ≤ 15 ∧ r.c ≤ 15 ∧ r.d ≤ 15) ∧ ((x.op = 69 ∨ x.op = 70) → r.k = false) ∧ (x.op ∈ memK → r.i = false) := by
  have h : ((opL x.op).isSome && hasF (roomOf ((opL x.op).getD #[]).toList) x) = true := h
  rw [Bool.and_eq_true] at h
  obtain ⟨p, hp, h1, h2⟩ := opL_mem h.1
  have h3 := h.2
  rw [h2] at h3
  have hr := opTab_rooms p hp
  rw [h1] at hr
  exact ⟨_, h3, hr⟩
theorem wthn_iff {n m : Int} : wthn n m = true ↔ 0 ≤ n ∧ n ≤ m := by unfold wthn; simp
theorem valid_abcd {x : Insn} (h : validF x = true) : (0 ≤ x.a ∧ x.a ≤ 15) ∧ (0 ≤ x.b ∧ x.b ≤ 15) ∧ (0 ≤ x.c ∧ x.c ≤ 15) ∧ (0 ≤ x.d ∧ x.d ≤ 15) := by
  obtain ⟨r, h1, ⟨h2, h3, h4, h5⟩, _⟩ := valid_room h
  unfold hasF at h1
  simp only [Bool.and_eq_true, wthn_iff] at h1
  obtain ⟨⟨⟨⟨⟨p1, p2⟩, p3⟩, p4⟩, _⟩, _⟩ := h1
  omega
theorem valid_k {x : Insn} (h : validF x = true) (ho : x.op = 69 ∨ x.op = 70) : x.k = 0 := by
  obtain ⟨r, h1, _, h2, _⟩ := valid_room h
  unfold hasF at h1
  simp only [Bool.and_eq_true] at h1
  have := h1.1.2
  rw [h2 ho] at this
  simpa using this
theorem valid_i {x : Insn} (h : validF x = true) (ho : x.op ∈ memK) : x.i = 0 := by
  obtain ⟨r, h1, _, _, h2⟩ := valid_room h
  unfold hasF at h1
  simp only [Bool.and_eq_true] at h1
  have := h1.2
  rw [h2 ho] at this
  simpa using this
end Go.Proofs.YtnoiijjkjcklpaaGreat
/- Plain lemmas on whole numbers of 64 bits: masks. -/
namespace Go.Cd
open Go
theorem and_mask64 (x : Int) (i : Nat) (hi : i ≤ 62) : bits .and .i64 x ((2 : Int) ^ i - 1) = x % (2 : Int) ^ i := by
  have hp : (2 : Int) ^ i = ((2 ^ i : Nat) : Int) := by simp
  have hp0 : 0 < 2 ^ i := Nat.two_pow_pos i
  have hp1 : 2 ^ i ≤ 2 ^ 62 := Nat.pow_le_pow_right (by decide) hi
  have e : bits .and .i64 x ((2 : Int) ^ i - 1) = IntKind.i64.wrap (((BitVec.ofInt 64 x &&& BitVec.ofInt 64 ((2 : Int) ^ i - 1)).toNat : Nat) : Int) := by simp only [bits]; rfl
  have h1 : (BitVec.ofInt 64 ((2 : Int) ^ i - 1)).toNat = 2 ^ i - 1 := by
    rw [BitVec.toNat_ofInt, hp, Int.emod_eq_of_lt (by omega) (by omega)]
    omega
  rw [e, BitVec.toNat_and, h1, Nat.and_two_pow_sub_one_eq_mod, BitVec.toNat_ofInt]
  have hd : ((2 ^ i : Nat) : Int) ∣ ((2 ^ 64 : Nat) : Int) := Int.natCast_dvd_natCast.2 (Nat.pow_dvd_pow 2 (by omega))
  have h2 : (((x % ((2 ^ 64 : Nat) : Int)).toNat % 2 ^ i : Nat) : Int) = x % ((2 ^ i : Nat) : Int) := by
    rw [Int.natCast_emod, Int.toNat_of_nonneg (Int.emod_nonneg _ (by decide)), Int.emod_emod_of_dvd _ hd]
  rw [h2, hp]
  have h3 := Int.emod_nonneg x (show ((2 ^ i : Nat) : Int) ≠ 0 by omega)
  have h4 := Int.emod_lt_of_pos x (show 0 < ((2 ^ i : Nat) : Int) by omega)
  exact IntWalk.i64_in _ (by omega)
theorem and1_i64 (k : Int) : bits .and .i64 k 1 = k % 2 := and_mask64 k 1 (by decide)
theorem and15_i64 (k : Int) : bits .and .i64 k 15 = k % 16 := and_mask64 k 4 (by decide)
end Go.Cd
/- The processor's registers as a value. -/
namespace Go.Proofs.YtnoiijjkjcklpaaGreat
open Go Go.RowKit Go.Cd
set_option linter.unusedVariables false

abbrev Regs := Nat → Int
def cpuCell (c : Regs) (j : Nat) : Value := if j = 17 then .int .i64 (c j) else .int .u32 (c j)
def cpuL (c : Regs) : List Value := (List.range 50).map (cpuCell c)
def cpuA (c : Regs) : Array Value := (cpuL c).toArray
def cpuV (c : Regs) : Value := .agg (cpuA c)
theorem cpuA_size (c : Regs) : (cpuA c).size = 50 := by simp [cpuA, cpuL]
theorem cpuA_get (c : Regs) (j : Nat) (h : j < 50) : (cpuA c)[j]? = some (cpuCell c j) := by simp [cpuA, cpuL, h]
theorem cpuCell_u32 (c : Regs) (j : Nat) (h : j ≠ 17) : cpuCell c j = .int .u32 (c j) := by unfold cpuCell; rw [if_neg h]
theorem cpuCell_f (c : Regs) : cpuCell c 17 = .int .i64 (c 17) := rfl
theorem cpuA_17 (c : Regs) : (cpuA c)[17]? = some (.int .i64 (c 17)) := (cpuA_get c 17 (by decide)).trans rfl
theorem cpuA_w (c : Regs) (j : Nat) (h : j < 50) (h' : j ≠ 17) : (cpuA c)[j]? = some (.int .u32 (c j)) := by rw [cpuA_get c j h, cpuCell_u32 c j h']
attribute [local go_sem] cpuA_17
end Go.Proofs.YtnoiijjkjcklpaaGreat
/- Reach of both sides returns the same. -/
namespace Go.Proofs.YtnoiijjkjcklpaaGreat
open Go Go.Sx Go.RowKit Go.Cd Go.MapKept
set_option linter.unusedVariables false
def CpuIn (c : Regs) : Prop := ∀ j, j < 50 → (cpuK j).wrap (c j) = c j
@[reducible] def rchVal (c : Regs) (x : Insn) : Val := ⟨fun i => if i < 7 then x.nth i else c (i - 100), fun _ => false, fun _ _ => 0, fun f l => match f, l with
  | 61, [op, a, b, c, d, k, i] => validF ⟨op, a, b, c, d, k, i⟩
  | _, _ => false, fun _ _ _ => Abs.no, fun _ _ _ _ _ _ _ _ h => h⟩
theorem cpuS_den {c : Regs} (hc : CpuIn c) {V : Val} (hV : ∀ i, i < 50 → V.ints (100 + i) = c i) (ρ : Env) : @SV.Den V ρ cpuS (cpuV c) := by
  letI := V
  have g : ∀ l : List Nat, (∀ i ∈ l, i < 50) → SV.DenL ρ (l.map fun i => SV.int (cpuK i) (.sym (.var (cpuK i) (100 + i)))) (l.map (cpuCell c)) := by
    intro l
    induction l with
    | nil => intro _; simp
    | cons j l ih =>
      intro h
      have hj : j < 50 := h j (by simp)
      refine denL_cons'.2 ⟨?_, ih fun i hi => h i (List.mem_cons_of_mem _ hi)⟩
      simp only [SV.Den, SI.sym_v]
      have e : @Tm.v V (.var (cpuK j) (100 + j)) = c j := by
        show (cpuK j).wrap (V.ints (100 + j)) = _
        rw [hV j hj]; exact hc j hj
      rw [e]
      by_cases h17 : j = 17
      · subst h17; rfl
      · rw [cpuCell_u32 c j h17]
        have : cpuK j = .u32 := by unfold cpuK; split <;> first | rfl | (exact absurd rfl h17)
        rw [this]
  unfold cpuS cpuV cpuA
  simp only [SV.Den]
  exact ⟨_, g (List.range 50) (fun i hi => by simpa using hi), rfl⟩
theorem reach_c {c : Regs} (hc : CpuIn c) {x : Insn} (hx : x.Ok) : ∃ (us : List Value) (cs : List Int), cs.length = shLen shReach ∧ (∀ (V : Val) b ρ, NameOk V b cs → @SV.DenL V ρ (shSV shReach b) us) ∧
    (∀ w, Calls Tryz.prog 21 #[cpuV c, insnV x] w fun e w' => e = .returned (.tuple us.toArray) ∧ New w w') ∧
    ∀ w, Calls Tryz.prog 22 #[cpuV c, insnV x] w fun e w' => e = .returned (.tuple us.toArray) ∧ New w w' := by
  let V := rchVal c x
  letI := V
  have he : ExtOk Tryz.prog (ext Tryz.prog (pureCon isP) noXt noAx) := ext_ok fnOk mixed_ok (pureCon_ok (isP_ok fun _ _ _ _ _ _ _ => rfl)) (pureCon_log _) (noXt_ok _) (noAx_ok _) noAx_safe
  have e0 : @Tm.v V (.var .i64 0) = x.op := hx.op
  have e1 : @Tm.v V (.var .i64 1) = x.a := hx.a
  have e2 : @Tm.v V (.var .i64 2) = x.b := hx.b
  have e3 : @Tm.v V (.var .i64 3) = x.c := hx.c
  have e4 : @Tm.v V (.var .i64 4) = x.d := hx.d
  have e5 : @Tm.v V (.var .i64 5) = x.k := hx.k
  have e6 : @Tm.v V (.var .u32 6) = x.i := hx.i
  have hcS : ∀ ρ, SV.Den ρ cpuS (cpuV c) := fun ρ => cpuS_den hc (fun i _ => by
    show (if 100 + i < 7 then x.nth (100 + i) else c (100 + i - 100)) = c i
    rw [if_neg (by omega), Nat.add_sub_cancel_left]) ρ
  have key : ∀ (b k i : SI) (fs : Facts), b.v = x.b → k.v = x.k → i.v = x.i → FactsOk fs → (rchT Tryz.prog b k i fs).okT = true → ∃ (us : List Value) (cs : List Int), cs.length = shLen shReach ∧ (∀ (V : Val) b ρ, NameOk V b cs → @SV.DenL V ρ (shSV shReach b) us) ∧
    (∀ w, Calls Tryz.prog 21 #[cpuV c, insnV x] w fun e w' => e = .returned (.tuple us.toArray) ∧ New w w') ∧
    ∀ w, Calls Tryz.prog 22 #[cpuV c, insnV x] w fun e w' => e = .returned (.tuple us.toArray) ∧ New w w' := fun b k i fs hb hk hi hfs ht => by
    obtain ⟨us, cs, hle, h1, h2, h3⟩ := pair_callsS fnOk he he hfs (Nat.zero_le _) (Nat.zero_le _) ht
    have hd : ∀ ρ, SV.DenL ρ [cpuS, .agg (insX b k i)] [cpuV c, insnV x] := fun ρ => by
      refine denL_cons'.2 ⟨hcS ρ, denL_cons'.2 ⟨?_, by simp⟩⟩
      simp only [insX, SV.Den]
      refine ⟨_, ?_, rfl⟩
      simp only [denL_cons', SV.Den, SI.sym_v, e0, e1, e3, e4, hb, hk, hi, denL_nil, and_self]
    have h0 : ∀ w, @DenH V (fun _ => none) (fun _ => False) w (find []) (Fr (fun _ => True) 0 0) w := fun w => (DenH.start w fun _ => False).fresh_mono fun _ _ => trivial
    exact ⟨us, cs, hle, h1, fun w => h2 _ _ w (hd _) (h0 w), fun w => h3 _ _ w (hd _) (h0 w)⟩
  have cons : ∀ {p : Bm × Bool} {fs : Facts}, p.1.v = p.2 → FactsOk fs → FactsOk (p :: fs) := fun h hf q hq => by
    rcases List.mem_cons.1 hq with rfl | hq
    · exact h
    · exact hf q hq
  have nil : FactsOk [] := fun p hp => by cases hp
  have hisX : ∀ (b k i : SI), b.v = x.b → k.v = x.k → i.v = x.i → (isX b k i).v = validF x := fun b k i hb hk hi => by
    simp only [isX, isArgs, Bm.v, Tms.v, SI.tm_v, SI.sym_v, e0, e1, e3, e4, hb, hk, hi]
    rfl
  have ho : ∀ n : Int, (opIs n).v = decide (x.op = n) := fun n => by
    show (@Tm.v V (.var .i64 0) == n) = _
    rw [e0]
    by_cases h : x.op = n
    · simp [h]
    · rw [decide_eq_false h]; simpa using h
  by_cases hv : validF x = true
  · have hb : bR.v = x.b := by
      obtain ⟨_, hb, _, _⟩ := valid_abcd hv
      show (IntKind.u8.wrap x.b).tmod 16 = x.b
      rw [wrap_same .u8 (show (0 : Int) ≤ x.b by omega) (show x.b ≤ 255 by omega), Int.tmod_eq_emod_of_nonneg (by omega)]
      omega
    by_cases h1 : x.op = 69 ∨ x.op = 70
    · have hk : (SI.lit 0).v = x.k := by rw [valid_k hv h1]; rfl
      refine key bR (.lit 0) iV rchF1 hb hk e6 (cons ?_ (cons ?_ nil)) rch1
      · exact (hisX bR (.lit 0) iV hb hk e6).trans hv
      · show ((opIs 69).v || (opIs 70).v) = true
        rw [ho, ho]; simpa using h1
    · by_cases h2 : x.i = 0
      · have hi : (SI.lit 0).v = x.i := by rw [h2]; rfl
        refine key bR kV (.lit 0) rchF2 hb e5 hi (cons ?_ (cons ?_ (cons ?_ nil))) rch2
        · exact (hisX bR kV (.lit 0) hb e5 hi).trans hv
        · show (opIs 69).v = false
          rw [ho]; exact decide_eq_false fun h => h1 (.inl h)
        · show (opIs 70).v = false
          rw [ho]; exact decide_eq_false fun h => h1 (.inr h)
      · refine key bR kV iV rchF3 hb e5 e6 (cons ?_ ?_) rch3
        · exact (hisX bR kV iV hb e5 e6).trans hv
        · intro p hp
          obtain ⟨n, hn, rfl⟩ := List.mem_map.1 hp
          show (opIs n).v = false
          rw [ho]
          refine decide_eq_false fun h => ?_
          have hm : x.op ∉ memK := fun hm => h2 (valid_i hv hm)
          subst h
          simp only [rchOps, List.mem_cons, List.not_mem_nil, or_false] at hn
          simp only [memK, List.mem_cons, List.not_mem_nil, or_false] at hm
          omega
  · refine key bV kV iV rchF0 e2 e5 e6 (cons ?_ nil) rch0
    exact (hisX bV kV iV e2 e5 e6).trans (by simpa using hv)
end Go.Proofs.YtnoiijjkjcklpaaGreat
/- Memories in the runs of laws: what is called with them. -/
namespace Go.Proofs.YtnoiijjkjcklpaaGreat
open Go Go.Sx Go.RowKit Go.Cd Go.MapKept
set_option linter.unusedVariables false
theorem DenH.found2 [Val] {ρ : Env} {X : Nat → Prop} {w0 w w' : World} {look : Look} {fresh : Nat → Prop} (d : DenH ρ X w0 look fresh w) (n : New w w') {h g : Nat} (hg : h ≠ g) {o p : SObj} {b c : Nat} {F G : Nat → Prop} {ρ' : Env} (hle : ρ.le ρ') (fh : fresh h) (fg : fresh g) (hb : ρ' h = some b) (hc : ρ' g = some c) (hF : ∀ x, F x → w.heap.size ≤ x) (hG : ∀ x, G x → w.heap.size ≤ x) (hFG : ∀ x, F x → ¬ G x) (hO : OD ρ' o b F w') (hP : OD ρ' p c G w')
    {look' : Look} (hlook : ∀ j, look' j = if j = h then some o else if j = g then some p else look j) {fresh' : Nat → Prop} (hf : ∀ j, fresh' j → ρ' j = none) : DenH ρ' X w0 look' fresh' w' := by
  have hlh := d.fresh_look fh
  have hlg := d.fresh_look fg
  obtain ⟨φ, d⟩ := d
  obtain ⟨n1, n2, n3, n4, n5⟩ := n
  have hsz := d.size
  have old : ∀ j q x, look j = some q → φ j x → x < w.heap.size := fun j q x hj hx => by
    obtain ⟨c, f1, f2⟩ := d.obj j q hj
    exact f2.lt hx
  have cas : ∀ j q, look' j = some q → (j = h ∧ q = o) ∨ (j ≠ h ∧ j = g ∧ q = p) ∨ (j ≠ h ∧ j ≠ g ∧ look j = some q) := fun j q hj => by
    rw [hlook] at hj
    by_cases e : j = h
    · rw [if_pos e] at hj; exact .inl ⟨e, (Option.some.inj hj).symm⟩
    · rw [if_neg e] at hj
      by_cases e' : j = g
      · rw [if_pos e'] at hj; exact .inr (.inl ⟨e, e', (Option.some.inj hj).symm⟩)
      · rw [if_neg e'] at hj; exact .inr (.inr ⟨e, e', hj⟩)
  let ψ : Nat → Nat → Prop := fun j x => if j = h then F x else if j = g then G x else φ j x
  have ψh : ψ h = F := by funext x; simp [ψ]
  have ψg : ψ g = G := by funext x; simp [ψ, Ne.symm hg]
  have ψo : ∀ j, j ≠ h → j ≠ g → ψ j = φ j := fun j e e' => by funext x; simp [ψ, e, e']
  refine ⟨ψ, ?_, ?_, ?_, hf, ?_, Nat.le_trans d.size n4, n1.trans d.os, n2.trans d.tape, n3.trans d.output⟩
  · intro j q hj
    rcases cas j q hj with ⟨rfl, rfl⟩ | ⟨_, rfl, rfl⟩ | ⟨e, e', hj⟩
    · exact ⟨b, hb, by rw [ψh]; exact hO⟩
    · exact ⟨c, hc, by rw [ψg]; exact hP⟩
    · obtain ⟨c, f1, f2⟩ := d.obj j q hj
      refine ⟨c, hle _ _ f1, ?_⟩
      rw [ψo j e e']
      exact f2.keep hle fun x hx => n5 x (f2.lt hx)
  · intro j j' q q' x hj hj' hz hx hx'
    rcases cas j q hj with ⟨rfl, rfl⟩ | ⟨_, rfl, rfl⟩ | ⟨e, e', hj⟩ <;> rcases cas j' q' hj' with ⟨rfl, rfl⟩ | ⟨_, rfl, rfl⟩ | ⟨f, f', hj'⟩
    · rfl
    · rw [ψh] at hx; rw [ψg] at hx'; exact absurd hx' (hFG x hx)
    · rw [ψh] at hx; rw [ψo _ f f'] at hx'; have := hF x hx; have := old _ _ _ hj' hx'; omega
    · rw [ψg] at hx; rw [ψh] at hx'; exact absurd hx (hFG x hx')
    · rfl
    · rw [ψg] at hx; rw [ψo _ f f'] at hx'; have := hG x hx; have := old _ _ _ hj' hx'; omega
    · rw [ψh] at hx'; rw [ψo _ e e'] at hx; have := hF x hx'; have := old _ _ _ hj hx; omega
    · rw [ψg] at hx'; rw [ψo _ e e'] at hx; have := hG x hx'; have := old _ _ _ hj hx; omega
    · rw [ψo _ e e'] at hx; rw [ψo _ f f'] at hx'; exact d.apart j j' q q' x hj hj' hz hx hx'
  · intro j q x hj hz hx
    rcases cas j q hj with ⟨rfl, rfl⟩ | ⟨_, rfl, rfl⟩ | ⟨e, e', hj⟩
    · rw [ψh] at hx; have := hF x hx; exact .inl (by omega)
    · rw [ψg] at hx; have := hG x hx; exact .inl (by omega)
    · rw [ψo _ e e'] at hx; exact d.own j q x hj hz hx
  · intro x hx hX
    rw [n5 x (by omega)]; exact d.frame x hx hX
def conLoaded : Con := fun f args ents next => match Nat.beq f 11, args with
  | true, [.slp 84 (.lit 0)] => match find ents 0 with
    | some (.abs 1090 .nil []) => some (next + 2, .split (.fn 83 .nil)
        (.leaf ⟨.tup [.ptr next (.lit 0), .ptr (next + 1) (.lit 0), .bool (.lit true)], (next, .abs 95 baseT []) :: (next + 1, .abs 96 baseT []) :: ents, [next, next + 1]⟩)
        (.leaf ⟨.tup [.nilp, .nilp, .bool (.lit false)], ents, []⟩))
    | _ => none
  | _, _ => none
def conAlike : Con := fun f args ents next => match Nat.beq f 15, args with
  | true, [.ptr g (.lit 0), .ptr h (.lit 0)] => match base1 95 ents g, base1 96 ents h with
    | true, true => some (next + 2, .leaf ⟨.bool (.lit true), ents, []⟩)
    | _, _ => none
  | _, _ => none
theorem conLoaded_log : ConLog conLoaded := by
  intro f args ents next next' t h
  unfold conLoaded at h
  split at h <;> try (cases h; done)
  split at h <;> cases h
  refine ⟨fun x hx => ?_, fun _ _ => rfl⟩
  have h1 : x ≠ next := fun e => hx (by simp [e])
  have h2 : x ≠ next + 1 := fun e => hx (by simp [e])
  letI : Val := memVal ⟨fun _ => false, fun _ => 0, fun _ _ => 0, []⟩ (fun _ => 0) (fun _ => false)
  show find ((next, _) :: (next + 1, _) :: ents) x = _
  rw [find_cons, if_neg h1, find_cons, if_neg h2]
theorem conAlike_log : ConLog conAlike := by
  intro f args ents next next' t h
  unfold conAlike at h
  split at h <;> try (cases h; done)
  split at h <;> cases h
  exact fun _ _ => rfl
section
variable {m : MM} {E : PgEnv} {good : Bool} {V : Val}
theorem conAlike_ok (hV : LawV m E good V) : @ConOk V Tryz.prog conAlike := by
  intro f args ents next next' t h
  unfold conAlike at h
  split at h <;> try (cases h; done)
  rename_i g h' hf
  have hf := Nat.eq_of_beq_eq_true hf
  split at h <;> cases h
  rename_i q1 q2
  refine ⟨Nat.le_refl _, fun Q hQ vs w ρ X w0 F ha hd hF => ?_⟩
  obtain ⟨b, D, F1, g1, g2⟩ := whole95 (m' := m) hV.a95 rfl (base1_whole q1) hd
  obtain ⟨c, F2, g3, g4⟩ := whole96 (m' := m) hV.a96 rfl (base1_whole q2) hd
  obtain ⟨x0, _, rfl, y0, r0⟩ := denL_cons.1 ha
  obtain ⟨x1, _, rfl, y1, r1⟩ := denL_cons.1 r0
  rw [denL_nil] at r1
  simp only [SV.Den, SOff.Den] at y0 y1
  obtain ⟨b', _, hb', rfl, rfl⟩ := y0
  obtain ⟨c', _, hc', rfl, rfl⟩ := y1
  obtain rfl : b' = b := by rw [g1] at hb'; exact (Option.some.inj hb').symm
  obtain rfl : c' = c := by rw [g3] at hc'; exact (Option.some.inj hc').symm
  subst r1 hf
  refine (alike_c hV.ok (memOk_new g2) (g4.toP hV.ok)).mono ?_
  rintro e w' ⟨rfl, hn⟩
  exact ⟨ρ, _, _, hQ, rfl, Env.le_refl _, by simp only [SV.Den, SB.lit_v], (hd.junk hn).fresh_mono fun j hj => hj.1⟩
theorem conLoaded_ok (hV : LawV m E good V) (hL : E.L.length ≤ 9223372036854775807) : @ConOk V Tryz.prog conLoaded := by
  intro f args ents next next' t h
  unfold conLoaded at h
  split at h <;> try (cases h; done)
  rename_i hf
  have hf := Nat.eq_of_beq_eq_true hf
  split at h <;> cases h
  rename_i hfi
  refine ⟨Nat.le_refl _, fun Q hQ vs w ρ X w0 F ha hd hF => ?_⟩
  obtain ⟨hQ1, hQ2⟩ := hQ
  obtain ⟨p, cap, rfl, hp⟩ : ∃ p cap, vs = [.slice p E.L.length cap] ∧ PagesAt w p E.L := by
    obtain ⟨x0, _, rfl, y0, r0⟩ := denL_cons.1 ha
    rw [denL_nil] at r0; subst r0
    simp only [SV.Den] at y0
    obtain ⟨p, n, cap, rfl, h1, h2⟩ := y0
    have h1 : IntKind.i64.wrap (V.fi 86 [0]) = (n : Int) := h1
    rw [hV.f86, wrap_i64_small (by omega) (by omega)] at h1
    obtain rfl : E.L.length = n := by omega
    obtain ⟨φ, d⟩ := hd
    obtain ⟨b, g1, q, g2, g3⟩ := d.obj _ _ hfi
    rw [hV.a1090] at g3
    obtain ⟨g4, g5, g6⟩ := (g3 : InP E b _ w)
    refine ⟨p, cap, rfl, ?_, g5⟩
    rcases h2 with h2 | h2
    · exact .inl (List.eq_nil_of_length_eq_zero h2)
    · rcases g4 with g4 | ⟨rfl, g7, g8⟩
      · exact .inl g4
      · refine .inr ⟨E.b, E.off, ?_, g7, g8⟩
        rw [h2]
        show some (⟨(V.fi 84 [0]).toNat, (V.fi 85 [0]).toNat, none⟩ : Addr) = _
        rw [hV.f84, hV.f85, Int.toNat_natCast, Int.toNat_natCast]
  subst hf
  have hb : @Bm.v V (.fn 83 .nil) = good := hV.b83
  cases hgd : good with
  | false =>
    rw [hgd] at hb
    have hno : ¬ (E.L.length ≤ 40 ∧ IsPg E.L) := by
      have := hV.is; rw [hgd] at this
      exact of_decide_eq_false this.symm
    refine (loaded_no cap hp hno).mono ?_
    rintro e w' ⟨hn, rfl⟩
    refine ⟨ρ, _, _, hQ2 hb, rfl, Env.le_refl _, ?_, (hd.junk hn).fresh_mono fun j hj => hj.1⟩
    simp only [SV.Den]
    exact ⟨[_, _, _], denL_cons'.2 ⟨by simp only [SV.Den], denL_cons'.2 ⟨by simp only [SV.Den], denL_cons'.2 ⟨by simp only [SV.Den, SB.lit_v], by simp⟩⟩⟩, rfl⟩
  | true =>
    rw [hgd] at hb
    have hyes : E.L.length ≤ 40 ∧ IsPg E.L := by
      have := hV.is; rw [hgd] at this
      exact of_decide_eq_true this.symm
    refine (loaded_yes cap hp hyes.2 hV.ok (hV.pg hgd) hyes.1).mono ?_
    rintro e w' ⟨hn, b, c, D, F1, G1, rfl, hM, hR, hF1, hG1, hFG⟩
    have f0 : F next := hF _ (Nat.le_refl _) (by omega)
    have f1 : F (next + 1) := hF _ (by omega) (by omega)
    have hle1 : ρ.le (ρ.put next b) := Env.le_put _ (hd.newName f0)
    have hn1 : (ρ.put next b) (next + 1) = none := by rw [Env.put_other _ _ (by omega)]; exact hd.newName f1
    have hle : ρ.le ((ρ.put next b).put (next + 1) c) := Env.le_trans hle1 (Env.le_put _ hn1)
    have e0 : ((ρ.put next b).put (next + 1) c) next = some b := by rw [Env.put_other _ _ (by omega), Env.put_same]
    have e1 : ((ρ.put next b).put (next + 1) c) (next + 1) = some c := Env.put_same _ _ _
    refine ⟨(ρ.put next b).put (next + 1) c, _, _, hQ1 hb, rfl, hle, ?_, ?_⟩
    · simp only [SV.Den]
      refine ⟨[_, _, _], denL_cons'.2 ⟨?_, denL_cons'.2 ⟨?_, denL_cons'.2 ⟨by simp only [SV.Den, SB.lit_v], by simp⟩⟩⟩, rfl⟩
      · simp only [SV.Den, SOff.Den]; exact ⟨b, 0, e0, rfl, rfl⟩
      · simp only [SV.Den, SOff.Den]; exact ⟨c, 0, e1, rfl, rfl⟩
    · refine DenH.found2 hd hn (h := next) (g := next + 1) (by omega) (o := .abs 95 baseT []) (p := .abs 96 baseT []) hle f0 f1 e0 e1 hF1 hG1 hFG ⟨[], rfl, ?_⟩ ⟨[], rfl, ?_⟩ (fun j => by rw [find_cons, find_cons]) fun j hj => ?_
      · rw [hV.a95]; exact ⟨[], m, D, rfl, hM⟩
      · rw [hV.a96]; exact ⟨[], m, rfl, hR.whole⟩
      · rw [Env.put_other _ _ (by have := hj.2; omega), Env.put_other _ _ (by have := hj.2; omega)]
        exact hd.newName hj.1
end
end Go.Proofs.YtnoiijjkjcklpaaGreat
/- The seat's sane. -/
namespace Go.Proofs.YtnoiijjkjcklpaaGreat
open Go Go.Sx Go.RowKit Go.Cd Go.MapKept
theorem sane_c (w : World) : Calls Tryz.prog 10 #[] w fun e w' => e = .returned (.bool true) ∧ New w w' := by
  letI := noVal
  have hv : SV.DenL (fun _ => none) [] [] := by simp
  exact law_calls fnOk mixed_ok (noPure_ok _) (noXt_ok _) (by rw [sane_runs]; rfl) hv w
end Go.Proofs.YtnoiijjkjcklpaaGreat
/- Reach and Fetch in the runs of laws: their results have names. -/
namespace Go.Proofs.YtnoiijjkjcklpaaGreat
open Go Go.Sx Go.RowKit Go.Cd Go.MapKept
set_option linter.unusedVariables false
theorem law_callsH [Val] {P : Program} (hok : FnOk P) (hm : P.follows .mixedOrders = true) {con : Con} (hcon : ConOk P con) (hcl : ConLog con) {xt : FuncId → List SV → Option SV} (hxt : XtOk P xt) {ax : Ax} (hax : AxOk P ax) (hs : AxSafe ax)
    {fs : Facts} (hfs : FactsOk fs) {f : FuncId} {args : List SV} {ents : Ents} {n : Nat} (h : (lawTreeG P con xt ax fs f args ents 1 n).trueF fs = true) {ρ : Env} {vs : List Value} (hv : SV.DenL ρ args vs) {w : World}
    (hd : DenH ρ (fun _ => False) w (find ents) (Fr (fun _ => True) 0 1) w) : Calls P f vs.toArray w fun e w' => e = .returned (.bool true) ∧ New w w' :=
  law_callsG hok hm hcon hcl hxt hax hs hfs (Tree.sat_trueF hfs h) hv hd (Nat.one_le_two_pow)
def insnS0 : SV := .agg (insX bV kV iV)
def pcS : SV := .int .u32 (.sym (.var .u32 116))
def conReach : Con := fun f args ents next => match Nat.beq f 21 || Nat.beq f 22 with
  | true => match SV.alikeL [] [cpuS, insnS0] args with
    | true => some (next + 2, .leaf ⟨.tup (shSV shReach 2000), ents, []⟩)
    | false => none
  | false => none
def conFetch : Con := fun f args ents next => match args with
  | [a, .ptr h (.lit 0)] => match SV.alike [] pcS a with
    | true => match Nat.beq f 23 && base1 95 ents h || Nat.beq f 24 && base1 96 ents h with
      | true => some (next + 2, .leaf ⟨.tup (shSV shFetch 3000), ents, []⟩)
      | false => none
    | false => none
  | _ => none
theorem conReach_log : ConLog conReach := by
  intro f args ents next next' t h
  unfold conReach at h
  split at h <;> try (cases h; done)
  split at h <;> cases h
  exact fun _ _ => rfl
theorem conFetch_log : ConLog conFetch := by
  intro f args ents next next' t h
  unfold conFetch at h
  split at h <;> try (cases h; done)
  split at h <;> try (cases h; done)
  split at h <;> cases h
  exact fun _ _ => rfl
def saneP : Pure := fun f args => match Nat.beq f 10, args with
  | true, [] => some (.bool (.lit true))
  | _, _ => none
theorem saneP_ok [Val] : PureOk Tryz.prog saneP := by
  intro f args v h ρ vs w hvs
  unfold saneP at h
  split at h <;> cases h
  rename_i hf
  have hf := Nat.eq_of_beq_eq_true hf; subst hf
  rw [denL_nil] at hvs
  subst hvs
  exact (sane_c w).mono fun e w' ⟨h1, h2⟩ => ⟨_, h1, by simp only [SV.Den, SB.lit_v], h2⟩
def lawCon : Con := conOr conLoaded (conOr conAlike (conOr conReach (conOr conFetch (pureCon saneP))))
def lawInts (c : Regs) (x : Insn) : Nat → Int := fun i => if i < 7 then x.nth i else c (i - 100)
def lawNm (rs fs : List Int) : Nat → Int := fun f => if f < 3000 then rs.getD (f - 2000) 0 else fs.getD (f - 3000) 0
section
variable {m : MM} {E : PgEnv} {good : Bool} {c : Regs} {x : Insn} {rs fs : List Int}
theorem law_cpu (hc : CpuIn c) (ρ : Env) : @SV.Den (lawVal m E good (lawInts c x) (lawNm rs fs) fb61) ρ cpuS (cpuV c) := cpuS_den hc (fun i _ => by
  show (if 100 + i < 7 then x.nth (100 + i) else c (100 + i - 100)) = c i
  rw [if_neg (by omega), Nat.add_sub_cancel_left]) ρ
theorem law_insn (hx : x.Ok) (ρ : Env) : @SV.Den (lawVal m E good (lawInts c x) (lawNm rs fs) fb61) ρ insnS0 (insnV x) := by
  letI : Val := lawVal m E good (lawInts c x) (lawNm rs fs) fb61
  have e0 : Tm.v (.var .i64 0) = x.op := hx.op
  have e1 : Tm.v (.var .i64 1) = x.a := hx.a
  have e2 : Tm.v (.var .i64 2) = x.b := hx.b
  have e3 : Tm.v (.var .i64 3) = x.c := hx.c
  have e4 : Tm.v (.var .i64 4) = x.d := hx.d
  have e5 : Tm.v (.var .i64 5) = x.k := hx.k
  have e6 : Tm.v (.var .u32 6) = x.i := hx.i
  simp only [insnS0, insX, bV, kV, iV, SV.Den]
  refine ⟨_, ?_, rfl⟩
  simp only [denL_cons', SV.Den, SI.sym_v, e0, e1, e2, e3, e4, e5, e6, denL_nil, and_self]
theorem law_pc (hc : CpuIn c) (ρ : Env) : @SV.Den (lawVal m E good (lawInts c x) (lawNm rs fs) fb61) ρ pcS (.int .u32 (c 16)) := by
  letI : Val := lawVal m E good (lawInts c x) (lawNm rs fs) fb61
  have e : Tm.v (.var .u32 116) = c 16 := hc 16 (by decide)
  simp only [pcS, SV.Den, SI.sym_v, e]
theorem lawFi_nm {nm : Nat → Int} (f : Nat) : lawFi m E nm f [] = nm f := by
  unfold lawFi
  split <;> first | rfl | simp_all
theorem name_R (n : rs.length ≤ 1000) : NameOk (lawVal m E good (lawInts c x) (lawNm rs fs) fb61) 2000 rs := fun i hi => by
  refine (lawFi_nm (2000 + i)).trans ?_
  show (if 2000 + i < 3000 then rs.getD (2000 + i - 2000) 0 else fs.getD (2000 + i - 3000) 0) = _
  rw [if_pos (by omega), Nat.add_sub_cancel_left]
theorem name_F : NameOk (lawVal m E good (lawInts c x) (lawNm rs fs) fb61) 3000 fs := fun i hi => by
  refine (lawFi_nm (3000 + i)).trans ?_
  show (if 3000 + i < 3000 then rs.getD (3000 + i - 2000) 0 else fs.getD (3000 + i - 3000) 0) = _
  rw [if_neg (by omega), Nat.add_sub_cancel_left]
theorem conReach_ok (hc : CpuIn c) (hx : x.Ok) {us : List Value} (n : rs.length ≤ 1000) (h1 : ∀ (V : Val) b ρ, NameOk V b rs → @SV.DenL V ρ (shSV shReach b) us)
    (h2 : ∀ w, Calls Tryz.prog 21 #[cpuV c, insnV x] w fun e w' => e = .returned (.tuple us.toArray) ∧ New w w') (h3 : ∀ w, Calls Tryz.prog 22 #[cpuV c, insnV x] w fun e w' => e = .returned (.tuple us.toArray) ∧ New w w') :
    @ConOk (lawVal m E good (lawInts c x) (lawNm rs fs) fb61) Tryz.prog conReach := by
  letI V : Val := lawVal m E good (lawInts c x) (lawNm rs fs) fb61
  intro f args ents next next' t h
  unfold conReach at h
  split at h <;> try (cases h; done)
  rename_i hf
  split at h <;> cases h
  rename_i hal
  refine ⟨Nat.le_refl _, fun Q hQ vs w ρ X w0 F ha hd hF => ?_⟩
  have hvs : vs = [cpuV c, insnV x] := by
    have hs : SV.scalL [cpuS, insnS0] = true := by kernel_rfl
    obtain ⟨ys, hy⟩ := SV.scalL_den hs
    have a1 := (hy ρ vs).1 (SV.alikeL_ok (fs := []) (fun p hp => by cases hp) hal ha)
    have a2 := (hy ρ [cpuV c, insnV x]).1 (denL_cons'.2 ⟨law_cpu hc ρ, denL_cons'.2 ⟨law_insn hx ρ, by simp⟩⟩)
    rw [a1, a2]
  subst hvs
  have g : Calls Tryz.prog f #[cpuV c, insnV x] w fun e w' => e = .returned (.tuple us.toArray) ∧ New w w' := by
    rcases Bool.or_eq_true _ _ ▸ hf with hf | hf
    · have hf := Nat.eq_of_beq_eq_true hf; subst hf; exact h2 w
    · have hf := Nat.eq_of_beq_eq_true hf; subst hf; exact h3 w
  refine g.mono ?_
  rintro e w' ⟨rfl, hn⟩
  refine ⟨ρ, _, _, hQ, rfl, Env.le_refl _, ?_, (hd.junk hn).fresh_mono fun j hj => hj.1⟩
  simp only [SV.Den]
  exact ⟨us, h1 V 2000 ρ (name_R n), rfl⟩
theorem conFetch_ok (H : LawH m E good) (hc : CpuIn c) {us : List Value} (h1 : ∀ (V : Val) b ρ, NameOk V b fs → @SV.DenL V ρ (shSV shFetch b) us)
    (h2 : ∀ w b D F, MemOk m MM.none 0 b D F w → Calls Tryz.prog 23 #[.int .u32 (c 16), .pointer (some ⟨b, 0, none⟩)] w fun e w' => e = .returned (.tuple us.toArray) ∧ New w w')
    (h3 : ∀ w b F, RMemW m b F w → Calls Tryz.prog 24 #[.int .u32 (c 16), .pointer (some ⟨b, 0, none⟩)] w fun e w' => e = .returned (.tuple us.toArray) ∧ New w w') :
    @ConOk (lawVal m E good (lawInts c x) (lawNm rs fs) fb61) Tryz.prog conFetch := by
  letI V : Val := lawVal m E good (lawInts c x) (lawNm rs fs) fb61
  have hV : LawV m E good V := lawVal_ok H _ _ _
  intro f args ents next next' t h
  unfold conFetch at h
  split at h <;> try (cases h; done)
  rename_i a hh
  split at h <;> try (cases h; done)
  rename_i hal
  split at h <;> cases h
  rename_i hf
  refine ⟨Nat.le_refl _, fun Q hQ vs w ρ X w0 F ha hd hF => ?_⟩
  obtain ⟨x0, _, rfl, y0, r0⟩ := denL_cons.1 ha
  obtain ⟨x1, _, rfl, y1, r1⟩ := denL_cons.1 r0
  rw [denL_nil] at r1; subst r1
  have hx0 : x0 = .int .u32 (c 16) := by
    have hs : SV.scal pcS = true := rfl
    obtain ⟨y, hy⟩ := SV.scal_den hs
    have a1 := (hy ρ x0).1 (SV.alike_ok (fs := []) (fun p hp => by cases hp) hal y0)
    have a2 := (hy ρ _).1 (law_pc hc ρ)
    rw [a1, a2]
  subst hx0
  simp only [SV.Den, SOff.Den] at y1
  obtain ⟨b, _, hb, rfl, rfl⟩ := y1
  have g : Calls Tryz.prog f #[.int .u32 (c 16), .pointer (some ⟨b, 0, none⟩)] w fun e w' => e = .returned (.tuple us.toArray) ∧ New w w' := by
    rcases Bool.or_eq_true _ _ ▸ hf with hf | hf
    · obtain ⟨hf, hb1⟩ := Bool.and_eq_true _ _ ▸ hf
      have hf := Nat.eq_of_beq_eq_true hf; subst hf
      obtain ⟨b', D, F1, g1, g2⟩ := whole95 (m' := m) hV.a95 rfl (base1_whole hb1) hd
      obtain rfl : b = b' := by rw [hb] at g1; exact Option.some.inj g1
      exact h2 w b D F1 g2
    · obtain ⟨hf, hb1⟩ := Bool.and_eq_true _ _ ▸ hf
      have hf := Nat.eq_of_beq_eq_true hf; subst hf
      obtain ⟨b', F1, g1, g2⟩ := whole96 (m' := m) hV.a96 rfl (base1_whole hb1) hd
      obtain rfl : b = b' := by rw [hb] at g1; exact Option.some.inj g1
      exact h3 w b F1 g2
  refine g.mono ?_
  rintro e w' ⟨rfl, hn⟩
  refine ⟨ρ, _, _, hQ, rfl, Env.le_refl _, ?_, (hd.junk hn).fresh_mono fun j hj => hj.1⟩
  simp only [SV.Den]
  exact ⟨us, h1 V 3000 ρ name_F, rfl⟩
end
end Go.Proofs.YtnoiijjkjcklpaaGreat
/- The run of CpuReaches. -/
namespace Go.Proofs.YtnoiijjkjcklpaaGreat
open Go Go.Sx Go.RowKit Go.Cd Go.MapKept
theorem reachesT_true : (lawTreeG Tryz.prog lawCon noXt noAx [] 6 [.slp 84 (.lit 0), cpuS, insnS0] [(0, .abs 1090 .nil [])] 1 3000).trueF [] = true := by kernel_rfl
end Go.Proofs.YtnoiijjkjcklpaaGreat
/- Arrays of whole numbers that came in by value. -/
namespace Go.Cd
open Go Go.ChangeShapes Go.WideShapes Go.ChangeAt Go.RowKit
section
variable {H : Type} {enc : TypeId × Value → H} {P : Program} {w : World} {base : Nat} {spare : Nat → Bool} {held : Bool}
def arrInt : Value → Int
  | .int _ q => q
  | _ => 0
theorem okWide_array {r : Reach} {b0 n : Nat} {t e : TypeId} {v : Value} (ht : P.underlying t = some (.array n e)) (h : Value.okWide P w r b0 t v) : ∃ cs, v = .agg cs ∧ cs.size = P.cellsOf t := by
  unfold Value.okWide at h
  rw [ht] at h
  obtain ⟨cs, h1, h2, _⟩ := h
  exact ⟨cs, h1, h2⟩
theorem trod_ints_arr {n fuel : Nat} {t e : TypeId} {k : IntKind} {cs : List Value} {x : DataW H × List MemPlace} (ht : P.underlying t = some (.array n e)) (he : P.underlying e = some (.int k)) (hce : P.cellsOf e = 1) (hct : P.cellsOf t = n)
    (h : DataW.trod enc P w base spare held fuel t cs = some x) : ∃ l : List Int, cs = l.map (Value.int k) ∧ l.length = n ∧ ∀ z ∈ l, (Lit.int k z).wf = true := by
  obtain ⟨xs, m, _, _, hlen, hxl, hf⟩ := DataW.trod_array ht h
  rw [hct] at hlen
  have key : ∀ i, i < n → ∃ z : Int, cs[i]? = some (.int k z) ∧ (Lit.int k z).wf = true := fun i hi => by
    have h1 := hf i hi
    rw [List.getElem?_eq_getElem (by omega), hce, Nat.mul_one] at h1
    obtain ⟨z, hz, _, hw⟩ := DataW.trod_int he h1
    refine ⟨z, ?_, hw⟩
    have h2 : ((cs.drop i).take 1)[0]? = some (.int k z) := by rw [hz]; rfl
    rw [List.getElem?_take_of_lt (by decide), List.getElem?_drop] at h2
    simpa using h2
  have all : ∀ v ∈ cs, v = .int k (arrInt v) ∧ (Lit.int k (arrInt v)).wf = true := fun v hv => by
    obtain ⟨i, hi⟩ := List.mem_iff_getElem?.1 hv
    have hi' : i < n := by have := (List.getElem?_eq_some_iff.1 hi).1; omega
    obtain ⟨z, h1, h2⟩ := key i hi'
    rw [hi] at h1
    rw [Option.some.inj h1]
    exact ⟨rfl, h2⟩
  refine ⟨cs.map arrInt, ?_, by simpa using hlen, fun z hz => ?_⟩
  · rw [List.map_map]
    conv => lhs; rw [← List.map_id cs]
    exact List.map_congr_left fun v hv => (all v hv).1
  · obtain ⟨v, hv, rfl⟩ := List.mem_map.1 hz
    exact (all v hv).2
theorem open_ints_arr {r : Reach} {b0 n : Nat} {t e : TypeId} {k : IntKind} {v : Value} {d : DataW H} {p : List MemPlace} (ht : P.underlying t = some (.array n e)) (he : P.underlying e = some (.int k)) (hce : P.cellsOf e = 1) (hct : P.cellsOf t = n)
    (hv : Value.okWide P w r b0 t v) (h : DataW.Trod enc P w base spare held t v d p) : ∃ l : List Int, v = .agg (l.map (Value.int k)).toArray ∧ l.length = n ∧ ∀ z ∈ l, (Lit.int k z).wf = true := by
  obtain ⟨cs, rfl, hsz⟩ := okWide_array ht hv
  obtain ⟨fuel, hf⟩ := h
  obtain ⟨l, h1, h2, h3⟩ := trod_ints_arr ht he hce hct hf
  refine ⟨l, ?_, h2, h3⟩
  have : cs.toList = l.map (Value.int k) := by simpa [Value.cells] using h1
  rw [← this]
end
end Go.Cd
/- A CPU that came in by value. -/
namespace Go.Proofs.YtnoiijjkjcklpaaGreat
open Go Go.Cd Go.ChangeShapes Go.WideShapes Go.ChangeAt Go.RowKit
def CpuOk (c : Regs) : Prop := (∀ j, j < 50 → j ≠ 17 → 0 ≤ c j ∧ c j < 4294967296) ∧ -9223372036854775808 ≤ c 17 ∧ c 17 < 9223372036854775808
section
variable {H : Type} {enc : TypeId × Value → H} {w : World} {base : Nat} {spare : Nat → Bool} {held : Bool}
set_option maxRecDepth 100000 in
theorem open_cpu {r : Reach} {b0 : Nat} {v : Value} {d : DataW H} {p : List MemPlace} (hv : Value.okWide Tryz.prog w r b0 29 v) (h : DataW.Trod enc Tryz.prog w base spare held 29 v d p) : ∃ c : Regs, v = cpuV c ∧ CpuOk c := by
  obtain ⟨cs, rfl, hsz⟩ := okWide_struct Tryz.underlying29 hv
  have hsz : cs.size = 50 := hsz.trans (by kernel_rfl)
  obtain ⟨fuel, hf⟩ := h
  obtain ⟨y0, y1, y2, y3, n, hx, _, h0, h1, h2, h3⟩ := Joins.trod_struct4 Tryz.underlying29 hf
  have hcells : (Value.agg cs).cells.toList = cs.toList := rfl
  rw [hcells] at h0 h1 h2 h3
  have k0 : Tryz.prog.cellsOf 24 = 16 := by kernel_rfl
  have k1 : Tryz.prog.cellsOf 23 = 1 := by kernel_rfl
  have k2 : Tryz.prog.cellsOf 3 = 1 := by kernel_rfl
  have k3 : Tryz.prog.cellsOf 27 = 32 := by kernel_rfl
  have k4 : Tryz.prog.cellsOf 26 = 4 := by kernel_rfl
  simp only [k0, k1, k2, k3] at h0 h1 h2 h3
  obtain ⟨l0, e0, n0, w0⟩ := trod_ints_arr Tryz.underlying24 Tryz.underlying23 k1 k0 h0
  obtain ⟨z1, e1, _, w1⟩ := DataW.trod_int Tryz.underlying23 h1
  obtain ⟨z2, e2, _, w2⟩ := DataW.trod_int Tryz.underlying3 h2
  obtain ⟨xs, m, _, _, _, hxl, hf3⟩ := DataW.trod_array Tryz.underlying27 h3
  have key : ∀ j, j < 50 → ∃ z : Int, cs.toList[j]? = some (if j = 17 then .int .i64 z else .int .u32 z) ∧ if j = 17 then -9223372036854775808 ≤ z ∧ z < 9223372036854775808 else 0 ≤ z ∧ z < 4294967296 := by
    intro j hj
    have hlen : cs.toList.length = 50 := by simpa using hsz
    rcases (show j < 16 ∨ j = 16 ∨ j = 17 ∨ 18 ≤ j by omega) with c | c | c | c
    · have h5 : ((cs.toList.drop 0).take 16)[j]? = (l0.map (Value.int .u32))[j]? := by rw [e0]
      rw [List.getElem?_take_of_lt c, List.drop_zero, List.getElem?_map, List.getElem?_eq_getElem (l := l0) (i := j) (by omega)] at h5
      refine ⟨l0[j], ?_, ?_⟩
      · rw [if_neg (by omega)]; simpa using h5
      · rw [if_neg (by omega)]; exact wf_u32 (w0 _ (List.getElem_mem _))
    · subst c
      refine ⟨z1, ?_, ?_⟩
      · have h5 : ((cs.toList.drop 16).take 1)[0]? = some (.int .u32 z1) := by rw [e1]; rfl
        rw [List.getElem?_take_of_lt (by decide), List.getElem?_drop] at h5
        simpa using h5
      · exact wf_u32 w1
    · subst c
      refine ⟨z2, ?_, ?_⟩
      · have h5 : ((cs.toList.drop 17).take 1)[0]? = some (.int .i64 z2) := by rw [e2]; rfl
        rw [List.getElem?_take_of_lt (by decide), List.getElem?_drop] at h5
        simpa using h5
      · exact wf_i64 w2
    · have hq : (j - 18) / 4 < 8 := by omega
      have h6 := hf3 ((j - 18) / 4) hq
      rw [List.getElem?_eq_getElem (by omega), k4] at h6
      obtain ⟨l6, e6, n6, w6⟩ := trod_ints_arr Tryz.underlying26 Tryz.underlying23 k1 k4 h6
      have hr : (j - 18) % 4 < l6.length := by omega
      have h7 : (((((cs.toList.drop 18).take 32).drop ((j - 18) / 4 * 4)).take 4)[(j - 18) % 4]?) = (l6.map (Value.int .u32))[(j - 18) % 4]? := by rw [e6]
      rw [List.getElem?_take_of_lt (by omega), List.getElem?_drop, List.getElem?_take_of_lt (by omega), List.getElem?_drop, List.getElem?_map, List.getElem?_eq_getElem hr] at h7
      rw [show 18 + ((j - 18) / 4 * 4 + (j - 18) % 4) = j by omega] at h7
      refine ⟨l6[(j - 18) % 4], ?_, ?_⟩
      · rw [if_neg (by omega)]; simpa using h7
      · rw [if_neg (by omega)]; exact wf_u32 (w6 _ (List.getElem_mem _))
  let c : Regs := fun j => arrInt (cs.toList.getD j (.int .u32 0))
  have hc : ∀ j, j < 50 → cs.toList[j]? = some (cpuCell c j) ∧ if j = 17 then -9223372036854775808 ≤ c j ∧ c j < 9223372036854775808 else 0 ≤ c j ∧ c j < 4294967296 := by
    intro j hj
    obtain ⟨z, z1, z2⟩ := key j hj
    have e : c j = z := by
      show arrInt (cs.toList.getD j (.int .u32 0)) = z
      rw [List.getD_eq_getElem?_getD, z1]
      by_cases q : j = 17 <;> simp [q, arrInt]
    refine ⟨?_, by rw [e]; exact z2⟩
    rw [z1]; unfold cpuCell; rw [e]
    first | done | (split <;> rfl)
  refine ⟨c, ?_, fun j hj hne => ?_, ?_⟩
  · unfold cpuV cpuA
    congr 1
    apply Array.ext'
    rw [List.toList_toArray]
    apply List.ext_getElem?
    intro j
    by_cases hj : j < 50
    · rw [(hc j hj).1]; simp [cpuL, hj]
    · rw [List.getElem?_eq_none (by simp; omega), List.getElem?_eq_none (by simp [cpuL]; omega)]
  · have := (hc j hj).2
    rwa [if_neg hne] at this
  · have := (hc 17 (by decide)).2
    rwa [if_pos rfl] at this
end
end Go.Proofs.YtnoiijjkjcklpaaGreat
/- An instruction that came in by value. -/
namespace Go.Proofs.YtnoiijjkjcklpaaGreat
open Go Go.Cd Go.ChangeShapes Go.WideShapes Go.ChangeAt Go.RowKit
def insV (op a b c d k i : Int) : Value := .agg #[.int .i64 op, .int .i64 a, .int .i64 b, .int .i64 c, .int .i64 d, .int .i64 k, .int .u32 i]
def In64 (n : Int) : Prop := -9223372036854775808 ≤ n ∧ n < 9223372036854775808
section
variable {H : Type} {enc : TypeId × Value → H} {w : World} {base : Nat} {spare : Nat → Bool} {held : Bool}
set_option maxRecDepth 100000 in
theorem open_insn {r : Reach} {b0 : Nat} {v : Value} {d : DataW H} {p : List MemPlace} (hv : Value.okWide Tryz.prog w r b0 54 v) (h : DataW.Trod enc Tryz.prog w base spare held 54 v d p) :
    ∃ op a b c d k i, v = insV op a b c d k i ∧ In64 op ∧ In64 a ∧ In64 b ∧ In64 c ∧ In64 d ∧ In64 k ∧ 0 ≤ i ∧ i < 4294967296 := by
  obtain ⟨cs, rfl, hsz⟩ := okWide_struct Tryz.underlying54 hv
  have hsz : cs.size = 7 := hsz.trans (by kernel_rfl)
  obtain ⟨fuel, hf⟩ := h
  obtain ⟨xs, n, _, _, hl, hlen, hx⟩ := DataW.trod_struct Tryz.underlying54 hf
  have hcells : (Value.agg cs).cells.toList = cs.toList := rfl
  rw [hcells] at hx
  have k1 : Tryz.prog.cellsOf 23 = 1 := by kernel_rfl
  have k2 : Tryz.prog.cellsOf 3 = 1 := by kernel_rfl
  obtain ⟨l, rfl⟩ : ∃ l : List Value, cs = l.toArray := ⟨cs.toList, by simp⟩
  have hsz : l.length = 7 := by simpa using hsz
  match l, hsz with
  | [x0, x1, x2, x3, x4, x5, x6], _ =>
    have hxl : xs.length = 7 := by simpa using hlen
    match xs, hxl with
    | [y0, y1, y2, y3, y4, y5, y6], _ =>
      have h0 : DataW.trod enc Tryz.prog w base spare held n 3 (([x0, x1, x2, x3, x4, x5, x6].drop 0).take (Tryz.prog.cellsOf 3)) = some y0 := hx 0 _ rfl
      rw [k2] at h0
      have h1 : DataW.trod enc Tryz.prog w base spare held n 3 (([x0, x1, x2, x3, x4, x5, x6].drop 1).take (Tryz.prog.cellsOf 3)) = some y1 := hx 1 _ rfl
      rw [k2] at h1
      have h2 : DataW.trod enc Tryz.prog w base spare held n 3 (([x0, x1, x2, x3, x4, x5, x6].drop 2).take (Tryz.prog.cellsOf 3)) = some y2 := hx 2 _ rfl
      rw [k2] at h2
      have h3 : DataW.trod enc Tryz.prog w base spare held n 3 (([x0, x1, x2, x3, x4, x5, x6].drop 3).take (Tryz.prog.cellsOf 3)) = some y3 := hx 3 _ rfl
      rw [k2] at h3
      have h4 : DataW.trod enc Tryz.prog w base spare held n 3 (([x0, x1, x2, x3, x4, x5, x6].drop 4).take (Tryz.prog.cellsOf 3)) = some y4 := hx 4 _ rfl
      rw [k2] at h4
      have h5 : DataW.trod enc Tryz.prog w base spare held n 3 (([x0, x1, x2, x3, x4, x5, x6].drop 5).take (Tryz.prog.cellsOf 3)) = some y5 := hx 5 _ rfl
      rw [k2] at h5
      have h6 : DataW.trod enc Tryz.prog w base spare held n 23 (([x0, x1, x2, x3, x4, x5, x6].drop 6).take (Tryz.prog.cellsOf 23)) = some y6 := hx 6 _ rfl
      rw [k1] at h6
      obtain ⟨z0, e0, _, w0⟩ := DataW.trod_int Tryz.underlying3 h0
      obtain ⟨z1, e1, _, w1⟩ := DataW.trod_int Tryz.underlying3 h1
      obtain ⟨z2, e2, _, w2⟩ := DataW.trod_int Tryz.underlying3 h2
      obtain ⟨z3, e3, _, w3⟩ := DataW.trod_int Tryz.underlying3 h3
      obtain ⟨z4, e4, _, w4⟩ := DataW.trod_int Tryz.underlying3 h4
      obtain ⟨z5, e5, _, w5⟩ := DataW.trod_int Tryz.underlying3 h5
      obtain ⟨z6, e6, _, w6⟩ := DataW.trod_int Tryz.underlying23 h6
      simp at e0 e1 e2 e3 e4 e5 e6
      subst e0 e1 e2 e3 e4 e5 e6
      exact ⟨z0, z1, z2, z3, z4, z5, z6, rfl, wf_i64 w0, wf_i64 w1, wf_i64 w2, wf_i64 w3, wf_i64 w4, wf_i64 w5, wf_u32 w6⟩
end
end Go.Proofs.YtnoiijjkjcklpaaGreat
