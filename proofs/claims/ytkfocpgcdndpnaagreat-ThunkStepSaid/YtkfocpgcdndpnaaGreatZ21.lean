/- Parts of the proof: KitLaw, KitArr, Num2, CCpu, KitCpu, KitInsn, LTsR. -/
import Derived.Test.YtkfocpgcdndpnaaGreatRows
import Derived.Carry
import Derived.WalkKit
import Derived.ProofKit
import Derived.OpenShut
import Derived.Lib.SmallJoins
import Derived.Laws.IdiomArrays
import Derived.Test.YtkfocpgcdndpnaaGreatZ15
import Derived.IntWalk
import Derived.Test.YtkfocpgcdndpnaaGreatZ1
/- What a law's row asks behind the call, where the call has made new blocks alone: one theorem for all laws. -/
namespace Go.Cd
open Go Go.ChangeShapes Go.WideShapes Go.ChangeAt Go.RowKit
section
variable {H : Type} {enc : TypeId × Value → H} {P : Program}
theorem trodAll_keep (hl : laidOutB P = true) {W W' : World} (hb : Below W.heap.size W W') : ∀ {ts : List TypeId} {vs : List Value} {ds : List (DataW H)} {ps : List MemPlace},
    (∀ t ∈ ts, P.readableRec t = true ∧ t < P.types.size) → DataW.TrodAll enc P W 0 (fun _ => true) true ts vs ds ps → (∀ x ∈ ps, x.block < W.heap.size) → DataW.TrodAll enc P W' 0 (fun b => decide (b < W.heap.size)) true ts vs ds ps
  | [], _, _, _, _, h, _ => by
    obtain ⟨rfl, rfl, rfl⟩ := trodAll_nil h
    rfl
  | t :: ts, _, _, _, hr, h, hlt => by
    obtain ⟨v, vs', d, ds', p, q, rfl, rfl, rfl, h1, h2⟩ := trodAll_cons h
    refine ⟨p, q, Below.trod hl (hr t (by simp)).1 (hr t (by simp)).2 h1 hb (fun x hx => hlt x (by simp [hx])), trodAll_keep hl hb (fun t' ht => hr t' (by simp [ht])) h2 (fun x hx => hlt x (by simp [hx])), rfl⟩
/-- A law that answered true and made new blocks alone. -/
theorem law_post {f : Func} {s : ChangeSpec} {W W' : World} {args : Array Value} {ds gs : List (DataW H)} {before : List MemPlace} {tb : TypeId} (hl : laidOutB P = true) (hr : ∀ t ∈ f.params.toList, P.readableRec t = true ∧ t < P.types.size)
    (hrt : f.resultTypes = #[tb]) (hub : P.underlying tb = some .bool) (hv : s.vars = [])
    (hW : DataW.Whole enc P f.params.toList s.vars false W args.toList ds gs before)
    (hfn : s.fn H ds = { results := [.lit (.bool true)], args := ds }) (hb : Below W.heap.size W W') :
    s.post enc P f false true false false W args (.bool true) W' := by
  have hlt : ∀ p ∈ before, p.block < W.heap.size := fun p hp => hW.lt p hp
  have hW' := hW
  obtain ⟨p, q, hA, hV, rfl, hfz, hnd⟩ := hW'
  rw [hv] at hV
  obtain ⟨rfl, rfl⟩ := trodVars_none hV
  refine ⟨ds, [], p ++ [], [], p, [], hW, ?_, ?_, ?_, World.keptBut_mono (fun x hx => ⟨hx, Or.inr (Or.inl (by simpa using hx))⟩) (hb.frame (· ∈ p ++ [])), fun h => by cases h⟩
  · rw [hrt, List.append_nil, hfn]
    exact trodAll_cons_mk (shut_bool hub _) trodAll_mk0
  · rw [List.append_nil, hfn]
    exact trodAll_keep hl hb hr hA (fun x hx => hlt x (by simp [hx]))
  · rw [List.append_nil, hfn, hv]
    rfl
end
theorem wf_u32 {a : Int} (h : (Lit.int .u32 a).wf = true) : 0 ≤ a ∧ a < 4294967296 := by
  have h1 : IntKind.u32.min ≤ a ∧ a ≤ IntKind.u32.max := by simpa [Lit.wf] using h
  have e1 : IntKind.u32.min = 0 := by decide
  have e2 : IntKind.u32.max = 4294967295 := by decide
  omega
theorem wf_i64 {a : Int} (h : (Lit.int .i64 a).wf = true) : -9223372036854775808 ≤ a ∧ a < 9223372036854775808 := by
  have h1 : IntKind.i64.min ≤ a ∧ a ≤ IntKind.i64.max := by simpa [Lit.wf] using h
  have e1 : IntKind.i64.min = -9223372036854775808 := by decide
  have e2 : IntKind.i64.max = 9223372036854775807 := by decide
  omega
end Go.Cd
/- Arrays of whole numbers that came in by value. -/
namespace Go.Cd
open Go Go.ChangeShapes Go.WideShapes Go.ChangeAt Go.RowKit
section
variable {H : Type} {enc : TypeId × Value → H} {P : Program} {w : World} {base : Nat} {spare : Nat → Bool} {held : Bool}
theorem okWide_array {r : Reach} {b0 n : Nat} {t e : TypeId} {v : Value} (ht : P.underlying t = some (.array n e)) (h : Value.okWide P w r b0 t v) : ∃ cs, v = .agg cs ∧ cs.size = P.cellsOf t := by
  unfold Value.okWide at h
  rw [ht] at h
  obtain ⟨cs, h1, h2, _⟩ := h
  exact ⟨cs, h1, h2⟩
/-- The cells of an array of whole numbers. -/
theorem trod_ints_arr {n fuel : Nat} {t e : TypeId} {k : IntKind} {cs : List Value} {x : DataW H × List MemPlace} (ht : P.underlying t = some (.array n e)) (he : P.underlying e = some (.int k)) (hce : P.cellsOf e = 1) (hct : P.cellsOf t = n)
    (h : DataW.trod enc P w base spare held fuel t cs = some x) : ∃ l : List Int, cs = l.map (Value.int k) ∧ l.length = n ∧ ∀ z ∈ l, (Lit.int k z).wf = true := by
  obtain ⟨xs, m, _, _, hlen, hxl, hf⟩ := DataW.trod_array ht h
  rw [hct] at hlen
  have key : ∀ i, i < n → ∃ z : Int, cs[i]? = some (.int k z) ∧ (Lit.int k z).wf = true := fun i hi => by
    have h1 := hf i hi
    rw [List.getElem?_eq_getElem (by omega), hce, Nat.mul_one] at h1
    obtain ⟨z, hz, _, hw⟩ := DataW.trod_int he h1
    refine ⟨z, ?_, hw⟩
    have h2 : ((cs.drop i).take 1)[0]? = some (.int k z) := by rw [hz]; rfl
    rw [List.getElem?_take_of_lt (by decide), List.getElem?_drop] at h2
    simpa using h2
  have all : ∀ v ∈ cs, v = .int k (intOf v) ∧ (Lit.int k (intOf v)).wf = true := fun v hv => by
    obtain ⟨i, hi⟩ := List.mem_iff_getElem?.1 hv
    have hi' : i < n := by have := (List.getElem?_eq_some_iff.1 hi).1; omega
    obtain ⟨z, h1, h2⟩ := key i hi'
    rw [hi] at h1
    rw [Option.some.inj h1]
    exact ⟨rfl, h2⟩
  refine ⟨cs.map intOf, ?_, by simpa using hlen, fun z hz => ?_⟩
  · rw [List.map_map]
    conv => lhs; rw [← List.map_id cs]
    exact List.map_congr_left fun v hv => (all v hv).1
  · obtain ⟨v, hv, rfl⟩ := List.mem_map.1 hz
    exact (all v hv).2
theorem open_ints_arr {r : Reach} {b0 n : Nat} {t e : TypeId} {k : IntKind} {v : Value} {d : DataW H} {p : List MemPlace} (ht : P.underlying t = some (.array n e)) (he : P.underlying e = some (.int k)) (hce : P.cellsOf e = 1) (hct : P.cellsOf t = n)
    (hv : Value.okWide P w r b0 t v) (h : DataW.Trod enc P w base spare held t v d p) : ∃ l : List Int, v = .agg (l.map (Value.int k)).toArray ∧ l.length = n ∧ ∀ z ∈ l, (Lit.int k z).wf = true := by
  obtain ⟨cs, rfl, hsz⟩ := okWide_array ht hv
  obtain ⟨fuel, hf⟩ := h
  obtain ⟨l, h1, h2, h3⟩ := trod_ints_arr ht he hce hct hf
  refine ⟨l, ?_, h2, h3⟩
  have : cs.toList = l.map (Value.int k) := by simpa [Value.cells] using h1
  rw [← this]
end
end Go.Cd
/- Plain lemmas on whole numbers of 64 bits: masks. -/
namespace Go.Cd
open Go
theorem and_mask64 (x : Int) (i : Nat) (hi : i ≤ 62) : bits .and .i64 x ((2 : Int) ^ i - 1) = x % (2 : Int) ^ i := by
  have hp : (2 : Int) ^ i = ((2 ^ i : Nat) : Int) := by simp
  have hp0 : 0 < 2 ^ i := Nat.two_pow_pos i
  have hp1 : 2 ^ i ≤ 2 ^ 62 := Nat.pow_le_pow_right (by decide) hi
  have e : bits .and .i64 x ((2 : Int) ^ i - 1) = IntKind.i64.wrap (((BitVec.ofInt 64 x &&& BitVec.ofInt 64 ((2 : Int) ^ i - 1)).toNat : Nat) : Int) := by simp only [bits]; rfl
  have h1 : (BitVec.ofInt 64 ((2 : Int) ^ i - 1)).toNat = 2 ^ i - 1 := by
    rw [BitVec.toNat_ofInt, hp, Int.emod_eq_of_lt (by omega) (by omega)]
    omega
  rw [e, BitVec.toNat_and, h1, Nat.and_two_pow_sub_one_eq_mod, BitVec.toNat_ofInt]
  have hd : ((2 ^ i : Nat) : Int) ∣ ((2 ^ 64 : Nat) : Int) := Int.natCast_dvd_natCast.2 (Nat.pow_dvd_pow 2 (by omega))
  have h2 : (((x % ((2 ^ 64 : Nat) : Int)).toNat % 2 ^ i : Nat) : Int) = x % ((2 ^ i : Nat) : Int) := by
    rw [Int.natCast_emod, Int.toNat_of_nonneg (Int.emod_nonneg _ (by decide)), Int.emod_emod_of_dvd _ hd]
  rw [h2, hp]
  have h3 := Int.emod_nonneg x (show ((2 ^ i : Nat) : Int) ≠ 0 by omega)
  have h4 := Int.emod_lt_of_pos x (show 0 < ((2 ^ i : Nat) : Int) by omega)
  exact IntWalk.i64_in _ (by omega)
theorem and1_i64 (k : Int) : bits .and .i64 k 1 = k % 2 := and_mask64 k 1 (by decide)
theorem and15_i64 (k : Int) : bits .and .i64 k 15 = k % 16 := and_mask64 k 4 (by decide)
end Go.Cd
/- The processor's registers as a value. -/
namespace Go.Proofs.YtkfocpgcdndpnaaGreat
open Go Go.RowKit Go.Cd
set_option linter.unusedVariables false

/-- The cells of a CPU: R in 0 to 15, PC 16, F 17, V from 18 on. -/
abbrev Regs := Nat → Int
def cpuCell (c : Regs) (j : Nat) : Value := if j = 17 then .int .i64 (c j) else .int .u32 (c j)
def cpuL (c : Regs) : List Value := (List.range 50).map (cpuCell c)
def cpuA (c : Regs) : Array Value := (cpuL c).toArray
def cpuV (c : Regs) : Value := .agg (cpuA c)
theorem cpuA_size (c : Regs) : (cpuA c).size = 50 := by simp [cpuA, cpuL]
theorem cpuA_get (c : Regs) (j : Nat) (h : j < 50) : (cpuA c)[j]? = some (cpuCell c j) := by simp [cpuA, cpuL, h]
theorem cpuCell_u32 (c : Regs) (j : Nat) (h : j ≠ 17) : cpuCell c j = .int .u32 (c j) := by unfold cpuCell; rw [if_neg h]
theorem cpuCell_f (c : Regs) : cpuCell c 17 = .int .i64 (c 17) := rfl
theorem cpuA_17 (c : Regs) : (cpuA c)[17]? = some (.int .i64 (c 17)) := (cpuA_get c 17 (by decide)).trans rfl
theorem cpuA_w (c : Regs) (j : Nat) (h : j < 50) (h' : j ≠ 17) : (cpuA c)[j]? = some (.int .u32 (c j)) := by rw [cpuA_get c j h, cpuCell_u32 c j h']
attribute [local go_sem] cpuA_17
end Go.Proofs.YtkfocpgcdndpnaaGreat
/- A CPU that came in by value. -/
namespace Go.Proofs.YtkfocpgcdndpnaaGreat
open Go Go.Cd Go.ChangeShapes Go.WideShapes Go.ChangeAt Go.RowKit
/-- The numbers of a CPU are of their kinds. -/
def CpuOk (c : Regs) : Prop := (∀ j, j < 50 → j ≠ 17 → 0 ≤ c j ∧ c j < 4294967296) ∧ -9223372036854775808 ≤ c 17 ∧ c 17 < 9223372036854775808
section
variable {H : Type} {enc : TypeId × Value → H} {w : World} {base : Nat} {spare : Nat → Bool} {held : Bool}
set_option maxRecDepth 100000 in
theorem open_cpu {r : Reach} {b0 : Nat} {v : Value} {d : DataW H} {p : List MemPlace} (hv : Value.okWide Tryz.prog w r b0 30 v) (h : DataW.Trod enc Tryz.prog w base spare held 30 v d p) : ∃ c : Regs, v = cpuV c ∧ CpuOk c := by
  obtain ⟨cs, rfl, hsz⟩ := okWide_struct Tryz.underlying30 hv
  have hsz : cs.size = 50 := hsz.trans (by kernel_rfl)
  obtain ⟨fuel, hf⟩ := h
  obtain ⟨y0, y1, y2, y3, n, hx, _, h0, h1, h2, h3⟩ := Joins.trod_struct4 Tryz.underlying30 hf
  have hcells : (Value.agg cs).cells.toList = cs.toList := rfl
  rw [hcells] at h0 h1 h2 h3
  have k0 : Tryz.prog.cellsOf 25 = 16 := by kernel_rfl
  have k1 : Tryz.prog.cellsOf 22 = 1 := by kernel_rfl
  have k2 : Tryz.prog.cellsOf 3 = 1 := by kernel_rfl
  have k3 : Tryz.prog.cellsOf 28 = 32 := by kernel_rfl
  have k4 : Tryz.prog.cellsOf 27 = 4 := by kernel_rfl
  simp only [k0, k1, k2, k3] at h0 h1 h2 h3
  obtain ⟨l0, e0, n0, w0⟩ := trod_ints_arr Tryz.underlying25 Tryz.underlying22 k1 k0 h0
  obtain ⟨z1, e1, _, w1⟩ := DataW.trod_int Tryz.underlying22 h1
  obtain ⟨z2, e2, _, w2⟩ := DataW.trod_int Tryz.underlying3 h2
  obtain ⟨xs, m, _, _, _, hxl, hf3⟩ := DataW.trod_array Tryz.underlying28 h3
  have key : ∀ j, j < 50 → ∃ z : Int, cs.toList[j]? = some (if j = 17 then .int .i64 z else .int .u32 z) ∧ if j = 17 then -9223372036854775808 ≤ z ∧ z < 9223372036854775808 else 0 ≤ z ∧ z < 4294967296 := by
    intro j hj
    have hlen : cs.toList.length = 50 := by simpa using hsz
    rcases (show j < 16 ∨ j = 16 ∨ j = 17 ∨ 18 ≤ j by omega) with c | c | c | c
    · have h5 : ((cs.toList.drop 0).take 16)[j]? = (l0.map (Value.int .u32))[j]? := by rw [e0]
      rw [List.getElem?_take_of_lt c, List.drop_zero, List.getElem?_map, List.getElem?_eq_getElem (l := l0) (i := j) (by omega)] at h5
      refine ⟨l0[j], ?_, ?_⟩
      · rw [if_neg (by omega)]; simpa using h5
      · rw [if_neg (by omega)]; exact wf_u32 (w0 _ (List.getElem_mem _))
    · subst c
      refine ⟨z1, ?_, ?_⟩
      · have h5 : ((cs.toList.drop 16).take 1)[0]? = some (.int .u32 z1) := by rw [e1]; rfl
        rw [List.getElem?_take_of_lt (by decide), List.getElem?_drop] at h5
        simpa using h5
      · exact wf_u32 w1
    · subst c
      refine ⟨z2, ?_, ?_⟩
      · have h5 : ((cs.toList.drop 17).take 1)[0]? = some (.int .i64 z2) := by rw [e2]; rfl
        rw [List.getElem?_take_of_lt (by decide), List.getElem?_drop] at h5
        simpa using h5
      · exact wf_i64 w2
    · have hq : (j - 18) / 4 < 8 := by omega
      have h6 := hf3 ((j - 18) / 4) hq
      rw [List.getElem?_eq_getElem (by omega), k4] at h6
      obtain ⟨l6, e6, n6, w6⟩ := trod_ints_arr Tryz.underlying27 Tryz.underlying22 k1 k4 h6
      have hr : (j - 18) % 4 < l6.length := by omega
      have h7 : (((((cs.toList.drop 18).take 32).drop ((j - 18) / 4 * 4)).take 4)[(j - 18) % 4]?) = (l6.map (Value.int .u32))[(j - 18) % 4]? := by rw [e6]
      rw [List.getElem?_take_of_lt (by omega), List.getElem?_drop, List.getElem?_take_of_lt (by omega), List.getElem?_drop, List.getElem?_map, List.getElem?_eq_getElem hr] at h7
      rw [show 18 + ((j - 18) / 4 * 4 + (j - 18) % 4) = j by omega] at h7
      refine ⟨l6[(j - 18) % 4], ?_, ?_⟩
      · rw [if_neg (by omega)]; simpa using h7
      · rw [if_neg (by omega)]; exact wf_u32 (w6 _ (List.getElem_mem _))
  let c : Regs := fun j => intOf (cs.toList.getD j (.int .u32 0))
  have hc : ∀ j, j < 50 → cs.toList[j]? = some (cpuCell c j) ∧ if j = 17 then -9223372036854775808 ≤ c j ∧ c j < 9223372036854775808 else 0 ≤ c j ∧ c j < 4294967296 := by
    intro j hj
    obtain ⟨z, z1, z2⟩ := key j hj
    have e : c j = z := by
      show intOf (cs.toList.getD j (.int .u32 0)) = z
      rw [List.getD_eq_getElem?_getD, z1]
      by_cases q : j = 17 <;> simp [q, intOf]
    refine ⟨?_, by rw [e]; exact z2⟩
    rw [z1]; unfold cpuCell; rw [e]
    first | done | (split <;> rfl)
  refine ⟨c, ?_, fun j hj hne => ?_, ?_⟩
  · unfold cpuV cpuA
    congr 1
    apply Array.ext'
    rw [List.toList_toArray]
    apply List.ext_getElem?
    intro j
    by_cases hj : j < 50
    · rw [(hc j hj).1]; simp [cpuL, hj]
    · rw [List.getElem?_eq_none (by simp; omega), List.getElem?_eq_none (by simp [cpuL]; omega)]
  · have := (hc j hj).2
    rwa [if_neg hne] at this
  · have := (hc 17 (by decide)).2
    rwa [if_pos rfl] at this
end
end Go.Proofs.YtkfocpgcdndpnaaGreat
/- An instruction that came in by value. -/
namespace Go.Proofs.YtkfocpgcdndpnaaGreat
open Go Go.Cd Go.ChangeShapes Go.WideShapes Go.ChangeAt Go.RowKit
def insV (op a b c d k i : Int) : Value := .agg #[.int .i64 op, .int .i64 a, .int .i64 b, .int .i64 c, .int .i64 d, .int .i64 k, .int .u32 i]
def In64 (n : Int) : Prop := -9223372036854775808 ≤ n ∧ n < 9223372036854775808
section
variable {H : Type} {enc : TypeId × Value → H} {w : World} {base : Nat} {spare : Nat → Bool} {held : Bool}
set_option maxRecDepth 100000 in
theorem open_insn {r : Reach} {b0 : Nat} {v : Value} {d : DataW H} {p : List MemPlace} (hv : Value.okWide Tryz.prog w r b0 24 v) (h : DataW.Trod enc Tryz.prog w base spare held 24 v d p) :
    ∃ op a b c d k i, v = insV op a b c d k i ∧ In64 op ∧ In64 a ∧ In64 b ∧ In64 c ∧ In64 d ∧ In64 k ∧ 0 ≤ i ∧ i < 4294967296 := by
  obtain ⟨cs, rfl, hsz⟩ := okWide_struct Tryz.underlying24 hv
  have hsz : cs.size = 7 := hsz.trans (by kernel_rfl)
  obtain ⟨fuel, hf⟩ := h
  obtain ⟨xs, n, _, _, hl, hlen, hx⟩ := DataW.trod_struct Tryz.underlying24 hf
  have hcells : (Value.agg cs).cells.toList = cs.toList := rfl
  rw [hcells] at hx
  have k1 : Tryz.prog.cellsOf 22 = 1 := by kernel_rfl
  have k2 : Tryz.prog.cellsOf 3 = 1 := by kernel_rfl
  obtain ⟨l, rfl⟩ : ∃ l : List Value, cs = l.toArray := ⟨cs.toList, by simp⟩
  have hsz : l.length = 7 := by simpa using hsz
  match l, hsz with
  | [x0, x1, x2, x3, x4, x5, x6], _ =>
    have hxl : xs.length = 7 := by simpa using hlen
    match xs, hxl with
    | [y0, y1, y2, y3, y4, y5, y6], _ =>
      have h0 : DataW.trod enc Tryz.prog w base spare held n 3 (([x0, x1, x2, x3, x4, x5, x6].drop 0).take (Tryz.prog.cellsOf 3)) = some y0 := hx 0 _ rfl
      rw [k2] at h0
      have h1 : DataW.trod enc Tryz.prog w base spare held n 3 (([x0, x1, x2, x3, x4, x5, x6].drop 1).take (Tryz.prog.cellsOf 3)) = some y1 := hx 1 _ rfl
      rw [k2] at h1
      have h2 : DataW.trod enc Tryz.prog w base spare held n 3 (([x0, x1, x2, x3, x4, x5, x6].drop 2).take (Tryz.prog.cellsOf 3)) = some y2 := hx 2 _ rfl
      rw [k2] at h2
      have h3 : DataW.trod enc Tryz.prog w base spare held n 3 (([x0, x1, x2, x3, x4, x5, x6].drop 3).take (Tryz.prog.cellsOf 3)) = some y3 := hx 3 _ rfl
      rw [k2] at h3
      have h4 : DataW.trod enc Tryz.prog w base spare held n 3 (([x0, x1, x2, x3, x4, x5, x6].drop 4).take (Tryz.prog.cellsOf 3)) = some y4 := hx 4 _ rfl
      rw [k2] at h4
      have h5 : DataW.trod enc Tryz.prog w base spare held n 3 (([x0, x1, x2, x3, x4, x5, x6].drop 5).take (Tryz.prog.cellsOf 3)) = some y5 := hx 5 _ rfl
      rw [k2] at h5
      have h6 : DataW.trod enc Tryz.prog w base spare held n 22 (([x0, x1, x2, x3, x4, x5, x6].drop 6).take (Tryz.prog.cellsOf 22)) = some y6 := hx 6 _ rfl
      rw [k1] at h6
      obtain ⟨z0, e0, _, w0⟩ := DataW.trod_int Tryz.underlying3 h0
      obtain ⟨z1, e1, _, w1⟩ := DataW.trod_int Tryz.underlying3 h1
      obtain ⟨z2, e2, _, w2⟩ := DataW.trod_int Tryz.underlying3 h2
      obtain ⟨z3, e3, _, w3⟩ := DataW.trod_int Tryz.underlying3 h3
      obtain ⟨z4, e4, _, w4⟩ := DataW.trod_int Tryz.underlying3 h4
      obtain ⟨z5, e5, _, w5⟩ := DataW.trod_int Tryz.underlying3 h5
      obtain ⟨z6, e6, _, w6⟩ := DataW.trod_int Tryz.underlying22 h6
      simp at e0 e1 e2 e3 e4 e5 e6
      subst e0 e1 e2 e3 e4 e5 e6
      exact ⟨z0, z1, z2, z3, z4, z5, z6, rfl, wf_i64 w0, wf_i64 w1, wf_i64 w2, wf_i64 w3, wf_i64 w4, wf_i64 w5, wf_u32 w6⟩
end
end Go.Proofs.YtkfocpgcdndpnaaGreat
/- ThunkStep: what a run says. Written by genTs2.py. -/
namespace Go.Proofs.YtkfocpgcdndpnaaGreat
open Go Go.Sx Go.RowKit Go.Cd Go.MapKept Go.ChangeShapes Go.WideShapes Go.ChangeAt
set_option linter.unusedVariables false
/-- What the letters stand for. -/
def tsInts (op a b c d k i : Int) (r : Regs) (j : Nat) : Int := if j < 7 then [op, a, b, c, d, k, i].getD j 0 else r (j - 100)
theorem u32_same {n : Int} (h : 0 ≤ n ∧ n < 4294967296) : IntKind.u32.wrap n = n := wrap_same _ h.1 (by have := h.2; show n ≤ 4294967295; omega)
theorem i64_same {n : Int} (h : In64 n) : IntKind.i64.wrap n = n := wrap_same .i64 (by have := h.1; show (-9223372036854775808 : Int) ≤ n; omega) (by have := h.2; show n ≤ 9223372036854775807; omega)
theorem u8_16 {n : Int} (h : 0 ≤ n ∧ n ≤ 15) : (IntKind.u8.wrap n).tmod 16 = n := by
  rw [wrap_same .u8 (by have := h.1; show (0 : Int) ≤ n; omega) (by have := h.2; show n ≤ 255; omega)]
  exact Int.tmod_eq_of_lt h.1 (by omega)
theorem i8_same {n : Int} (h : -128 ≤ n ∧ n ≤ 127) : IntKind.i8.wrap n = n := wrap_same .i8 h.1 h.2
section
variable (ints : Nat → Int)
theorem tsC_den {f : Tm} {r : Regs} (hr : CpuOk r) (hi : ∀ j, j < 50 → j ≠ 17 → ints (100 + j) = r j) (hf : letI := tsVal ints; f.v = r 17) : letI := tsVal ints; (tsC f).Den (fun _ => none) (cpuV r) := by
  letI := tsVal ints
  show (tsC f).Den (fun _ => none) (cpuV r)
  unfold tsC cpuV cpuA cpuL
  simp only [SV.Den]
  refine ⟨_, denL_map _ (cpuCell r) _ fun j hj => ?_, rfl⟩
  have hj : j < 50 := by simpa using hj
  by_cases e : j = 17
  · subst e
    show (SV.int .i64 (.sym f)).Den _ _
    simp only [SV.Den, SI.sym_v, hf, cpuCell]
    rfl
  · have : tsCell f j = .int .u32 (.sym (.var .u32 (100 + j))) := by
      unfold tsCell
      split
      · rename_i h; exact absurd (Nat.eq_of_beq_eq_true h) e
      · rfl
    rw [this]
    simp only [SV.Den, SI.sym_v, Tm.v]
    show cpuCell r j = .int .u32 (IntKind.u32.wrap (ints (100 + j)))
    rw [hi j hj e, cpuCell_u32 r j e, u32_same (hr.1 j hj e)]
set_option maxRecDepth 100000 in
theorem ts_run {op a b c d k i : Int} {r : Regs} (hr : CpuOk r) (hi : ∀ j, j < 50 → j ≠ 17 → ints (100 + j) = r j) {fs : Facts} {top ta tb tc td tk ti tf : Tm}
    (hv : letI := tsVal ints; [top, ta, tb, tc, td, tk, ti, tf].map Tm.v = [op, a, b, c, d, k, i, r 17]) (hf : letI := tsVal ints; FactsOk fs) (ht : (tsT Tryz.prog fs top ta tb tc td tk ti tf).trueF fs = true) (w : World) :
    Calls Tryz.prog 3 #[insV op a b c d k i, cpuV r] w fun e w' => e = .returned (.bool true) ∧ New w w' := by
  letI := tsVal ints
  simp only [List.map, List.cons.injEq] at hv
  obtain ⟨v0, v1, v2, v3, v4, v5, v6, v7, _⟩ := hv
  have hd : SV.DenL (fun _ => none) [tsX top ta tb tc td tk ti, tsC tf] [insV op a b c d k i, cpuV r] := by
    refine denL_cons'.2 ⟨?_, denL_cons'.2 ⟨tsC_den ints hr hi v7, by simp⟩⟩
    unfold tsX insV
    simp only [SV.Den]
    refine ⟨[_, _, _, _, _, _, _], denL_cons'.2 ⟨?_, denL_cons'.2 ⟨?_, denL_cons'.2 ⟨?_, denL_cons'.2 ⟨?_, denL_cons'.2 ⟨?_, denL_cons'.2 ⟨?_, denL_cons'.2 ⟨?_, by simp⟩⟩⟩⟩⟩⟩⟩, rfl⟩
    all_goals simp only [SV.Den, SI.sym_v, SI.ofTm_v, v0, v1, v2, v3, v4, v5, v6]
  have hax : AxOk Tryz.prog (empAx Tryz.prog) := empAx_ok (fun _ _ => rfl) _
  have hcon : ConOk Tryz.prog (pureCon tsPure) := pureCon_ok (tsPure_ok ints)
  have hcl : ConLog (pureCon tsPure) := pureCon_log _
  have hxt : XtOk Tryz.prog noXt := noXt_ok _
  exact law_callsE fnOk mixed_ok hcon hcl hxt hax (empAx_safe Tryz.prog) hf ht hd w
end
end Go.Proofs.YtkfocpgcdndpnaaGreat
