/- Parts of the proof: PlainShuf, PlainLanesL, KitArr. -/
import Derived.Test.YtpooghnemlnopaaZ13
import Derived.Test.YtpooghnemlnopaaZ0
import Derived.Laws.IdiomArrays
/- The plain laws of shuffles. -/
namespace Go.Proofs.Ytpooghnemlnopaa
open Go Go.Cd
set_option linter.unusedVariables false
/-- A byte of a shuffle. -/
def shB (a b : Vc) (i : Nat) : Int := byteF a (byteF b i % 16).toNat
theorem shB_bd (a b : Vc) (i : Nat) : 0 ≤ shB a b i ∧ shB a b i < 256 := byteF_bd _ _
theorem shuf_hit (a b : Vc) (k q : Nat) (h : q = k / 4) : shufTo a b (k + 1) q = bits .or .u32 (shufTo a b k q) (shB a b k * 2 ^ (k % 4 * 8) % 4294967296) := by
  show setV (shufTo a b k) (k / 4) _ q = _
  unfold setV
  rw [if_pos h, ← h]
  rfl
theorem shuf_miss (a b : Vc) (k q : Nat) (h : q ≠ k / 4) : shufTo a b (k + 1) q = shufTo a b k q := by
  show setV (shufTo a b k) (k / 4) _ q = _
  unfold setV
  rw [if_neg h]
theorem shuf_cell (a b : Vc) (q : Nat) (hq : q < 4) : shufTo a b 16 q = word4 (shB a b) (4 * q) := by
  have key : ∀ x y z u : Int, (0 ≤ x ∧ x < 256) → (0 ≤ y ∧ y < 256) → (0 ≤ z ∧ z < 256) → (0 ≤ u ∧ u < 256) →
      bits .or .u32 (bits .or .u32 (bits .or .u32 (bits .or .u32 0 (x * 2 ^ 0 % 4294967296)) (y * 2 ^ 8 % 4294967296)) (z * 2 ^ 16 % 4294967296)) (u * 2 ^ 24 % 4294967296) = x + y * 256 + z * 65536 + u * 16777216 := fun x y z u hx hy hz hu => by
    rw [or_zero x ⟨hx.1, by omega⟩, word4_or x y z u hx hy hz hu]
  match q, hq with
  | 0, _ =>
    rw [shuf_miss a b 15 0 (by decide), shuf_miss a b 14 0 (by decide), shuf_miss a b 13 0 (by decide), shuf_miss a b 12 0 (by decide), shuf_miss a b 11 0 (by decide), shuf_miss a b 10 0 (by decide), shuf_miss a b 9 0 (by decide), shuf_miss a b 8 0 (by decide), shuf_miss a b 7 0 (by decide), shuf_miss a b 6 0 (by decide), shuf_miss a b 5 0 (by decide), shuf_miss a b 4 0 (by decide), shuf_hit a b 3 0 (by decide), shuf_hit a b 2 0 (by decide), shuf_hit a b 1 0 (by decide), shuf_hit a b 0 0 (by decide)]
    exact key (shB a b 0) (shB a b 1) (shB a b 2) (shB a b 3) (shB_bd a b _) (shB_bd a b _) (shB_bd a b _) (shB_bd a b _)
  | 1, _ =>
    rw [shuf_miss a b 15 1 (by decide), shuf_miss a b 14 1 (by decide), shuf_miss a b 13 1 (by decide), shuf_miss a b 12 1 (by decide), shuf_miss a b 11 1 (by decide), shuf_miss a b 10 1 (by decide), shuf_miss a b 9 1 (by decide), shuf_miss a b 8 1 (by decide), shuf_hit a b 7 1 (by decide), shuf_hit a b 6 1 (by decide), shuf_hit a b 5 1 (by decide), shuf_hit a b 4 1 (by decide), shuf_miss a b 3 1 (by decide), shuf_miss a b 2 1 (by decide), shuf_miss a b 1 1 (by decide), shuf_miss a b 0 1 (by decide)]
    exact key (shB a b 4) (shB a b 5) (shB a b 6) (shB a b 7) (shB_bd a b _) (shB_bd a b _) (shB_bd a b _) (shB_bd a b _)
  | 2, _ =>
    rw [shuf_miss a b 15 2 (by decide), shuf_miss a b 14 2 (by decide), shuf_miss a b 13 2 (by decide), shuf_miss a b 12 2 (by decide), shuf_hit a b 11 2 (by decide), shuf_hit a b 10 2 (by decide), shuf_hit a b 9 2 (by decide), shuf_hit a b 8 2 (by decide), shuf_miss a b 7 2 (by decide), shuf_miss a b 6 2 (by decide), shuf_miss a b 5 2 (by decide), shuf_miss a b 4 2 (by decide), shuf_miss a b 3 2 (by decide), shuf_miss a b 2 2 (by decide), shuf_miss a b 1 2 (by decide), shuf_miss a b 0 2 (by decide)]
    exact key (shB a b 8) (shB a b 9) (shB a b 10) (shB a b 11) (shB_bd a b _) (shB_bd a b _) (shB_bd a b _) (shB_bd a b _)
  | 3, _ =>
    rw [shuf_hit a b 15 3 (by decide), shuf_hit a b 14 3 (by decide), shuf_hit a b 13 3 (by decide), shuf_hit a b 12 3 (by decide), shuf_miss a b 11 3 (by decide), shuf_miss a b 10 3 (by decide), shuf_miss a b 9 3 (by decide), shuf_miss a b 8 3 (by decide), shuf_miss a b 7 3 (by decide), shuf_miss a b 6 3 (by decide), shuf_miss a b 5 3 (by decide), shuf_miss a b 4 3 (by decide), shuf_miss a b 3 3 (by decide), shuf_miss a b 2 3 (by decide), shuf_miss a b 1 3 (by decide), shuf_miss a b 0 3 (by decide)]
    exact key (shB a b 12) (shB a b 13) (shB a b 14) (shB a b 15) (shB_bd a b _) (shB_bd a b _) (shB_bd a b _) (shB_bd a b _)
theorem word4_byte (f : Nat → Int) (q r : Nat) (hr : r < 4) (h : ∀ i, 0 ≤ f i ∧ f i < 256) : word4 f (4 * q) / 2 ^ (r * 8) % 256 = f (4 * q + r) := by
  have h0 := h (4 * q)
  have h1 := h (4 * q + 1)
  have h2 := h (4 * q + 2)
  have h3 := h (4 * q + 3)
  unfold word4
  match r, hr with
  | 0, _ => show (_ : Int) / 1 % 256 = _; rw [Int.ediv_one]; show _ = f (4 * q); omega
  | 1, _ => show (_ : Int) / 256 % 256 = _; omega
  | 2, _ => show (_ : Int) / 65536 % 256 = _; omega
  | 3, _ => show (_ : Int) / 16777216 % 256 = _; omega
theorem byte_of_cells {v : Vc} {f : Nat → Int} (h : ∀ i, 0 ≤ f i ∧ f i < 256) (hv : ∀ q, q < 4 → v q = word4 f (4 * q)) (i : Nat) (hi : i < 16) : byteF v i = f i := by
  unfold byteF
  rw [hv (i / 4) (by omega), word4_byte f (i / 4) (i % 4) (by omega) h]
  congr 1; omega
theorem shuf_byte (a b : Vc) (i : Nat) (hi : i < 16) : byteF (shufTo a b 16) i = shB a b i := byte_of_cells (shB_bd a b) (shuf_cell a b) i hi
theorem word_bytes (v : Vc) (hv : VcOk v) (q : Nat) (hq : q < 4) : v q = word4 (byteF v) (4 * q) := by
  have := hv q hq
  unfold word4 byteF
  rw [show 4 * q / 4 = q by omega, show (4 * q + 1) / 4 = q by omega, show (4 * q + 2) / 4 = q by omega, show (4 * q + 3) / 4 = q by omega]
  rw [show 4 * q % 4 * 8 = 0 by omega, show (4 * q + 1) % 4 * 8 = 8 by omega, show (4 * q + 2) % 4 * 8 = 16 by omega, show (4 * q + 3) % 4 * 8 = 24 by omega]
  show v q = v q / 1 % 256 + v q / 256 % 256 * 256 + v q / 65536 % 256 * 65536 + v q / 16777216 % 256 * 16777216
  omega
theorem word4_congr {f g : Nat → Int} (q : Nat) (hq : q < 4) (h : ∀ i, i < 16 → f i = g i) : word4 f (4 * q) = word4 g (4 * q) := by
  unfold word4
  rw [h (4 * q) (by omega), h (4 * q + 1) (by omega), h (4 * q + 2) (by omega), h (4 * q + 3) (by omega)]
theorem byteF_congr {v w : Vc} (h : ∀ k, k < 4 → v k = w k) (i : Nat) (hi : i < 16) : byteF v i = byteF w i := by
  unfold byteF; rw [h (i / 4) (by omega)]
theorem idx_lt (b : Vc) (i : Nat) : (byteF b i % 16).toNat < 16 := by
  have := byteF_bd b i
  omega
/-- A shuffle by what stands in order changes nothing. -/
theorem shuf_id (v b : Vc) (hv : VcOk v) (hb : ∀ i, i < 16 → byteF b i = (i : Int)) (q : Nat) (hq : q < 4) : shufTo v b 16 q = v q := by
  rw [shuf_cell v b q hq, word_bytes v hv q hq]
  refine word4_congr q hq fun i hi => ?_
  unfold shB
  rw [hb i hi]
  congr 1; omega
/-- Two shuffles are one. -/
theorem shuf_two (v w z x y : Vc) (hx : ∀ k, k < 4 → x k = shufTo v w 16 k) (hy : ∀ k, k < 4 → y k = shufTo w z 16 k) (q : Nat) (hq : q < 4) : shufTo x z 16 q = shufTo v y 16 q := by
  rw [shuf_cell x z q hq, shuf_cell v y q hq]
  refine word4_congr q hq fun i hi => ?_
  unfold shB
  rw [byteF_congr hx _ (idx_lt z i), shuf_byte v w _ (idx_lt z i), byteF_congr hy i hi, shuf_byte w z i hi]
  unfold shB
  rfl
end Go.Proofs.Ytpooghnemlnopaa
/- CpuLanes: the plain law. -/
namespace Go.Proofs.Ytpooghnemlnopaa
open Go Go.Sx Go.RowKit Go.Cd Go.MapKept
set_option linter.unusedVariables false
set_option linter.unusedSimpArgs false
def q4 (a b c d : Int) : Vc := fun k => [a, b, c, d].getD k 0
theorem q4_get (v : Vc) (j : Nat) (hj : j < 4) : q4 (v 0) (v 1) (v 2) (v 3) j = v j := by
  match j, hj with
  | 0, _ => rfl
  | 1, _ => rfl
  | 2, _ => rfl
  | 3, _ => rfl
theorem shuf_ext {a a' b b' : Vc} (ha : ∀ j, j < 4 → a j = a' j) (hb : ∀ j, j < 4 → b j = b' j) (q : Nat) (hq : q < 4) : shufTo a b 16 q = shufTo a' b' 16 q := by
  rw [shuf_cell a b q hq, shuf_cell a' b' q hq]
  refine word4_congr q hq fun i hi => ?_
  unfold shB
  rw [byteF_congr ha _ (idx_lt b i), byteF_congr hb i hi]
theorem idV : ∀ i, i < 16 → byteF (q4 50462976 117835012 185207048 252579084) i = (i : Int) := by decide
theorem lanesV_arith (op d : Int) (a b : Vc) (ho : op = 51 ∨ op = 52 ∨ op = 53) (hd : 0 ≤ d ∧ d ≤ 2) : lanesV op d a b = (lanesTo op d a b 4, true) := by
  unfold lanesV
  rw [if_pos ho, if_neg (by omega)]
theorem lanesV_shuf (d : Int) (a b : Vc) : lanesV 57 d a b = (shufTo a b 16, true) := by
  unfold lanesV
  rw [if_neg (by decide), if_neg (by decide), if_neg (by decide), if_neg (by decide), if_pos rfl]
theorem lane_k0 (ints : Nat → Int) (bools : Nat → Bool) : letI := cpuVal ints bools; ∀ (op d a0 a1 a2 a3 b0 b1 b2 b3 : Tm), (op.v = 51 ∨ op.v = 52 ∨ op.v = 53) → (0 ≤ d.v ∧ d.v ≤ 2) → (Tm.fn .u32 10 (.cons op (.cons d (.cons a0 (.cons a1 (.cons a2 (.cons a3 (.cons b0 (.cons b1 (.cons b2 (.cons b3 .nil))))))))))).v = byLanesF op.v d.v a0.v b0.v := by
  letI := cpuVal ints bools
  intro op d a0 a1 a2 a3 b0 b1 b2 b3 ho hd
  show IntKind.u32.wrap ((lanesV op.v d.v (q4 a0.v a1.v a2.v a3.v) (q4 b0.v b1.v b2.v b3.v)).1 0) = _
  rw [u32_wrap (lanesV_bd _ _ _ _ 0 (by decide)), lanesV_arith _ _ _ _ ho hd]
  rfl
theorem shuf_k0 (ints : Nat → Int) (bools : Nat → Bool) : letI := cpuVal ints bools; ∀ (op d a0 a1 a2 a3 b0 b1 b2 b3 : Tm), op.v = 57 → (Tm.fn .u32 10 (.cons op (.cons d (.cons a0 (.cons a1 (.cons a2 (.cons a3 (.cons b0 (.cons b1 (.cons b2 (.cons b3 .nil))))))))))).v = shufTo (q4 a0.v a1.v a2.v a3.v) (q4 b0.v b1.v b2.v b3.v) 16 0 := by
  letI := cpuVal ints bools
  intro op d a0 a1 a2 a3 b0 b1 b2 b3 ho
  show IntKind.u32.wrap ((lanesV op.v d.v (q4 a0.v a1.v a2.v a3.v) (q4 b0.v b1.v b2.v b3.v)).1 0) = _
  rw [u32_wrap (lanesV_bd _ _ _ _ 0 (by decide)), ho, lanesV_shuf]
theorem lane_k1 (ints : Nat → Int) (bools : Nat → Bool) : letI := cpuVal ints bools; ∀ (op d a0 a1 a2 a3 b0 b1 b2 b3 : Tm), (op.v = 51 ∨ op.v = 52 ∨ op.v = 53) → (0 ≤ d.v ∧ d.v ≤ 2) → (Tm.fn .u32 11 (.cons op (.cons d (.cons a0 (.cons a1 (.cons a2 (.cons a3 (.cons b0 (.cons b1 (.cons b2 (.cons b3 .nil))))))))))).v = byLanesF op.v d.v a1.v b1.v := by
  letI := cpuVal ints bools
  intro op d a0 a1 a2 a3 b0 b1 b2 b3 ho hd
  show IntKind.u32.wrap ((lanesV op.v d.v (q4 a0.v a1.v a2.v a3.v) (q4 b0.v b1.v b2.v b3.v)).1 1) = _
  rw [u32_wrap (lanesV_bd _ _ _ _ 1 (by decide)), lanesV_arith _ _ _ _ ho hd]
  rfl
theorem shuf_k1 (ints : Nat → Int) (bools : Nat → Bool) : letI := cpuVal ints bools; ∀ (op d a0 a1 a2 a3 b0 b1 b2 b3 : Tm), op.v = 57 → (Tm.fn .u32 11 (.cons op (.cons d (.cons a0 (.cons a1 (.cons a2 (.cons a3 (.cons b0 (.cons b1 (.cons b2 (.cons b3 .nil))))))))))).v = shufTo (q4 a0.v a1.v a2.v a3.v) (q4 b0.v b1.v b2.v b3.v) 16 1 := by
  letI := cpuVal ints bools
  intro op d a0 a1 a2 a3 b0 b1 b2 b3 ho
  show IntKind.u32.wrap ((lanesV op.v d.v (q4 a0.v a1.v a2.v a3.v) (q4 b0.v b1.v b2.v b3.v)).1 1) = _
  rw [u32_wrap (lanesV_bd _ _ _ _ 1 (by decide)), ho, lanesV_shuf]
theorem lane_k2 (ints : Nat → Int) (bools : Nat → Bool) : letI := cpuVal ints bools; ∀ (op d a0 a1 a2 a3 b0 b1 b2 b3 : Tm), (op.v = 51 ∨ op.v = 52 ∨ op.v = 53) → (0 ≤ d.v ∧ d.v ≤ 2) → (Tm.fn .u32 12 (.cons op (.cons d (.cons a0 (.cons a1 (.cons a2 (.cons a3 (.cons b0 (.cons b1 (.cons b2 (.cons b3 .nil))))))))))).v = byLanesF op.v d.v a2.v b2.v := by
  letI := cpuVal ints bools
  intro op d a0 a1 a2 a3 b0 b1 b2 b3 ho hd
  show IntKind.u32.wrap ((lanesV op.v d.v (q4 a0.v a1.v a2.v a3.v) (q4 b0.v b1.v b2.v b3.v)).1 2) = _
  rw [u32_wrap (lanesV_bd _ _ _ _ 2 (by decide)), lanesV_arith _ _ _ _ ho hd]
  rfl
theorem shuf_k2 (ints : Nat → Int) (bools : Nat → Bool) : letI := cpuVal ints bools; ∀ (op d a0 a1 a2 a3 b0 b1 b2 b3 : Tm), op.v = 57 → (Tm.fn .u32 12 (.cons op (.cons d (.cons a0 (.cons a1 (.cons a2 (.cons a3 (.cons b0 (.cons b1 (.cons b2 (.cons b3 .nil))))))))))).v = shufTo (q4 a0.v a1.v a2.v a3.v) (q4 b0.v b1.v b2.v b3.v) 16 2 := by
  letI := cpuVal ints bools
  intro op d a0 a1 a2 a3 b0 b1 b2 b3 ho
  show IntKind.u32.wrap ((lanesV op.v d.v (q4 a0.v a1.v a2.v a3.v) (q4 b0.v b1.v b2.v b3.v)).1 2) = _
  rw [u32_wrap (lanesV_bd _ _ _ _ 2 (by decide)), ho, lanesV_shuf]
theorem lane_k3 (ints : Nat → Int) (bools : Nat → Bool) : letI := cpuVal ints bools; ∀ (op d a0 a1 a2 a3 b0 b1 b2 b3 : Tm), (op.v = 51 ∨ op.v = 52 ∨ op.v = 53) → (0 ≤ d.v ∧ d.v ≤ 2) → (Tm.fn .u32 13 (.cons op (.cons d (.cons a0 (.cons a1 (.cons a2 (.cons a3 (.cons b0 (.cons b1 (.cons b2 (.cons b3 .nil))))))))))).v = byLanesF op.v d.v a3.v b3.v := by
  letI := cpuVal ints bools
  intro op d a0 a1 a2 a3 b0 b1 b2 b3 ho hd
  show IntKind.u32.wrap ((lanesV op.v d.v (q4 a0.v a1.v a2.v a3.v) (q4 b0.v b1.v b2.v b3.v)).1 3) = _
  rw [u32_wrap (lanesV_bd _ _ _ _ 3 (by decide)), lanesV_arith _ _ _ _ ho hd]
  rfl
theorem shuf_k3 (ints : Nat → Int) (bools : Nat → Bool) : letI := cpuVal ints bools; ∀ (op d a0 a1 a2 a3 b0 b1 b2 b3 : Tm), op.v = 57 → (Tm.fn .u32 13 (.cons op (.cons d (.cons a0 (.cons a1 (.cons a2 (.cons a3 (.cons b0 (.cons b1 (.cons b2 (.cons b3 .nil))))))))))).v = shufTo (q4 a0.v a1.v a2.v a3.v) (q4 b0.v b1.v b2.v b3.v) 16 3 := by
  letI := cpuVal ints bools
  intro op d a0 a1 a2 a3 b0 b1 b2 b3 ho
  show IntKind.u32.wrap ((lanesV op.v d.v (q4 a0.v a1.v a2.v a3.v) (q4 b0.v b1.v b2.v b3.v)).1 3) = _
  rw [u32_wrap (lanesV_bd _ _ _ _ 3 (by decide)), ho, lanesV_shuf]
theorem lane_is2 (ints : Nat → Int) (bools : Nat → Bool) : letI := cpuVal ints bools; ∀ (op d a0 a1 a2 a3 b0 b1 b2 b3 : Tm), (op.v = 51 ∨ op.v = 52 ∨ op.v = 53) → (0 ≤ d.v ∧ d.v ≤ 2) → (Bm.fn 3 (.cons op (.cons d (.cons a0 (.cons a1 (.cons a2 (.cons a3 (.cons b0 (.cons b1 (.cons b2 (.cons b3 .nil))))))))))).v = true := by
  letI := cpuVal ints bools
  intro op d a0 a1 a2 a3 b0 b1 b2 b3 ho hd
  show (lanesV op.v d.v (q4 a0.v a1.v a2.v a3.v) (q4 b0.v b1.v b2.v b3.v)).2 = _
  rw [lanesV_arith _ _ _ _ ho hd]
theorem shuf_is (ints : Nat → Int) (bools : Nat → Bool) : letI := cpuVal ints bools; ∀ (op d a0 a1 a2 a3 b0 b1 b2 b3 : Tm), op.v = 57 → (Bm.fn 3 (.cons op (.cons d (.cons a0 (.cons a1 (.cons a2 (.cons a3 (.cons b0 (.cons b1 (.cons b2 (.cons b3 .nil))))))))))).v = true := by
  letI := cpuVal ints bools
  intro op d a0 a1 a2 a3 b0 b1 b2 b3 ho
  show (lanesV op.v d.v (q4 a0.v a1.v a2.v a3.v) (q4 b0.v b1.v b2.v b3.v)).2 = _
  rw [ho, lanesV_shuf]
/-- The letters of the law. -/
abbrev laI (v w z : Vc) (d : Int) : Nat → Int := fun i => [v 0, v 1, v 2, v 3, w 0, w 1, w 2, w 3, z 0, z 1, z 2, z 3, d].getD i 0
abbrev laB : Nat → Bool := fun _ => false
abbrev laV (v w z : Vc) (d : Int) : Val := cpuVal (laI v w z d) laB
def d64 (d : Int) : Prop := -9223372036854775808 ≤ d ∧ d < 9223372036854775808
theorem la_d (v w z : Vc) (d : Int) (hd : d64 d) : letI := laV v w z d; (Tm.var .i64 12).v = d := wrap_same .i64 (by have := hd.1; show (-9223372036854775808 : Int) ≤ d; omega) (by have := hd.2; show d ≤ (9223372036854775807 : Int); omega)
theorem la_0 (v w z : Vc) (d : Int) (hv : VcOk v) : letI := laV v w z d; (Tm.var .u32 0).v = v 0 := u32_wrap (hv 0 (by decide))
theorem la_1 (v w z : Vc) (d : Int) (hv : VcOk v) : letI := laV v w z d; (Tm.var .u32 1).v = v 1 := u32_wrap (hv 1 (by decide))
theorem la_2 (v w z : Vc) (d : Int) (hv : VcOk v) : letI := laV v w z d; (Tm.var .u32 2).v = v 2 := u32_wrap (hv 2 (by decide))
theorem la_3 (v w z : Vc) (d : Int) (hv : VcOk v) : letI := laV v w z d; (Tm.var .u32 3).v = v 3 := u32_wrap (hv 3 (by decide))
theorem la_4 (v w z : Vc) (d : Int) (hw : VcOk w) : letI := laV v w z d; (Tm.var .u32 4).v = w 0 := u32_wrap (hw 0 (by decide))
theorem la_5 (v w z : Vc) (d : Int) (hw : VcOk w) : letI := laV v w z d; (Tm.var .u32 5).v = w 1 := u32_wrap (hw 1 (by decide))
theorem la_6 (v w z : Vc) (d : Int) (hw : VcOk w) : letI := laV v w z d; (Tm.var .u32 6).v = w 2 := u32_wrap (hw 2 (by decide))
theorem la_7 (v w z : Vc) (d : Int) (hw : VcOk w) : letI := laV v w z d; (Tm.var .u32 7).v = w 3 := u32_wrap (hw 3 (by decide))
theorem la_8 (v w z : Vc) (d : Int) (hz : VcOk z) : letI := laV v w z d; (Tm.var .u32 8).v = z 0 := u32_wrap (hz 0 (by decide))
theorem la_9 (v w z : Vc) (d : Int) (hz : VcOk z) : letI := laV v w z d; (Tm.var .u32 9).v = z 1 := u32_wrap (hz 1 (by decide))
theorem la_10 (v w z : Vc) (d : Int) (hz : VcOk z) : letI := laV v w z d; (Tm.var .u32 10).v = z 2 := u32_wrap (hz 2 (by decide))
theorem la_11 (v w z : Vc) (d : Int) (hz : VcOk z) : letI := laV v w z d; (Tm.var .u32 11).v = z 3 := u32_wrap (hz 3 (by decide))
theorem la_t0 (v w z : Vc) (d : Int) (hv : VcOk v) (hw : VcOk w) (hz : VcOk z) (hd : d64 d) (h02 : 0 ≤ d ∧ d ≤ 2) : letI := laV v w z d; lanest0.v = byLanesF 51 d (v 0) (w 0) := by
  letI := laV v w z d
  have h := lane_k0 (laI v w z d) laB (.lit 51) (.var .i64 12) (.var .u32 0) (.var .u32 1) (.var .u32 2) (.var .u32 3) (.var .u32 4) (.var .u32 5) (.var .u32 6) (.var .u32 7) (.inl rfl) (by rw [la_d v w z d hd]; exact h02)
  rw [la_0 v w z d hv, la_4 v w z d hw, la_d v w z d hd] at h
  exact h
theorem la_t1 (v w z : Vc) (d : Int) (hv : VcOk v) (hw : VcOk w) (hz : VcOk z) (hd : d64 d) (h02 : 0 ≤ d ∧ d ≤ 2) : letI := laV v w z d; lanest1.v = byLanesF 51 d (v 1) (w 1) := by
  letI := laV v w z d
  have h := lane_k1 (laI v w z d) laB (.lit 51) (.var .i64 12) (.var .u32 0) (.var .u32 1) (.var .u32 2) (.var .u32 3) (.var .u32 4) (.var .u32 5) (.var .u32 6) (.var .u32 7) (.inl rfl) (by rw [la_d v w z d hd]; exact h02)
  rw [la_1 v w z d hv, la_5 v w z d hw, la_d v w z d hd] at h
  exact h
theorem la_t2 (v w z : Vc) (d : Int) (hv : VcOk v) (hw : VcOk w) (hz : VcOk z) (hd : d64 d) (h02 : 0 ≤ d ∧ d ≤ 2) : letI := laV v w z d; lanest2.v = byLanesF 51 d (v 2) (w 2) := by
  letI := laV v w z d
  have h := lane_k2 (laI v w z d) laB (.lit 51) (.var .i64 12) (.var .u32 0) (.var .u32 1) (.var .u32 2) (.var .u32 3) (.var .u32 4) (.var .u32 5) (.var .u32 6) (.var .u32 7) (.inl rfl) (by rw [la_d v w z d hd]; exact h02)
  rw [la_2 v w z d hv, la_6 v w z d hw, la_d v w z d hd] at h
  exact h
theorem la_t3 (v w z : Vc) (d : Int) (hv : VcOk v) (hw : VcOk w) (hz : VcOk z) (hd : d64 d) (h02 : 0 ≤ d ∧ d ≤ 2) : letI := laV v w z d; lanest3.v = byLanesF 51 d (v 3) (w 3) := by
  letI := laV v w z d
  have h := lane_k3 (laI v w z d) laB (.lit 51) (.var .i64 12) (.var .u32 0) (.var .u32 1) (.var .u32 2) (.var .u32 3) (.var .u32 4) (.var .u32 5) (.var .u32 6) (.var .u32 7) (.inl rfl) (by rw [la_d v w z d hd]; exact h02)
  rw [la_3 v w z d hv, la_7 v w z d hw, la_d v w z d hd] at h
  exact h
theorem la_t4 (v w z : Vc) (d : Int) (hv : VcOk v) (hw : VcOk w) (hz : VcOk z) (hd : d64 d) (h02 : 0 ≤ d ∧ d ≤ 2) : letI := laV v w z d; lanest4.v = v 0 := by
  letI := laV v w z d
  have h := lane_k0 (laI v w z d) laB (.lit 52) (.var .i64 12) lanest0 lanest1 lanest2 lanest3 (.var .u32 4) (.var .u32 5) (.var .u32 6) (.var .u32 7) (.inr (.inl rfl)) (by rw [la_d v w z d hd]; exact h02)
  rw [la_t0 v w z d hv hw hz hd h02, la_4 v w z d hw, la_d v w z d hd] at h
  have u := lanes_undo d (v 0) (w 0) (by omega) (hv 0 (by decide)) (hw 0 (by decide))
  exact h.trans u
theorem la_t5 (v w z : Vc) (d : Int) (hv : VcOk v) (hw : VcOk w) (hz : VcOk z) (hd : d64 d) (h02 : 0 ≤ d ∧ d ≤ 2) : letI := laV v w z d; lanest5.v = v 1 := by
  letI := laV v w z d
  have h := lane_k1 (laI v w z d) laB (.lit 52) (.var .i64 12) lanest0 lanest1 lanest2 lanest3 (.var .u32 4) (.var .u32 5) (.var .u32 6) (.var .u32 7) (.inr (.inl rfl)) (by rw [la_d v w z d hd]; exact h02)
  rw [la_t1 v w z d hv hw hz hd h02, la_5 v w z d hw, la_d v w z d hd] at h
  have u := lanes_undo d (v 1) (w 1) (by omega) (hv 1 (by decide)) (hw 1 (by decide))
  exact h.trans u
theorem la_t6 (v w z : Vc) (d : Int) (hv : VcOk v) (hw : VcOk w) (hz : VcOk z) (hd : d64 d) (h02 : 0 ≤ d ∧ d ≤ 2) : letI := laV v w z d; lanest6.v = v 2 := by
  letI := laV v w z d
  have h := lane_k2 (laI v w z d) laB (.lit 52) (.var .i64 12) lanest0 lanest1 lanest2 lanest3 (.var .u32 4) (.var .u32 5) (.var .u32 6) (.var .u32 7) (.inr (.inl rfl)) (by rw [la_d v w z d hd]; exact h02)
  rw [la_t2 v w z d hv hw hz hd h02, la_6 v w z d hw, la_d v w z d hd] at h
  have u := lanes_undo d (v 2) (w 2) (by omega) (hv 2 (by decide)) (hw 2 (by decide))
  exact h.trans u
theorem la_t7 (v w z : Vc) (d : Int) (hv : VcOk v) (hw : VcOk w) (hz : VcOk z) (hd : d64 d) (h02 : 0 ≤ d ∧ d ≤ 2) : letI := laV v w z d; lanest7.v = v 3 := by
  letI := laV v w z d
  have h := lane_k3 (laI v w z d) laB (.lit 52) (.var .i64 12) lanest0 lanest1 lanest2 lanest3 (.var .u32 4) (.var .u32 5) (.var .u32 6) (.var .u32 7) (.inr (.inl rfl)) (by rw [la_d v w z d hd]; exact h02)
  rw [la_t3 v w z d hv hw hz hd h02, la_7 v w z d hw, la_d v w z d hd] at h
  have u := lanes_undo d (v 3) (w 3) (by omega) (hv 3 (by decide)) (hw 3 (by decide))
  exact h.trans u
theorem la_t8 (v w z : Vc) (d : Int) (hv : VcOk v) (hw : VcOk w) (hz : VcOk z) (hd : d64 d) (h02 : 0 ≤ d ∧ d ≤ 2) : letI := laV v w z d; lanest8.v = 4294967295 := by
  letI := laV v w z d
  have h := lane_k0 (laI v w z d) laB (.lit 53) (.var .i64 12) (.var .u32 0) (.var .u32 1) (.var .u32 2) (.var .u32 3) (.var .u32 0) (.var .u32 1) (.var .u32 2) (.var .u32 3) (.inr (.inr rfl)) (by rw [la_d v w z d hd]; exact h02)
  rw [la_0 v w z d hv, la_d v w z d hd] at h
  exact h.trans (lanes_same d (v 0) (by omega) (hv 0 (by decide)))
theorem la_t9 (v w z : Vc) (d : Int) (hv : VcOk v) (hw : VcOk w) (hz : VcOk z) (hd : d64 d) (h02 : 0 ≤ d ∧ d ≤ 2) : letI := laV v w z d; lanest9.v = 4294967295 := by
  letI := laV v w z d
  have h := lane_k1 (laI v w z d) laB (.lit 53) (.var .i64 12) (.var .u32 0) (.var .u32 1) (.var .u32 2) (.var .u32 3) (.var .u32 0) (.var .u32 1) (.var .u32 2) (.var .u32 3) (.inr (.inr rfl)) (by rw [la_d v w z d hd]; exact h02)
  rw [la_1 v w z d hv, la_d v w z d hd] at h
  exact h.trans (lanes_same d (v 1) (by omega) (hv 1 (by decide)))
theorem la_t10 (v w z : Vc) (d : Int) (hv : VcOk v) (hw : VcOk w) (hz : VcOk z) (hd : d64 d) (h02 : 0 ≤ d ∧ d ≤ 2) : letI := laV v w z d; lanest10.v = 4294967295 := by
  letI := laV v w z d
  have h := lane_k2 (laI v w z d) laB (.lit 53) (.var .i64 12) (.var .u32 0) (.var .u32 1) (.var .u32 2) (.var .u32 3) (.var .u32 0) (.var .u32 1) (.var .u32 2) (.var .u32 3) (.inr (.inr rfl)) (by rw [la_d v w z d hd]; exact h02)
  rw [la_2 v w z d hv, la_d v w z d hd] at h
  exact h.trans (lanes_same d (v 2) (by omega) (hv 2 (by decide)))
theorem la_t11 (v w z : Vc) (d : Int) (hv : VcOk v) (hw : VcOk w) (hz : VcOk z) (hd : d64 d) (h02 : 0 ≤ d ∧ d ≤ 2) : letI := laV v w z d; lanest11.v = 4294967295 := by
  letI := laV v w z d
  have h := lane_k3 (laI v w z d) laB (.lit 53) (.var .i64 12) (.var .u32 0) (.var .u32 1) (.var .u32 2) (.var .u32 3) (.var .u32 0) (.var .u32 1) (.var .u32 2) (.var .u32 3) (.inr (.inr rfl)) (by rw [la_d v w z d hd]; exact h02)
  rw [la_3 v w z d hv, la_d v w z d hd] at h
  exact h.trans (lanes_same d (v 3) (by omega) (hv 3 (by decide)))
theorem la_t12 (v w z : Vc) (d : Int) (hv : VcOk v) (hw : VcOk w) (hz : VcOk z) (hd : d64 d) (h02 : 0 ≤ d ∧ d ≤ 2) : letI := laV v w z d; lanest12.v = lanest13.v := by
  letI := laV v w z d
  have h := lane_k0 (laI v w z d) laB (.lit 51) (.lit 2) (.var .u32 0) (.var .u32 1) (.var .u32 2) (.var .u32 3) (.var .u32 4) (.var .u32 5) (.var .u32 6) (.var .u32 7) (.inl rfl) ⟨(by decide : (0 : Int) ≤ 2), (by decide : (2 : Int) ≤ 2)⟩
  rw [la_0 v w z d hv, la_4 v w z d hw] at h
  refine (h.trans (lanes_add (v 0) (w 0) (hv 0 (by decide)) (hw 0 (by decide)))).trans ?_
  show _ = IntKind.u32.wrap (aluT 3 (Tm.var .u32 0).v (Tm.var .u32 4).v 0).1
  rw [la_0 v w z d hv, la_4 v w z d hw, u32_wrap (aluT_bd 3 _ _ 0 (hv 0 (by decide)) (hw 0 (by decide))).1]
  rfl
theorem la_t14 (v w z : Vc) (d : Int) (hv : VcOk v) (hw : VcOk w) (hz : VcOk z) (hd : d64 d) (h02 : 0 ≤ d ∧ d ≤ 2) : letI := laV v w z d; lanest14.v = lanest15.v := by
  letI := laV v w z d
  have h := lane_k0 (laI v w z d) laB (.lit 52) (.lit 2) (.var .u32 0) (.var .u32 1) (.var .u32 2) (.var .u32 3) (.var .u32 4) (.var .u32 5) (.var .u32 6) (.var .u32 7) (.inr (.inl rfl)) ⟨(by decide : (0 : Int) ≤ 2), (by decide : (2 : Int) ≤ 2)⟩
  rw [la_0 v w z d hv, la_4 v w z d hw] at h
  refine (h.trans (lanes_sub (v 0) (w 0) (hv 0 (by decide)) (hw 0 (by decide)))).trans ?_
  show _ = IntKind.u32.wrap (aluT 4 (Tm.var .u32 0).v (Tm.var .u32 4).v 0).1
  rw [la_0 v w z d hv, la_4 v w z d hw, u32_wrap (aluT_bd 4 _ _ 0 (hv 0 (by decide)) (hw 0 (by decide))).1]
  rfl
theorem la_t16 (v w z : Vc) (d : Int) (hv : VcOk v) (hw : VcOk w) (hz : VcOk z) (hd : d64 d) (h02 : 0 ≤ d ∧ d ≤ 2) : letI := laV v w z d; lanest16.v = lanest17.v := by
  letI := laV v w z d
  have h := lane_k1 (laI v w z d) laB (.lit 51) (.lit 2) (.var .u32 0) (.var .u32 1) (.var .u32 2) (.var .u32 3) (.var .u32 4) (.var .u32 5) (.var .u32 6) (.var .u32 7) (.inl rfl) ⟨(by decide : (0 : Int) ≤ 2), (by decide : (2 : Int) ≤ 2)⟩
  rw [la_1 v w z d hv, la_5 v w z d hw] at h
  refine (h.trans (lanes_add (v 1) (w 1) (hv 1 (by decide)) (hw 1 (by decide)))).trans ?_
  show _ = IntKind.u32.wrap (aluT 3 (Tm.var .u32 1).v (Tm.var .u32 5).v 0).1
  rw [la_1 v w z d hv, la_5 v w z d hw, u32_wrap (aluT_bd 3 _ _ 0 (hv 1 (by decide)) (hw 1 (by decide))).1]
  rfl
theorem la_t18 (v w z : Vc) (d : Int) (hv : VcOk v) (hw : VcOk w) (hz : VcOk z) (hd : d64 d) (h02 : 0 ≤ d ∧ d ≤ 2) : letI := laV v w z d; lanest18.v = lanest19.v := by
  letI := laV v w z d
  have h := lane_k1 (laI v w z d) laB (.lit 52) (.lit 2) (.var .u32 0) (.var .u32 1) (.var .u32 2) (.var .u32 3) (.var .u32 4) (.var .u32 5) (.var .u32 6) (.var .u32 7) (.inr (.inl rfl)) ⟨(by decide : (0 : Int) ≤ 2), (by decide : (2 : Int) ≤ 2)⟩
  rw [la_1 v w z d hv, la_5 v w z d hw] at h
  refine (h.trans (lanes_sub (v 1) (w 1) (hv 1 (by decide)) (hw 1 (by decide)))).trans ?_
  show _ = IntKind.u32.wrap (aluT 4 (Tm.var .u32 1).v (Tm.var .u32 5).v 0).1
  rw [la_1 v w z d hv, la_5 v w z d hw, u32_wrap (aluT_bd 4 _ _ 0 (hv 1 (by decide)) (hw 1 (by decide))).1]
  rfl
theorem la_t20 (v w z : Vc) (d : Int) (hv : VcOk v) (hw : VcOk w) (hz : VcOk z) (hd : d64 d) (h02 : 0 ≤ d ∧ d ≤ 2) : letI := laV v w z d; lanest20.v = lanest21.v := by
  letI := laV v w z d
  have h := lane_k2 (laI v w z d) laB (.lit 51) (.lit 2) (.var .u32 0) (.var .u32 1) (.var .u32 2) (.var .u32 3) (.var .u32 4) (.var .u32 5) (.var .u32 6) (.var .u32 7) (.inl rfl) ⟨(by decide : (0 : Int) ≤ 2), (by decide : (2 : Int) ≤ 2)⟩
  rw [la_2 v w z d hv, la_6 v w z d hw] at h
  refine (h.trans (lanes_add (v 2) (w 2) (hv 2 (by decide)) (hw 2 (by decide)))).trans ?_
  show _ = IntKind.u32.wrap (aluT 3 (Tm.var .u32 2).v (Tm.var .u32 6).v 0).1
  rw [la_2 v w z d hv, la_6 v w z d hw, u32_wrap (aluT_bd 3 _ _ 0 (hv 2 (by decide)) (hw 2 (by decide))).1]
  rfl
theorem la_t22 (v w z : Vc) (d : Int) (hv : VcOk v) (hw : VcOk w) (hz : VcOk z) (hd : d64 d) (h02 : 0 ≤ d ∧ d ≤ 2) : letI := laV v w z d; lanest22.v = lanest23.v := by
  letI := laV v w z d
  have h := lane_k2 (laI v w z d) laB (.lit 52) (.lit 2) (.var .u32 0) (.var .u32 1) (.var .u32 2) (.var .u32 3) (.var .u32 4) (.var .u32 5) (.var .u32 6) (.var .u32 7) (.inr (.inl rfl)) ⟨(by decide : (0 : Int) ≤ 2), (by decide : (2 : Int) ≤ 2)⟩
  rw [la_2 v w z d hv, la_6 v w z d hw] at h
  refine (h.trans (lanes_sub (v 2) (w 2) (hv 2 (by decide)) (hw 2 (by decide)))).trans ?_
  show _ = IntKind.u32.wrap (aluT 4 (Tm.var .u32 2).v (Tm.var .u32 6).v 0).1
  rw [la_2 v w z d hv, la_6 v w z d hw, u32_wrap (aluT_bd 4 _ _ 0 (hv 2 (by decide)) (hw 2 (by decide))).1]
  rfl
theorem la_t24 (v w z : Vc) (d : Int) (hv : VcOk v) (hw : VcOk w) (hz : VcOk z) (hd : d64 d) (h02 : 0 ≤ d ∧ d ≤ 2) : letI := laV v w z d; lanest24.v = lanest25.v := by
  letI := laV v w z d
  have h := lane_k3 (laI v w z d) laB (.lit 51) (.lit 2) (.var .u32 0) (.var .u32 1) (.var .u32 2) (.var .u32 3) (.var .u32 4) (.var .u32 5) (.var .u32 6) (.var .u32 7) (.inl rfl) ⟨(by decide : (0 : Int) ≤ 2), (by decide : (2 : Int) ≤ 2)⟩
  rw [la_3 v w z d hv, la_7 v w z d hw] at h
  refine (h.trans (lanes_add (v 3) (w 3) (hv 3 (by decide)) (hw 3 (by decide)))).trans ?_
  show _ = IntKind.u32.wrap (aluT 3 (Tm.var .u32 3).v (Tm.var .u32 7).v 0).1
  rw [la_3 v w z d hv, la_7 v w z d hw, u32_wrap (aluT_bd 3 _ _ 0 (hv 3 (by decide)) (hw 3 (by decide))).1]
  rfl
theorem la_t26 (v w z : Vc) (d : Int) (hv : VcOk v) (hw : VcOk w) (hz : VcOk z) (hd : d64 d) (h02 : 0 ≤ d ∧ d ≤ 2) : letI := laV v w z d; lanest26.v = lanest27.v := by
  letI := laV v w z d
  have h := lane_k3 (laI v w z d) laB (.lit 52) (.lit 2) (.var .u32 0) (.var .u32 1) (.var .u32 2) (.var .u32 3) (.var .u32 4) (.var .u32 5) (.var .u32 6) (.var .u32 7) (.inr (.inl rfl)) ⟨(by decide : (0 : Int) ≤ 2), (by decide : (2 : Int) ≤ 2)⟩
  rw [la_3 v w z d hv, la_7 v w z d hw] at h
  refine (h.trans (lanes_sub (v 3) (w 3) (hv 3 (by decide)) (hw 3 (by decide)))).trans ?_
  show _ = IntKind.u32.wrap (aluT 4 (Tm.var .u32 3).v (Tm.var .u32 7).v 0).1
  rw [la_3 v w z d hv, la_7 v w z d hw, u32_wrap (aluT_bd 4 _ _ 0 (hv 3 (by decide)) (hw 3 (by decide))).1]
  rfl
theorem la_t28 (v w z : Vc) (d : Int) (hv : VcOk v) (hw : VcOk w) (hz : VcOk z) (hd : d64 d) (h02 : 0 ≤ d ∧ d ≤ 2) : letI := laV v w z d; lanest28.v = shufTo v w 16 0 := by
  letI := laV v w z d
  have h := shuf_k0 (laI v w z d) laB (.lit 57) (.lit 0) (.var .u32 0) (.var .u32 1) (.var .u32 2) (.var .u32 3) (.var .u32 4) (.var .u32 5) (.var .u32 6) (.var .u32 7) rfl
  rw [la_0 v w z d hv, la_1 v w z d hv, la_2 v w z d hv, la_3 v w z d hv, la_4 v w z d hw, la_5 v w z d hw, la_6 v w z d hw, la_7 v w z d hw] at h
  exact h.trans (shuf_ext (fun j hj => q4_get v j hj) (fun j hj => q4_get w j hj) 0 (by decide))
theorem la_t29 (v w z : Vc) (d : Int) (hv : VcOk v) (hw : VcOk w) (hz : VcOk z) (hd : d64 d) (h02 : 0 ≤ d ∧ d ≤ 2) : letI := laV v w z d; lanest29.v = shufTo v w 16 1 := by
  letI := laV v w z d
  have h := shuf_k1 (laI v w z d) laB (.lit 57) (.lit 0) (.var .u32 0) (.var .u32 1) (.var .u32 2) (.var .u32 3) (.var .u32 4) (.var .u32 5) (.var .u32 6) (.var .u32 7) rfl
  rw [la_0 v w z d hv, la_1 v w z d hv, la_2 v w z d hv, la_3 v w z d hv, la_4 v w z d hw, la_5 v w z d hw, la_6 v w z d hw, la_7 v w z d hw] at h
  exact h.trans (shuf_ext (fun j hj => q4_get v j hj) (fun j hj => q4_get w j hj) 1 (by decide))
theorem la_t30 (v w z : Vc) (d : Int) (hv : VcOk v) (hw : VcOk w) (hz : VcOk z) (hd : d64 d) (h02 : 0 ≤ d ∧ d ≤ 2) : letI := laV v w z d; lanest30.v = shufTo v w 16 2 := by
  letI := laV v w z d
  have h := shuf_k2 (laI v w z d) laB (.lit 57) (.lit 0) (.var .u32 0) (.var .u32 1) (.var .u32 2) (.var .u32 3) (.var .u32 4) (.var .u32 5) (.var .u32 6) (.var .u32 7) rfl
  rw [la_0 v w z d hv, la_1 v w z d hv, la_2 v w z d hv, la_3 v w z d hv, la_4 v w z d hw, la_5 v w z d hw, la_6 v w z d hw, la_7 v w z d hw] at h
  exact h.trans (shuf_ext (fun j hj => q4_get v j hj) (fun j hj => q4_get w j hj) 2 (by decide))
theorem la_t31 (v w z : Vc) (d : Int) (hv : VcOk v) (hw : VcOk w) (hz : VcOk z) (hd : d64 d) (h02 : 0 ≤ d ∧ d ≤ 2) : letI := laV v w z d; lanest31.v = shufTo v w 16 3 := by
  letI := laV v w z d
  have h := shuf_k3 (laI v w z d) laB (.lit 57) (.lit 0) (.var .u32 0) (.var .u32 1) (.var .u32 2) (.var .u32 3) (.var .u32 4) (.var .u32 5) (.var .u32 6) (.var .u32 7) rfl
  rw [la_0 v w z d hv, la_1 v w z d hv, la_2 v w z d hv, la_3 v w z d hv, la_4 v w z d hw, la_5 v w z d hw, la_6 v w z d hw, la_7 v w z d hw] at h
  exact h.trans (shuf_ext (fun j hj => q4_get v j hj) (fun j hj => q4_get w j hj) 3 (by decide))
theorem la_t32 (v w z : Vc) (d : Int) (hv : VcOk v) (hw : VcOk w) (hz : VcOk z) (hd : d64 d) (h02 : 0 ≤ d ∧ d ≤ 2) : letI := laV v w z d; lanest32.v = shufTo w z 16 0 := by
  letI := laV v w z d
  have h := shuf_k0 (laI v w z d) laB (.lit 57) (.lit 0) (.var .u32 4) (.var .u32 5) (.var .u32 6) (.var .u32 7) (.var .u32 8) (.var .u32 9) (.var .u32 10) (.var .u32 11) rfl
  rw [la_4 v w z d hw, la_5 v w z d hw, la_6 v w z d hw, la_7 v w z d hw, la_8 v w z d hz, la_9 v w z d hz, la_10 v w z d hz, la_11 v w z d hz] at h
  exact h.trans (shuf_ext (fun j hj => q4_get w j hj) (fun j hj => q4_get z j hj) 0 (by decide))
theorem la_t33 (v w z : Vc) (d : Int) (hv : VcOk v) (hw : VcOk w) (hz : VcOk z) (hd : d64 d) (h02 : 0 ≤ d ∧ d ≤ 2) : letI := laV v w z d; lanest33.v = shufTo w z 16 1 := by
  letI := laV v w z d
  have h := shuf_k1 (laI v w z d) laB (.lit 57) (.lit 0) (.var .u32 4) (.var .u32 5) (.var .u32 6) (.var .u32 7) (.var .u32 8) (.var .u32 9) (.var .u32 10) (.var .u32 11) rfl
  rw [la_4 v w z d hw, la_5 v w z d hw, la_6 v w z d hw, la_7 v w z d hw, la_8 v w z d hz, la_9 v w z d hz, la_10 v w z d hz, la_11 v w z d hz] at h
  exact h.trans (shuf_ext (fun j hj => q4_get w j hj) (fun j hj => q4_get z j hj) 1 (by decide))
theorem la_t34 (v w z : Vc) (d : Int) (hv : VcOk v) (hw : VcOk w) (hz : VcOk z) (hd : d64 d) (h02 : 0 ≤ d ∧ d ≤ 2) : letI := laV v w z d; lanest34.v = shufTo w z 16 2 := by
  letI := laV v w z d
  have h := shuf_k2 (laI v w z d) laB (.lit 57) (.lit 0) (.var .u32 4) (.var .u32 5) (.var .u32 6) (.var .u32 7) (.var .u32 8) (.var .u32 9) (.var .u32 10) (.var .u32 11) rfl
  rw [la_4 v w z d hw, la_5 v w z d hw, la_6 v w z d hw, la_7 v w z d hw, la_8 v w z d hz, la_9 v w z d hz, la_10 v w z d hz, la_11 v w z d hz] at h
  exact h.trans (shuf_ext (fun j hj => q4_get w j hj) (fun j hj => q4_get z j hj) 2 (by decide))
theorem la_t35 (v w z : Vc) (d : Int) (hv : VcOk v) (hw : VcOk w) (hz : VcOk z) (hd : d64 d) (h02 : 0 ≤ d ∧ d ≤ 2) : letI := laV v w z d; lanest35.v = shufTo w z 16 3 := by
  letI := laV v w z d
  have h := shuf_k3 (laI v w z d) laB (.lit 57) (.lit 0) (.var .u32 4) (.var .u32 5) (.var .u32 6) (.var .u32 7) (.var .u32 8) (.var .u32 9) (.var .u32 10) (.var .u32 11) rfl
  rw [la_4 v w z d hw, la_5 v w z d hw, la_6 v w z d hw, la_7 v w z d hw, la_8 v w z d hz, la_9 v w z d hz, la_10 v w z d hz, la_11 v w z d hz] at h
  exact h.trans (shuf_ext (fun j hj => q4_get w j hj) (fun j hj => q4_get z j hj) 3 (by decide))
theorem la_t36 (v w z : Vc) (d : Int) (hv : VcOk v) (hw : VcOk w) (hz : VcOk z) (hd : d64 d) (h02 : 0 ≤ d ∧ d ≤ 2) : letI := laV v w z d; lanest36.v = v 0 := by
  letI := laV v w z d
  have h := shuf_k0 (laI v w z d) laB (.lit 57) (.lit 0) (.var .u32 0) (.var .u32 1) (.var .u32 2) (.var .u32 3) (.lit 50462976) (.lit 117835012) (.lit 185207048) (.lit 252579084) rfl
  rw [la_0 v w z d hv, la_1 v w z d hv, la_2 v w z d hv, la_3 v w z d hv] at h
  refine h.trans ((shuf_ext (fun j hj => q4_get v j hj) (fun j hj => rfl) 0 (by decide)).trans (shuf_id v _ hv idV 0 (by decide)))
theorem la_t37 (v w z : Vc) (d : Int) (hv : VcOk v) (hw : VcOk w) (hz : VcOk z) (hd : d64 d) (h02 : 0 ≤ d ∧ d ≤ 2) : letI := laV v w z d; lanest37.v = v 1 := by
  letI := laV v w z d
  have h := shuf_k1 (laI v w z d) laB (.lit 57) (.lit 0) (.var .u32 0) (.var .u32 1) (.var .u32 2) (.var .u32 3) (.lit 50462976) (.lit 117835012) (.lit 185207048) (.lit 252579084) rfl
  rw [la_0 v w z d hv, la_1 v w z d hv, la_2 v w z d hv, la_3 v w z d hv] at h
  refine h.trans ((shuf_ext (fun j hj => q4_get v j hj) (fun j hj => rfl) 1 (by decide)).trans (shuf_id v _ hv idV 1 (by decide)))
theorem la_t38 (v w z : Vc) (d : Int) (hv : VcOk v) (hw : VcOk w) (hz : VcOk z) (hd : d64 d) (h02 : 0 ≤ d ∧ d ≤ 2) : letI := laV v w z d; lanest38.v = v 2 := by
  letI := laV v w z d
  have h := shuf_k2 (laI v w z d) laB (.lit 57) (.lit 0) (.var .u32 0) (.var .u32 1) (.var .u32 2) (.var .u32 3) (.lit 50462976) (.lit 117835012) (.lit 185207048) (.lit 252579084) rfl
  rw [la_0 v w z d hv, la_1 v w z d hv, la_2 v w z d hv, la_3 v w z d hv] at h
  refine h.trans ((shuf_ext (fun j hj => q4_get v j hj) (fun j hj => rfl) 2 (by decide)).trans (shuf_id v _ hv idV 2 (by decide)))
theorem la_t39 (v w z : Vc) (d : Int) (hv : VcOk v) (hw : VcOk w) (hz : VcOk z) (hd : d64 d) (h02 : 0 ≤ d ∧ d ≤ 2) : letI := laV v w z d; lanest39.v = v 3 := by
  letI := laV v w z d
  have h := shuf_k3 (laI v w z d) laB (.lit 57) (.lit 0) (.var .u32 0) (.var .u32 1) (.var .u32 2) (.var .u32 3) (.lit 50462976) (.lit 117835012) (.lit 185207048) (.lit 252579084) rfl
  rw [la_0 v w z d hv, la_1 v w z d hv, la_2 v w z d hv, la_3 v w z d hv] at h
  refine h.trans ((shuf_ext (fun j hj => q4_get v j hj) (fun j hj => rfl) 3 (by decide)).trans (shuf_id v _ hv idV 3 (by decide)))
theorem la_t40 (v w z : Vc) (d : Int) (hv : VcOk v) (hw : VcOk w) (hz : VcOk z) (hd : d64 d) (h02 : 0 ≤ d ∧ d ≤ 2) : letI := laV v w z d; lanest40.v = lanest41.v := by
  letI := laV v w z d
  have h := shuf_k0 (laI v w z d) laB (.lit 57) (.lit 0) lanest28 lanest29 lanest30 lanest31 (.var .u32 8) (.var .u32 9) (.var .u32 10) (.var .u32 11) rfl
  have g := shuf_k0 (laI v w z d) laB (.lit 57) (.lit 0) (.var .u32 0) (.var .u32 1) (.var .u32 2) (.var .u32 3) lanest32 lanest33 lanest34 lanest35 rfl
  rw [la_t28 v w z d hv hw hz hd h02, la_t29 v w z d hv hw hz hd h02, la_t30 v w z d hv hw hz hd h02, la_t31 v w z d hv hw hz hd h02, la_8 v w z d hz, la_9 v w z d hz, la_10 v w z d hz, la_11 v w z d hz] at h
  rw [la_0 v w z d hv, la_1 v w z d hv, la_2 v w z d hv, la_3 v w z d hv, la_t32 v w z d hv hw hz hd h02, la_t33 v w z d hv hw hz hd h02, la_t34 v w z d hv hw hz hd h02, la_t35 v w z d hv hw hz hd h02] at g
  refine h.trans (Eq.trans ?_ g.symm)
  rw [shuf_ext (fun j hj => rfl) (fun j hj => q4_get z j hj) 0 (by decide), shuf_ext (a := q4 (v 0) (v 1) (v 2) (v 3)) (fun j hj => q4_get v j hj) (fun j hj => rfl) 0 (by decide)]
  exact shuf_two v w z _ _ (fun j hj => q4_get (shufTo v w 16) j hj) (fun j hj => q4_get (shufTo w z 16) j hj) 0 (by decide)
theorem la_t42 (v w z : Vc) (d : Int) (hv : VcOk v) (hw : VcOk w) (hz : VcOk z) (hd : d64 d) (h02 : 0 ≤ d ∧ d ≤ 2) : letI := laV v w z d; lanest42.v = lanest43.v := by
  letI := laV v w z d
  have h := shuf_k1 (laI v w z d) laB (.lit 57) (.lit 0) lanest28 lanest29 lanest30 lanest31 (.var .u32 8) (.var .u32 9) (.var .u32 10) (.var .u32 11) rfl
  have g := shuf_k1 (laI v w z d) laB (.lit 57) (.lit 0) (.var .u32 0) (.var .u32 1) (.var .u32 2) (.var .u32 3) lanest32 lanest33 lanest34 lanest35 rfl
  rw [la_t28 v w z d hv hw hz hd h02, la_t29 v w z d hv hw hz hd h02, la_t30 v w z d hv hw hz hd h02, la_t31 v w z d hv hw hz hd h02, la_8 v w z d hz, la_9 v w z d hz, la_10 v w z d hz, la_11 v w z d hz] at h
  rw [la_0 v w z d hv, la_1 v w z d hv, la_2 v w z d hv, la_3 v w z d hv, la_t32 v w z d hv hw hz hd h02, la_t33 v w z d hv hw hz hd h02, la_t34 v w z d hv hw hz hd h02, la_t35 v w z d hv hw hz hd h02] at g
  refine h.trans (Eq.trans ?_ g.symm)
  rw [shuf_ext (fun j hj => rfl) (fun j hj => q4_get z j hj) 1 (by decide), shuf_ext (a := q4 (v 0) (v 1) (v 2) (v 3)) (fun j hj => q4_get v j hj) (fun j hj => rfl) 1 (by decide)]
  exact shuf_two v w z _ _ (fun j hj => q4_get (shufTo v w 16) j hj) (fun j hj => q4_get (shufTo w z 16) j hj) 1 (by decide)
theorem la_t44 (v w z : Vc) (d : Int) (hv : VcOk v) (hw : VcOk w) (hz : VcOk z) (hd : d64 d) (h02 : 0 ≤ d ∧ d ≤ 2) : letI := laV v w z d; lanest44.v = lanest45.v := by
  letI := laV v w z d
  have h := shuf_k2 (laI v w z d) laB (.lit 57) (.lit 0) lanest28 lanest29 lanest30 lanest31 (.var .u32 8) (.var .u32 9) (.var .u32 10) (.var .u32 11) rfl
  have g := shuf_k2 (laI v w z d) laB (.lit 57) (.lit 0) (.var .u32 0) (.var .u32 1) (.var .u32 2) (.var .u32 3) lanest32 lanest33 lanest34 lanest35 rfl
  rw [la_t28 v w z d hv hw hz hd h02, la_t29 v w z d hv hw hz hd h02, la_t30 v w z d hv hw hz hd h02, la_t31 v w z d hv hw hz hd h02, la_8 v w z d hz, la_9 v w z d hz, la_10 v w z d hz, la_11 v w z d hz] at h
  rw [la_0 v w z d hv, la_1 v w z d hv, la_2 v w z d hv, la_3 v w z d hv, la_t32 v w z d hv hw hz hd h02, la_t33 v w z d hv hw hz hd h02, la_t34 v w z d hv hw hz hd h02, la_t35 v w z d hv hw hz hd h02] at g
  refine h.trans (Eq.trans ?_ g.symm)
  rw [shuf_ext (fun j hj => rfl) (fun j hj => q4_get z j hj) 2 (by decide), shuf_ext (a := q4 (v 0) (v 1) (v 2) (v 3)) (fun j hj => q4_get v j hj) (fun j hj => rfl) 2 (by decide)]
  exact shuf_two v w z _ _ (fun j hj => q4_get (shufTo v w 16) j hj) (fun j hj => q4_get (shufTo w z 16) j hj) 2 (by decide)
theorem la_t46 (v w z : Vc) (d : Int) (hv : VcOk v) (hw : VcOk w) (hz : VcOk z) (hd : d64 d) (h02 : 0 ≤ d ∧ d ≤ 2) : letI := laV v w z d; lanest46.v = lanest47.v := by
  letI := laV v w z d
  have h := shuf_k3 (laI v w z d) laB (.lit 57) (.lit 0) lanest28 lanest29 lanest30 lanest31 (.var .u32 8) (.var .u32 9) (.var .u32 10) (.var .u32 11) rfl
  have g := shuf_k3 (laI v w z d) laB (.lit 57) (.lit 0) (.var .u32 0) (.var .u32 1) (.var .u32 2) (.var .u32 3) lanest32 lanest33 lanest34 lanest35 rfl
  rw [la_t28 v w z d hv hw hz hd h02, la_t29 v w z d hv hw hz hd h02, la_t30 v w z d hv hw hz hd h02, la_t31 v w z d hv hw hz hd h02, la_8 v w z d hz, la_9 v w z d hz, la_10 v w z d hz, la_11 v w z d hz] at h
  rw [la_0 v w z d hv, la_1 v w z d hv, la_2 v w z d hv, la_3 v w z d hv, la_t32 v w z d hv hw hz hd h02, la_t33 v w z d hv hw hz hd h02, la_t34 v w z d hv hw hz hd h02, la_t35 v w z d hv hw hz hd h02] at g
  refine h.trans (Eq.trans ?_ g.symm)
  rw [shuf_ext (fun j hj => rfl) (fun j hj => q4_get z j hj) 3 (by decide), shuf_ext (a := q4 (v 0) (v 1) (v 2) (v 3)) (fun j hj => q4_get v j hj) (fun j hj => rfl) 3 (by decide)]
  exact shuf_two v w z _ _ (fun j hj => q4_get (shufTo v w 16) j hj) (fun j hj => q4_get (shufTo w z 16) j hj) 3 (by decide)
theorem la_b2 (v w z : Vc) (d : Int) (hv : VcOk v) (hw : VcOk w) (hz : VcOk z) (hd : d64 d) (h02 : 0 ≤ d ∧ d ≤ 2) : letI := laV v w z d; lanesb2.v = true := by
  letI := laV v w z d
  exact lane_is2 (laI v w z d) laB (.lit 51) (.var .i64 12) (.var .u32 0) (.var .u32 1) (.var .u32 2) (.var .u32 3) (.var .u32 4) (.var .u32 5) (.var .u32 6) (.var .u32 7) (.inl rfl) (by rw [la_d v w z d hd]; exact h02)
theorem la_b3 (v w z : Vc) (d : Int) (hv : VcOk v) (hw : VcOk w) (hz : VcOk z) (hd : d64 d) (h02 : 0 ≤ d ∧ d ≤ 2) : letI := laV v w z d; lanesb3.v = true := by
  letI := laV v w z d
  exact lane_is2 (laI v w z d) laB (.lit 52) (.var .i64 12) lanest0 lanest1 lanest2 lanest3 (.var .u32 4) (.var .u32 5) (.var .u32 6) (.var .u32 7) (.inr (.inl rfl)) (by rw [la_d v w z d hd]; exact h02)
theorem la_b4 (v w z : Vc) (d : Int) (hv : VcOk v) (hw : VcOk w) (hz : VcOk z) (hd : d64 d) (h02 : 0 ≤ d ∧ d ≤ 2) : letI := laV v w z d; lanesb4.v = true := by
  letI := laV v w z d
  exact lane_is2 (laI v w z d) laB (.lit 53) (.var .i64 12) (.var .u32 0) (.var .u32 1) (.var .u32 2) (.var .u32 3) (.var .u32 0) (.var .u32 1) (.var .u32 2) (.var .u32 3) (.inr (.inr rfl)) (by rw [la_d v w z d hd]; exact h02)
theorem la_b5 (v w z : Vc) (d : Int) (hv : VcOk v) (hw : VcOk w) (hz : VcOk z) (hd : d64 d) (h02 : 0 ≤ d ∧ d ≤ 2) : letI := laV v w z d; lanesb5.v = true := by
  letI := laV v w z d
  show (lanest4.v == (Tm.var .u32 0).v) = true
  rw [la_t4 v w z d hv hw hz hd h02, la_0 v w z d hv, beq_self_eq_true]
theorem la_b6 (v w z : Vc) (d : Int) (hv : VcOk v) (hw : VcOk w) (hz : VcOk z) (hd : d64 d) (h02 : 0 ≤ d ∧ d ≤ 2) : letI := laV v w z d; lanesb6.v = true := by
  letI := laV v w z d
  show (lanest5.v == (Tm.var .u32 1).v) = true
  rw [la_t5 v w z d hv hw hz hd h02, la_1 v w z d hv, beq_self_eq_true]
theorem la_b7 (v w z : Vc) (d : Int) (hv : VcOk v) (hw : VcOk w) (hz : VcOk z) (hd : d64 d) (h02 : 0 ≤ d ∧ d ≤ 2) : letI := laV v w z d; lanesb7.v = true := by
  letI := laV v w z d
  show (lanest6.v == (Tm.var .u32 2).v) = true
  rw [la_t6 v w z d hv hw hz hd h02, la_2 v w z d hv, beq_self_eq_true]
theorem la_b8 (v w z : Vc) (d : Int) (hv : VcOk v) (hw : VcOk w) (hz : VcOk z) (hd : d64 d) (h02 : 0 ≤ d ∧ d ≤ 2) : letI := laV v w z d; lanesb8.v = true := by
  letI := laV v w z d
  show (lanest7.v == (Tm.var .u32 3).v) = true
  rw [la_t7 v w z d hv hw hz hd h02, la_3 v w z d hv, beq_self_eq_true]
theorem la_b9 (v w z : Vc) (d : Int) (hv : VcOk v) (hw : VcOk w) (hz : VcOk z) (hd : d64 d) (h02 : 0 ≤ d ∧ d ≤ 2) : letI := laV v w z d; lanesb9.v = true := by
  letI := laV v w z d
  show (lanest8.v == (4294967295 : Int)) = true
  rw [la_t8 v w z d hv hw hz hd h02]; rfl
theorem la_b10 (v w z : Vc) (d : Int) (hv : VcOk v) (hw : VcOk w) (hz : VcOk z) (hd : d64 d) (h02 : 0 ≤ d ∧ d ≤ 2) : letI := laV v w z d; lanesb10.v = true := by
  letI := laV v w z d
  show (lanest9.v == (4294967295 : Int)) = true
  rw [la_t9 v w z d hv hw hz hd h02]; rfl
theorem la_b11 (v w z : Vc) (d : Int) (hv : VcOk v) (hw : VcOk w) (hz : VcOk z) (hd : d64 d) (h02 : 0 ≤ d ∧ d ≤ 2) : letI := laV v w z d; lanesb11.v = true := by
  letI := laV v w z d
  show (lanest10.v == (4294967295 : Int)) = true
  rw [la_t10 v w z d hv hw hz hd h02]; rfl
theorem la_b12 (v w z : Vc) (d : Int) (hv : VcOk v) (hw : VcOk w) (hz : VcOk z) (hd : d64 d) (h02 : 0 ≤ d ∧ d ≤ 2) : letI := laV v w z d; lanesb12.v = true := by
  letI := laV v w z d
  show (lanest11.v == (4294967295 : Int)) = true
  rw [la_t11 v w z d hv hw hz hd h02]; rfl
theorem la_b13 (v w z : Vc) (d : Int) (hv : VcOk v) (hw : VcOk w) (hz : VcOk z) (hd : d64 d) (h02 : 0 ≤ d ∧ d ≤ 2) : letI := laV v w z d; lanesb13.v = true := by
  letI := laV v w z d
  show (lanest12.v == lanest13.v) = true
  rw [la_t12 v w z d hv hw hz hd h02, beq_self_eq_true]
theorem la_b14 (v w z : Vc) (d : Int) (hv : VcOk v) (hw : VcOk w) (hz : VcOk z) (hd : d64 d) (h02 : 0 ≤ d ∧ d ≤ 2) : letI := laV v w z d; lanesb14.v = true := by
  letI := laV v w z d
  show (lanest14.v == lanest15.v) = true
  rw [la_t14 v w z d hv hw hz hd h02, beq_self_eq_true]
theorem la_b15 (v w z : Vc) (d : Int) (hv : VcOk v) (hw : VcOk w) (hz : VcOk z) (hd : d64 d) (h02 : 0 ≤ d ∧ d ≤ 2) : letI := laV v w z d; lanesb15.v = true := by
  letI := laV v w z d
  show (lanest16.v == lanest17.v) = true
  rw [la_t16 v w z d hv hw hz hd h02, beq_self_eq_true]
theorem la_b16 (v w z : Vc) (d : Int) (hv : VcOk v) (hw : VcOk w) (hz : VcOk z) (hd : d64 d) (h02 : 0 ≤ d ∧ d ≤ 2) : letI := laV v w z d; lanesb16.v = true := by
  letI := laV v w z d
  show (lanest18.v == lanest19.v) = true
  rw [la_t18 v w z d hv hw hz hd h02, beq_self_eq_true]
theorem la_b17 (v w z : Vc) (d : Int) (hv : VcOk v) (hw : VcOk w) (hz : VcOk z) (hd : d64 d) (h02 : 0 ≤ d ∧ d ≤ 2) : letI := laV v w z d; lanesb17.v = true := by
  letI := laV v w z d
  show (lanest20.v == lanest21.v) = true
  rw [la_t20 v w z d hv hw hz hd h02, beq_self_eq_true]
theorem la_b18 (v w z : Vc) (d : Int) (hv : VcOk v) (hw : VcOk w) (hz : VcOk z) (hd : d64 d) (h02 : 0 ≤ d ∧ d ≤ 2) : letI := laV v w z d; lanesb18.v = true := by
  letI := laV v w z d
  show (lanest22.v == lanest23.v) = true
  rw [la_t22 v w z d hv hw hz hd h02, beq_self_eq_true]
theorem la_b19 (v w z : Vc) (d : Int) (hv : VcOk v) (hw : VcOk w) (hz : VcOk z) (hd : d64 d) (h02 : 0 ≤ d ∧ d ≤ 2) : letI := laV v w z d; lanesb19.v = true := by
  letI := laV v w z d
  show (lanest24.v == lanest25.v) = true
  rw [la_t24 v w z d hv hw hz hd h02, beq_self_eq_true]
theorem la_b20 (v w z : Vc) (d : Int) (hv : VcOk v) (hw : VcOk w) (hz : VcOk z) (hd : d64 d) (h02 : 0 ≤ d ∧ d ≤ 2) : letI := laV v w z d; lanesb20.v = true := by
  letI := laV v w z d
  show (lanest26.v == lanest27.v) = true
  rw [la_t26 v w z d hv hw hz hd h02, beq_self_eq_true]
theorem la_b21 (v w z : Vc) (d : Int) (hv : VcOk v) (hw : VcOk w) (hz : VcOk z) (hd : d64 d) (h02 : 0 ≤ d ∧ d ≤ 2) : letI := laV v w z d; lanesb21.v = true := by
  letI := laV v w z d
  exact shuf_is (laI v w z d) laB (.lit 57) (.lit 0) (.var .u32 0) (.var .u32 1) (.var .u32 2) (.var .u32 3) (.lit 50462976) (.lit 117835012) (.lit 185207048) (.lit 252579084) rfl
theorem la_b22 (v w z : Vc) (d : Int) (hv : VcOk v) (hw : VcOk w) (hz : VcOk z) (hd : d64 d) (h02 : 0 ≤ d ∧ d ≤ 2) : letI := laV v w z d; lanesb22.v = true := by
  letI := laV v w z d
  exact shuf_is (laI v w z d) laB (.lit 57) (.lit 0) (.var .u32 0) (.var .u32 1) (.var .u32 2) (.var .u32 3) (.var .u32 4) (.var .u32 5) (.var .u32 6) (.var .u32 7) rfl
theorem la_b23 (v w z : Vc) (d : Int) (hv : VcOk v) (hw : VcOk w) (hz : VcOk z) (hd : d64 d) (h02 : 0 ≤ d ∧ d ≤ 2) : letI := laV v w z d; lanesb23.v = true := by
  letI := laV v w z d
  exact shuf_is (laI v w z d) laB (.lit 57) (.lit 0) lanest28 lanest29 lanest30 lanest31 (.var .u32 8) (.var .u32 9) (.var .u32 10) (.var .u32 11) rfl
theorem la_b24 (v w z : Vc) (d : Int) (hv : VcOk v) (hw : VcOk w) (hz : VcOk z) (hd : d64 d) (h02 : 0 ≤ d ∧ d ≤ 2) : letI := laV v w z d; lanesb24.v = true := by
  letI := laV v w z d
  exact shuf_is (laI v w z d) laB (.lit 57) (.lit 0) (.var .u32 4) (.var .u32 5) (.var .u32 6) (.var .u32 7) (.var .u32 8) (.var .u32 9) (.var .u32 10) (.var .u32 11) rfl
theorem la_b25 (v w z : Vc) (d : Int) (hv : VcOk v) (hw : VcOk w) (hz : VcOk z) (hd : d64 d) (h02 : 0 ≤ d ∧ d ≤ 2) : letI := laV v w z d; lanesb25.v = true := by
  letI := laV v w z d
  exact shuf_is (laI v w z d) laB (.lit 57) (.lit 0) (.var .u32 0) (.var .u32 1) (.var .u32 2) (.var .u32 3) lanest32 lanest33 lanest34 lanest35 rfl
theorem la_b26 (v w z : Vc) (d : Int) (hv : VcOk v) (hw : VcOk w) (hz : VcOk z) (hd : d64 d) (h02 : 0 ≤ d ∧ d ≤ 2) : letI := laV v w z d; lanesb26.v = true := by
  letI := laV v w z d
  show (lanest36.v == (Tm.var .u32 0).v) = true
  rw [la_t36 v w z d hv hw hz hd h02, la_0 v w z d hv, beq_self_eq_true]
theorem la_b27 (v w z : Vc) (d : Int) (hv : VcOk v) (hw : VcOk w) (hz : VcOk z) (hd : d64 d) (h02 : 0 ≤ d ∧ d ≤ 2) : letI := laV v w z d; lanesb27.v = true := by
  letI := laV v w z d
  show (lanest37.v == (Tm.var .u32 1).v) = true
  rw [la_t37 v w z d hv hw hz hd h02, la_1 v w z d hv, beq_self_eq_true]
theorem la_b28 (v w z : Vc) (d : Int) (hv : VcOk v) (hw : VcOk w) (hz : VcOk z) (hd : d64 d) (h02 : 0 ≤ d ∧ d ≤ 2) : letI := laV v w z d; lanesb28.v = true := by
  letI := laV v w z d
  show (lanest38.v == (Tm.var .u32 2).v) = true
  rw [la_t38 v w z d hv hw hz hd h02, la_2 v w z d hv, beq_self_eq_true]
theorem la_b29 (v w z : Vc) (d : Int) (hv : VcOk v) (hw : VcOk w) (hz : VcOk z) (hd : d64 d) (h02 : 0 ≤ d ∧ d ≤ 2) : letI := laV v w z d; lanesb29.v = true := by
  letI := laV v w z d
  show (lanest39.v == (Tm.var .u32 3).v) = true
  rw [la_t39 v w z d hv hw hz hd h02, la_3 v w z d hv, beq_self_eq_true]
theorem la_b30 (v w z : Vc) (d : Int) (hv : VcOk v) (hw : VcOk w) (hz : VcOk z) (hd : d64 d) (h02 : 0 ≤ d ∧ d ≤ 2) : letI := laV v w z d; lanesb30.v = true := by
  letI := laV v w z d
  show (lanest40.v == lanest41.v) = true
  rw [la_t40 v w z d hv hw hz hd h02, beq_self_eq_true]
theorem la_b31 (v w z : Vc) (d : Int) (hv : VcOk v) (hw : VcOk w) (hz : VcOk z) (hd : d64 d) (h02 : 0 ≤ d ∧ d ≤ 2) : letI := laV v w z d; lanesb31.v = true := by
  letI := laV v w z d
  show (lanest42.v == lanest43.v) = true
  rw [la_t42 v w z d hv hw hz hd h02, beq_self_eq_true]
theorem la_b32 (v w z : Vc) (d : Int) (hv : VcOk v) (hw : VcOk w) (hz : VcOk z) (hd : d64 d) (h02 : 0 ≤ d ∧ d ≤ 2) : letI := laV v w z d; lanesb32.v = true := by
  letI := laV v w z d
  show (lanest44.v == lanest45.v) = true
  rw [la_t44 v w z d hv hw hz hd h02, beq_self_eq_true]
theorem la_b33 (v w z : Vc) (d : Int) (hv : VcOk v) (hw : VcOk w) (hz : VcOk z) (hd : d64 d) (h02 : 0 ≤ d ∧ d ≤ 2) : letI := laV v w z d; lanesb33.v = true := by
  letI := laV v w z d
  show (lanest46.v == lanest47.v) = true
  rw [la_t46 v w z d hv hw hz hd h02, beq_self_eq_true]
theorem la_all (v w z : Vc) (d : Int) (hv : VcOk v) (hw : VcOk w) (hz : VcOk z) (hd : d64 d) : letI := laV v w z d; lanesT.sat fun b => b.v = true := by
  letI := laV v w z d
  have l : ∀ x y : Bm, (Bm.lop .and x y).v = (x.v && y.v) := fun _ _ => rfl
  have l' : ∀ x y : Bm, (Bm.lop .or x y).v = (x.v || y.v) := fun _ _ => rfl
  have nn : ∀ x : Bm, (Bm.not x).v = !x.v := fun _ => rfl
  have f : (SB.lit false).v = false := rfl
  have t : (SB.lit true).v = true := rfl
  have s : ∀ x : Bm, (SB.sym x).v = x.v := fun _ => rfl
  have e0 : lanesb0.v = decide (d < 0) := by
    show decide ((Tm.var .i64 12).v < 0) = _
    rw [la_d v w z d hd]
  have e1 : lanesb1.v = decide (2 < d) := by
    show decide (2 < (Tm.var .i64 12).v) = _
    rw [la_d v w z d hd]
  by_cases h0 : d < 0
  · have e0 : lanesb0.v = true := by rw [e0]; simpa using h0
    simp only [lanesT, Tree.sat, l', t, e0, Bool.true_or, true_implies, Bool.true_eq_false, false_implies, and_true]
  · have e0 : lanesb0.v = false := by rw [e0]; simpa using h0
    by_cases h1 : 2 < d
    · have e1 : lanesb1.v = true := by rw [e1]; simpa using h1
      simp only [lanesT, Tree.sat, l', t, e0, e1, Bool.or_true, true_implies, Bool.true_eq_false, Bool.false_eq_true, false_implies, and_true, true_and]
    · have e1 : lanesb1.v = false := by rw [e1]; simpa using h1
      have h02 : 0 ≤ d ∧ d ≤ 2 := by omega
      have x2 := la_b2 v w z d hv hw hz hd h02
      have x3 := la_b3 v w z d hv hw hz hd h02
      have x4 := la_b4 v w z d hv hw hz hd h02
      have x5 := la_b5 v w z d hv hw hz hd h02
      have x6 := la_b6 v w z d hv hw hz hd h02
      have x7 := la_b7 v w z d hv hw hz hd h02
      have x8 := la_b8 v w z d hv hw hz hd h02
      have x9 := la_b9 v w z d hv hw hz hd h02
      have x10 := la_b10 v w z d hv hw hz hd h02
      have x11 := la_b11 v w z d hv hw hz hd h02
      have x12 := la_b12 v w z d hv hw hz hd h02
      have x13 := la_b13 v w z d hv hw hz hd h02
      have x14 := la_b14 v w z d hv hw hz hd h02
      have x15 := la_b15 v w z d hv hw hz hd h02
      have x16 := la_b16 v w z d hv hw hz hd h02
      have x17 := la_b17 v w z d hv hw hz hd h02
      have x18 := la_b18 v w z d hv hw hz hd h02
      have x19 := la_b19 v w z d hv hw hz hd h02
      have x20 := la_b20 v w z d hv hw hz hd h02
      have x21 := la_b21 v w z d hv hw hz hd h02
      have x22 := la_b22 v w z d hv hw hz hd h02
      have x23 := la_b23 v w z d hv hw hz hd h02
      have x24 := la_b24 v w z d hv hw hz hd h02
      have x25 := la_b25 v w z d hv hw hz hd h02
      have x26 := la_b26 v w z d hv hw hz hd h02
      have x27 := la_b27 v w z d hv hw hz hd h02
      have x28 := la_b28 v w z d hv hw hz hd h02
      have x29 := la_b29 v w z d hv hw hz hd h02
      have x30 := la_b30 v w z d hv hw hz hd h02
      have x31 := la_b31 v w z d hv hw hz hd h02
      have x32 := la_b32 v w z d hv hw hz hd h02
      have x33 := la_b33 v w z d hv hw hz hd h02
      simp only [lanesT, Tree.sat, l, l', nn, f, t, s, e0, e1, x2, x3, x4, x5, x6, x7, x8, x9, x10, x11, x12, x13, x14, x15, x16, x17, x18, x19, x20, x21, x22, x23, x24, x25, x26, x27, x28, x29, x30, x31, x32, x33, Bool.not_true, Bool.or_false, Bool.and_true, true_implies, Bool.true_eq_false, Bool.false_eq_true, false_implies, and_true, true_and, and_self]
end Go.Proofs.Ytpooghnemlnopaa
/- Arrays of whole numbers that came in by value. -/
namespace Go.Cd
open Go Go.ChangeShapes Go.WideShapes Go.ChangeAt Go.RowKit
section
variable {H : Type} {enc : TypeId × Value → H} {P : Program} {w : World} {base : Nat} {spare : Nat → Bool} {held : Bool}
theorem okWide_array {r : Reach} {b0 n : Nat} {t e : TypeId} {v : Value} (ht : P.underlying t = some (.array n e)) (h : Value.okWide P w r b0 t v) : ∃ cs, v = .agg cs ∧ cs.size = P.cellsOf t := by
  unfold Value.okWide at h
  rw [ht] at h
  obtain ⟨cs, h1, h2, _⟩ := h
  exact ⟨cs, h1, h2⟩
/-- The cells of an array of whole numbers. -/
theorem trod_ints_arr {n fuel : Nat} {t e : TypeId} {k : IntKind} {cs : List Value} {x : DataW H × List MemPlace} (ht : P.underlying t = some (.array n e)) (he : P.underlying e = some (.int k)) (hce : P.cellsOf e = 1) (hct : P.cellsOf t = n)
    (h : DataW.trod enc P w base spare held fuel t cs = some x) : ∃ l : List Int, cs = l.map (Value.int k) ∧ l.length = n ∧ ∀ z ∈ l, (Lit.int k z).wf = true := by
  obtain ⟨xs, m, _, _, hlen, hxl, hf⟩ := DataW.trod_array ht h
  rw [hct] at hlen
  have key : ∀ i, i < n → ∃ z : Int, cs[i]? = some (.int k z) ∧ (Lit.int k z).wf = true := fun i hi => by
    have h1 := hf i hi
    rw [List.getElem?_eq_getElem (by omega), hce, Nat.mul_one] at h1
    obtain ⟨z, hz, _, hw⟩ := DataW.trod_int he h1
    refine ⟨z, ?_, hw⟩
    have h2 : ((cs.drop i).take 1)[0]? = some (.int k z) := by rw [hz]; rfl
    rw [List.getElem?_take_of_lt (by decide), List.getElem?_drop] at h2
    simpa using h2
  have all : ∀ v ∈ cs, v = .int k (intOf v) ∧ (Lit.int k (intOf v)).wf = true := fun v hv => by
    obtain ⟨i, hi⟩ := List.mem_iff_getElem?.1 hv
    have hi' : i < n := by have := (List.getElem?_eq_some_iff.1 hi).1; omega
    obtain ⟨z, h1, h2⟩ := key i hi'
    rw [hi] at h1
    rw [Option.some.inj h1]
    exact ⟨rfl, h2⟩
  refine ⟨cs.map intOf, ?_, by simpa using hlen, fun z hz => ?_⟩
  · rw [List.map_map]
    conv => lhs; rw [← List.map_id cs]
    exact List.map_congr_left fun v hv => (all v hv).1
  · obtain ⟨v, hv, rfl⟩ := List.mem_map.1 hz
    exact (all v hv).2
theorem open_ints_arr {r : Reach} {b0 n : Nat} {t e : TypeId} {k : IntKind} {v : Value} {d : DataW H} {p : List MemPlace} (ht : P.underlying t = some (.array n e)) (he : P.underlying e = some (.int k)) (hce : P.cellsOf e = 1) (hct : P.cellsOf t = n)
    (hv : Value.okWide P w r b0 t v) (h : DataW.Trod enc P w base spare held t v d p) : ∃ l : List Int, v = .agg (l.map (Value.int k)).toArray ∧ l.length = n ∧ ∀ z ∈ l, (Lit.int k z).wf = true := by
  obtain ⟨cs, rfl, hsz⟩ := okWide_array ht hv
  obtain ⟨fuel, hf⟩ := h
  obtain ⟨l, h1, h2, h3⟩ := trod_ints_arr ht he hce hct hf
  refine ⟨l, ?_, h2, h3⟩
  have : cs.toList = l.map (Value.int k) := by simpa [Value.cells] using h1
  rw [← this]
end
end Go.Cd
