/- Parts of the proof: PlainComp3, PlainComp4, WVal1, WIr1, WIr2, WIr3, WIr4, WIr5, WIr6. -/
import Derived.Test.YtmkjgkldbonpnaaZ8
import Derived.Test.YtmkjgkldbonpnaaZ4
import Derived.Test.YtmkjgkldbonpnaaZ0
import Derived.Test.YtmkjgkldbonpnaaZ7
import Derived.WalkSmall
/- Plain laws: what Simplify makes has the value of the condition. -/
namespace Go.Proofs.Ytmkjgkldbonpnaa
open Go Go.RowKit Go.Cd
set_option linter.unusedVariables false
set_option linter.unusedSimpArgs false

theorem copy_tab : ∀ f : Fin 16, ∀ i : Fin 8, holdsF (i.val : Int) (f.val : Int) = ((f.val / 2 ^ (copyBy i.val).toNat % 2 == 1) == (i.val % 2 == 0)) := by decide +kernel
theorem copy_val (i : Nat) (hi : i ≤ 7) (x y d : Int) (hx : 0 ≤ x ∧ x < 4294967296) : condF i 0 x y d = ((x / 2 ^ (copyBy i).toNat % 2 == 1) == (i % 2 == 0)) := by
  have h := copy_tab ⟨(x % 16).toNat, by omega⟩ ⟨i, by omega⟩
  have e : flagsF 0 x y d = x % 16 := rfl
  have e1 : (((x % 16).toNat : Nat) : Int) = x % 16 := by omega
  unfold condF
  rw [e]
  dsimp only at h
  rw [e1] at h
  rw [h]
  congr 1
  have hk : (copyBy i).toNat = 0 ∨ (copyBy i).toNat = 1 ∨ (copyBy i).toNat = 2 ∨ (copyBy i).toNat = 3 := by
    unfold copyBy
    repeat' split
    all_goals simp
  rw [Bool.eq_iff_iff, beq_iff_eq, beq_iff_eq]
  rcases hk with hk | hk | hk | hk <;> rw [hk] <;> simp only [Nat.reducePow, Int.reducePow] <;> omega
theorem and_val (u : Int) (h : 0 ≤ u ∧ u < 4294967296) : binV 8 u 1 = some (tru (u % 2 == 1)) := by
  have e : binV 8 u 1 = some (bits .and .u32 u 1) := rfl
  rw [e, and_1 u h.1 h.2]
  unfold tru
  by_cases h2 : u % 2 = 1
  · rw [h2]; rfl
  · rw [show u % 2 = 0 by omega]; rfl
theorem xor_val (b : Bool) : binV 10 (tru b) 1 = some (tru (!b)) := by
  cases b <;> kernel_rfl
theorem shr_val (x : Int) (h : 0 ≤ x ∧ x < 4294967296) (k : Int) (hk : 0 ≤ k ∧ k < 32) : binV 12 x k = some (x / 2 ^ k.toNat) ∧ 0 ≤ x / 2 ^ k.toNat ∧ x / 2 ^ k.toNat < 4294967296 := by
  refine ⟨?_, Int.ediv_nonneg h.1 (Int.le_of_lt (pow_pos' _)), Int.lt_of_le_of_lt (Int.ediv_le_self _ h.1) h.2⟩
  have e : binV 12 x k = some (shrR x (k % 32)) := rfl
  rw [e, show k % 32 = k by omega]
  rfl
theorem good_copy (had : Int → Option Int) (tmp : Int) (ht : 0 ≤ tmp) (i : Nat) (hi : i ≤ 7) (a : Atom) (x y d : Int) (ha : InA had tmp a x) (hx : 0 ≤ x ∧ x < 4294967296) : Good had tmp (copyE i a tmp 0) (tru (condF i 0 x y d)) := by
  rw [copy_val i hi x y d hx]
  unfold copyE
  by_cases h0 : i / 2 = 0
  · have hk : copyBy i = 0 := by unfold copyBy; rw [if_neg (by omega), if_neg (by omega), if_neg (by omega)]
    rw [if_pos h0, hk, show x / 2 ^ (0 : Int).toNat = x by simp]
    have r1 := Runs.nil.bin (ha.now [] []) ((inA_word had tmp ht 1).now [] []) (and_val x hx)
    by_cases h1 : i % 2 = 1
    · rw [if_pos h1, h1]
      have r2 := r1.bin (now_mk (had := had) ht 0 _ _ rfl rfl rfl) ((inA_word had tmp ht 1).now _ _) (xor_val _)
      refine ⟨_, r2, ?_, _, rfl, rfl⟩
      show some (tru (!(x % 2 == 1))) = some (tru ((x % 2 == 1) == false))
      cases (x % 2 == 1) <;> rfl
    · rw [if_neg h1, show i % 2 = 0 by omega]
      refine ⟨_, r1, ?_, _, rfl, rfl⟩
      show some (tru (x % 2 == 1)) = some (tru ((x % 2 == 1) == true))
      cases (x % 2 == 1) <;> rfl
  · have hk : 0 ≤ copyBy i ∧ copyBy i < 32 := by
      unfold copyBy
      repeat' split
      all_goals omega
    rw [if_neg h0]
    generalize copyBy i = k at hk ⊢
    obtain ⟨s1, s2, s3⟩ := shr_val x hx k hk
    generalize x / 2 ^ k.toNat = u at s1 s2 s3 ⊢
    have r0 := Runs.nil.bin (ha.now [] []) ((inA_word had tmp ht k).now [] []) s1
    have r1 := r0.bin (now_mk (had := had) ht 0 _ _ rfl rfl rfl) ((inA_word had tmp ht 1).now _ _) (and_val u ⟨s2, s3⟩)
    by_cases h1 : i % 2 = 1
    · rw [if_pos h1, h1]
      have r2 := r1.bin (now_mk (had := had) ht 1 _ _ rfl rfl rfl) ((inA_word had tmp ht 1).now _ _) (xor_val _)
      refine ⟨_, r2, ?_, _, rfl, rfl⟩
      show some (tru (!(u % 2 == 1))) = some (tru ((u % 2 == 1) == false))
      cases (u % 2 == 1) <;> rfl
    · rw [if_neg h1, show i % 2 = 0 by omega]
      refine ⟨_, r1, ?_, _, rfl, rfl⟩
      show some (tru (u % 2 == 1)) = some (tru ((u % 2 == 1) == true))
      cases (u % 2 == 1) <;> rfl
theorem good_cmp {had : Int → Option Int} {tmp : Int} {es : List IExpr} {vs : List Int} (h : Runs had tmp es vs) (ht : 0 ≤ tmp) {op : Int} (ex : Bool) {a b : Atom} {x y : Int} {r : Bool} (ha : NowA had tmp es vs a x) (hb : NowA had tmp es vs b y)
    (ho : 14 ≤ op ∧ op ≤ 19) (n : Nat) (hn : n = es.length) (hv : binV op (if ex = true then y else x) (if ex = true then x else y) = some (tru r)) : Good had tmp (es ++ cmpE op ex a b tmp n) (tru r) :=
  ⟨_, h.cmp ht ex ha hb ho n hn hv, by simp, ⟨3, 32, 2, 0, [tmpA (tmp + n)]⟩, by unfold cmpE; simp, rfl⟩
theorem cmpR_bd (i : Nat) (hi : i < 14) : cmpOpR i = 0 ∨ 14 ≤ cmpOpR i ∧ cmpOpR i ≤ 19 := by
  have h := (by decide : ∀ i : Fin 14, cmpOpR i.val = 0 ∨ 14 ≤ cmpOpR i.val ∧ cmpOpR i.val ≤ 19) ⟨i, hi⟩
  exact h
theorem cmpS_bd (i : Nat) (hi : i < 14) : cmpOpS i = 0 ∨ 14 ≤ cmpOpS i ∧ cmpOpS i ≤ 19 := by
  have h := (by decide : ∀ i : Fin 14, cmpOpS i.val = 0 ∨ 14 ≤ cmpOpS i.val ∧ cmpOpS i.val ≤ 19) ⟨i, hi⟩
  exact h
theorem good_one (had : Int → Option Int) (tmp : Int) (ht : 0 ≤ tmp) (n : Int) : Good had tmp [⟨1, 32, 0, 0, [wordA n]⟩] n := by
  have hw := (inA_word had tmp ht n).now [] []
  exact ⟨_, Runs.nil.snoc (.atom hw.w hw.v hw.ty), rfl, _, rfl, rfl⟩
theorem opB_val (op : Int) (x y d : Int) (h : opB op ≠ 0) : binV (opB op) x y = some (thunkR op x y d) ∧ 1 ≤ op ∧ op ≤ 8 := by
  unfold opB at h ⊢
  by_cases h1 : op = 1
  · subst h1; exact ⟨by show some ((x + y) % 4294967296) = some ((x + y + 0) % 4294967296); rw [Int.add_zero], by decide, by decide⟩
  by_cases h2 : op = 4
  · subst h2; exact ⟨rfl, by decide, by decide⟩
  by_cases h3 : op = 5
  · subst h3; exact ⟨rfl, by decide, by decide⟩
  by_cases h4 : op = 6
  · subst h4; exact ⟨rfl, by decide, by decide⟩
  by_cases h5 : op = 2
  · subst h5; exact ⟨by show some ((x - y) % 4294967296) = some ((x - y - 0) % 4294967296); rw [Int.sub_zero], by decide, by decide⟩
  rw [if_neg h1, if_neg h2, if_neg h3, if_neg h4, if_neg h5] at h
  exact absurd rfl h
theorem opB_ty (op : Int) : binTy (opB op) = 32 := by
  unfold opB binTy
  repeat' split
  all_goals first | rfl | omega
set_option maxHeartbeats 1000000 in
/-- What the simplifier adds has the value of the condition. -/
theorem good_simpL (had : Int → Option Int) (tmp : Int) (ht : 0 ≤ tmp) (i : Nat) (hi : i < 14) (op : Int) (a b : Atom) (x y d : Int) (ha : InA had tmp a x) (hb : InA had tmp b y) (hx : 0 ≤ x ∧ x < 4294967296) (hy : 0 ≤ y ∧ y < 4294967296)
    (h : (simpL i op a b tmp).2 = true) : Good had tmp (simpL i op a b tmp).1 (tru (condF i op x y d)) := by
  have hb1 := cmpR_bd i hi
  have hb2 := cmpS_bd i hi
  unfold simpL at h ⊢
  by_cases c1 : op = 2 ∧ isSgn i = false
  · rw [if_pos c1] at h ⊢
    obtain ⟨rfl, -⟩ := c1
    have h0 : cmpOpS i ≠ 0 := by simpa using h
    dsimp only
    unfold cmpO
    rw [if_neg h0]
    exact good_cmp Runs.nil ht (cmpExS i) (ha.now _ _) (hb.now _ _) (by omega) 0 rfl (cmpS_val i hi x y d hx hy h0)
  rw [if_neg c1] at h ⊢
  by_cases c2 : op = 3
  · rw [if_pos c2] at h ⊢
    subst c2
    rw [cond_gen i 3 x y d (by omega) (by omega) (by decide) (by decide)]
    by_cases c3 : i = 2 ∨ i = 3 ∨ i = 6 ∨ i = 7
    · rw [if_pos c3]
      have e : tru (holdsZ i (thunkR 3 x y d == 0) (thunkR 3 x y d / 2147483648 == 1) (thunkC 3 x y d) (thunkV 3 x y d)) = (i : Int) % 2 := by
        rcases c3 with rfl | rfl | rfl | rfl <;> rfl
      rw [e]
      exact good_one had tmp ht _
    · rw [if_neg c3] at h ⊢
      have h0 : cmpOpR i ≠ 0 := by simpa using h
      dsimp only
      unfold cmpO
      rw [if_neg h0]
      exact good_cmp Runs.nil ht (cmpExR i) (ha.now _ _) ((inA_word had tmp ht 0).now _ _) (by omega) 0 rfl (cmpR_val i hi x hx false false h0 (fun _ => ⟨rfl, rfl⟩))
  rw [if_neg c2] at h ⊢
  by_cases c3 : op = 0
  · rw [if_pos c3] at h ⊢
    subst c3
    by_cases c4 : i ≤ 7
    · rw [if_pos c4]
      exact good_copy had tmp ht i c4 a x y d ha hx
    · rw [if_neg c4] at h; cases h
  rw [if_neg c3] at h ⊢
  have r1 : op = 1 → Runs had tmp [⟨4, 32, 1, 0, [a, b]⟩] [(x + y) % 4294967296] := fun _ => Runs.nil.bin (op := 1) (ha.now [] []) (hb.now [] []) rfl
  by_cases c4 : op = 1 ∧ i = 2
  · rw [if_pos c4]
    obtain ⟨rfl, rfl⟩ := c4
    have hm : NowA had tmp [⟨4, 32, 1, 0, [a, b]⟩] [(x + y) % 4294967296] (tmpA tmp) ((x + y) % 4294967296) := by
      have q := now_mk (had := had) (es := [⟨4, 32, 1, 0, [a, b]⟩]) (vs := [(x + y) % 4294967296]) ht 0 _ _ rfl rfl rfl
      simpa using q
    rw [cond_gen ((2 : Nat) : Int) 1 x y d (by decide) (by decide) (by decide) (by decide)]
    refine good_cmp (r1 rfl) ht false hm (ha.now _ _) (by decide) 1 rfl ?_
    show some (tru (decide ((x + y) % 4294967296 < x))) = some (tru (sumC x y 0 == true))
    apply some_tru
    unfold sumC
    rw [Bool.eq_iff_iff, decide_eq_true_iff, beq_iff_eq, beq_iff_eq]
    omega
  rw [if_neg c4] at h ⊢
  by_cases c5 : op = 1 ∧ i = 3
  · rw [if_pos c5]
    obtain ⟨rfl, rfl⟩ := c5
    have hm : NowA had tmp [⟨4, 32, 1, 0, [a, b]⟩] [(x + y) % 4294967296] (tmpA tmp) ((x + y) % 4294967296) := by
      have q := now_mk (had := had) (es := [⟨4, 32, 1, 0, [a, b]⟩]) (vs := [(x + y) % 4294967296]) ht 0 _ _ rfl rfl rfl
      simpa using q
    rw [cond_gen ((3 : Nat) : Int) 1 x y d (by decide) (by decide) (by decide) (by decide)]
    refine good_cmp (r1 rfl) ht false (ha.now _ _) hm (by decide) 1 rfl ?_
    show some (tru (decide (x ≤ (x + y) % 4294967296))) = some (tru (sumC x y 0 == false))
    apply some_tru
    unfold sumC
    rw [Bool.eq_iff_iff, decide_eq_true_iff, beq_iff_eq, beq_eq_false_iff_ne]
    omega
  rw [if_neg c5] at h ⊢
  by_cases c6 : i = 0 ∨ i = 1 ∨ i = 4 ∨ i = 5
  · rw [if_pos c6] at h ⊢
    by_cases c7 : opB op = 0
    · rw [if_pos c7] at h; cases h
    · rw [if_neg c7] at h ⊢
      have h0 : cmpOpR i ≠ 0 := by simpa using h
      obtain ⟨v1, v2, v3⟩ := opB_val op x y d c7
      rw [cond_gen i op x y d (by omega) (by omega) v2 v3]
      have hR := thunkR_bd op x y d hx.1 hx.2
      have r2 := Runs.nil.bin (ha.now [] []) (hb.now [] []) v1
      rw [opB_ty] at r2
      have hm : NowA had tmp [⟨4, 32, opB op, 0, [a, b]⟩] [thunkR op x y d] (tmpA tmp) (thunkR op x y d) := by
        have q := now_mk (had := had) (es := [⟨4, 32, opB op, 0, [a, b]⟩]) (vs := [thunkR op x y d]) ht 0 _ _ rfl rfl rfl
        simpa using q
      dsimp only
      unfold cmpO
      rw [if_neg h0]
      exact good_cmp r2 ht (cmpExR i) hm ((inA_word had tmp ht 0).now _ _) (by omega) 1 rfl (cmpR_val i hi _ hR _ _ h0 (fun hh => by omega))
  · rw [if_neg c6] at h; cases h
theorem rdA_neg {had : Int → Option Int} {a : Atom} {v : Int} (h : rdA had a = some v) (hn : a.tmp < 0) : v = a.c0 := by
  unfold rdA at h
  rw [if_neg (by omega)] at h
  exact (Option.some.inj h).symm
theorem cond_all (cd op x y d : Int) (h : 14 ≤ cd) (h' : cd ≤ 15) : condF cd op x y d = decide (cd = 14) := by
  unfold condF holdsF holdsZ isAt
  have e : cd / 2 = 7 := by omega
  rw [if_neg (by omega), e]
  have h2 : cd = 14 ∨ cd = 15 := by omega
  rcases h2 with rfl | rfl <;> rfl
theorem cond_out (cd op x y d : Int) (h : 15 < cd) : condF cd op x y d = false := by
  unfold condF holdsF
  rw [if_pos (.inr h)]
/-- The value that is wanted. -/
def wantB (c o x y d : Int) : Bool := condF (if c < 16 then c else 16) o x y d
theorem good_simpF (had : Int → Option Int) (tmp : Int) (c o a b d : Atom) (vc vo va vb vd : Int) (hl : ∀ x ∈ [c, o, a, b, d], x.tmp < tmp) (h1 : rdA had c = some vc) (h2 : rdA had o = some vo) (h3 : rdA had a = some va) (h4 : rdA had b = some vb) (h5 : rdA had d = some vd)
    (hc : 0 ≤ vc ∧ vc < 4294967296) (ha : 0 ≤ va ∧ va < 4294967296) (hb : 0 ≤ vb ∧ vb < 4294967296) (h : (simpF [c, o, a, b, d] tmp).2 = true) :
    Good had tmp (simpF [c, o, a, b, d] tmp).1 (tru (wantB vc vo va vb vd)) := by
  unfold simpF at h ⊢
  by_cases c1 : tmp < 0 ∨ 4000 < tmp ∨ ¬ (∀ x ∈ [c, o, a, b, d], isW x = true)
  · dsimp only at h
    rw [if_pos c1] at h
    cases h
  dsimp only at h ⊢
  rw [if_neg c1] at h ⊢
  have ht : 0 ≤ tmp := by omega
  have hw : ∀ x ∈ [c, o, a, b, d], isW x = true := Classical.byContradiction fun hh => c1 (.inr (.inr hh))
  have ia : InA had tmp a va := ⟨hw a (by simp), h3, hl a (by simp)⟩
  have ib : InA had tmp b vb := ⟨hw b (by simp), h4, hl b (by simp)⟩
  unfold simp5 at h ⊢
  by_cases c2 : c.tmp < 0 ∧ o.tmp < 0 ∧ a.tmp < 0 ∧ b.tmp < 0 ∧ d.tmp < 0
  · rw [if_pos c2]
    obtain ⟨n1, n2, n3, n4, n5⟩ := c2
    rw [← rdA_neg h1 n1, ← rdA_neg h2 n2, ← rdA_neg h3 n3, ← rdA_neg h4 n4, ← rdA_neg h5 n5]
    have e : tru (wantB vc vo va vb vd) = if vc ≤ 15 ∧ condF vc vo va vb vd = true then 1 else 0 := by
      unfold tru wantB
      by_cases hv : vc ≤ 15
      · rw [if_pos (show vc < 16 by omega)]
        simp [hv]
      · rw [if_neg (show ¬ vc < 16 by omega), cond_out 16 _ _ _ _ (by decide)]
        simp [hv]
    rw [e]
    exact good_one had tmp ht _
  rw [if_neg c2] at h ⊢
  by_cases c3 : ¬ (c.tmp < 0 ∧ c.c0 ≤ 15)
  · rw [if_pos c3] at h; cases h
  rw [if_neg c3] at h ⊢
  have n1 : c.tmp < 0 := (Classical.not_not.1 c3).1
  have n2 : c.c0 ≤ 15 := (Classical.not_not.1 c3).2
  have e1 := rdA_neg h1 n1
  rw [← e1] at h n2 ⊢
  by_cases c4 : 14 ≤ vc
  · rw [if_pos c4]
    have e : tru (wantB vc vo va vb vd) = if vc = 14 then 1 else 0 := by
      unfold tru wantB
      rw [if_pos (show vc < 16 by omega), cond_all _ _ _ _ _ c4 n2]
      simp
    rw [e]
    exact good_one had tmp ht _
  rw [if_neg c4] at h ⊢
  by_cases c5 : 0 ≤ o.tmp
  · rw [if_pos c5] at h; cases h
  rw [if_neg c5] at h ⊢
  have e2 := rdA_neg h2 (by omega)
  rw [← e2] at h ⊢
  by_cases c6 : (simpL vc.toNat vo a b tmp).2 = true
  · rw [if_pos c6] at h ⊢
    have q := good_simpL had tmp ht vc.toNat (by omega) vo a b va vb vd ia ib ha hb h
    have e : wantB vc vo va vb vd = condF (vc.toNat : Nat) vo va vb vd := by
      unfold wantB
      rw [if_pos (show vc < 16 by omega), Int.toNat_of_nonneg hc.1]
    rw [e]
    exact q
  · rw [if_neg c6] at h; cases h
end Go.Proofs.Ytmkjgkldbonpnaa
/- Plain laws: values are words, types are known, atoms are words. -/
namespace Go.Proofs.Ytmkjgkldbonpnaa
open Go Go.RowKit Go.Cd
set_option linter.unusedVariables false

theorem vd_ty {had : Int → Option Int} {ty : Int → Int} {e : IExpr} {x : Int} (h : Vd had ty e x) : e.ty = 1 ∨ e.ty = 32 := by
  cases h with
  | atom => exact .inr rfl
  | zext => exact .inr rfl
  | bin => show binTy _ = 1 ∨ binTy _ = 32; unfold binTy; split <;> simp
def okE (L : List IExpr) : Prop := ∀ e ∈ L, ∀ a ∈ e.l, a.ok
theorem ok_word (n : Int) (h : 0 ≤ n ∧ n < 4294967296) : (wordA n).ok := h
theorem ok_tmp (n : Int) : (tmpA n).ok := (by decide : (0 : Int) ≤ 0 ∧ (0 : Int) < 4294967296)
theorem okE_nil : okE [] := fun e h => by cases h
theorem okE_cons {e : IExpr} {L : List IExpr} (h : ∀ a ∈ e.l, a.ok) (hL : okE L) : okE (e :: L) := fun x hx => by
  rcases List.mem_cons.1 hx with rfl | hx
  · exact h
  · exact hL x hx
theorem ok_1 {a : Atom} (h : a.ok) : ∀ x ∈ [a], x.ok := fun x hx => by rw [List.mem_singleton.1 hx]; exact h
theorem ok_2 {a b : Atom} (h : a.ok) (h' : b.ok) : ∀ x ∈ [a, b], x.ok := fun x hx => by
  rcases List.mem_cons.1 hx with rfl | hx
  · exact h
  · rw [List.mem_singleton.1 hx]; exact h'
theorem okE_cmpE (op : Int) (ex : Bool) (x y : Atom) (tmp : Int) (n : Nat) (hx : x.ok) (hy : y.ok) : okE (cmpE op ex x y tmp n) := by
  unfold cmpE
  refine okE_cons ?_ (okE_cons (ok_1 (ok_tmp _)) okE_nil)
  cases ex
  · exact ok_2 hx hy
  · exact ok_2 hy hx
theorem okE_cmpO (op : Int) (ex : Bool) (x y : Atom) (tmp : Int) (n : Nat) (hx : x.ok) (hy : y.ok) : okE (cmpO op ex x y tmp n) := by
  unfold cmpO
  split
  · exact okE_nil
  · exact okE_cmpE _ _ _ _ _ _ hx hy
theorem okE_copyE (i : Nat) (x : Atom) (tmp : Int) (n : Nat) (hx : x.ok) : okE (copyE i x tmp n) := by
  have hk : 0 ≤ copyBy i ∧ copyBy i < 4294967296 := by
    unfold copyBy
    repeat' split
    all_goals omega
  have h1 : (wordA 1).ok := ok_word 1 (by decide)
  unfold copyE
  split <;> split
  · exact okE_cons (ok_2 hx h1) (okE_cons (ok_2 (ok_tmp _) h1) okE_nil)
  · exact okE_cons (ok_2 hx h1) okE_nil
  · exact okE_cons (ok_2 hx (ok_word _ hk)) (okE_cons (ok_2 (ok_tmp _) h1) (okE_cons (ok_2 (ok_tmp _) h1) okE_nil))
  · exact okE_cons (ok_2 hx (ok_word _ hk)) (okE_cons (ok_2 (ok_tmp _) h1) okE_nil)
theorem okE_simpL (i : Nat) (op : Int) (x y : Atom) (tmp : Int) (hx : x.ok) (hy : y.ok) : okE (simpL i op x y tmp).1 := by
  have h0 : (wordA 0).ok := ok_word 0 (by decide)
  unfold simpL
  split
  · exact okE_cmpO _ _ _ _ _ _ hx hy
  split
  · split
    · exact okE_cons (ok_1 (ok_word _ (by omega))) okE_nil
    · exact okE_cmpO _ _ _ _ _ _ hx h0
  split
  · split
    · exact okE_copyE _ _ _ _ hx
    · exact okE_nil
  split
  · exact okE_cons (ok_2 hx hy) (okE_cmpE _ _ _ _ _ _ (ok_tmp _) hx)
  split
  · exact okE_cons (ok_2 hx hy) (okE_cmpE _ _ _ _ _ _ hx (ok_tmp _))
  split
  · split
    · exact okE_nil
    · exact okE_cons (ok_2 hx hy) (okE_cmpO _ _ _ _ _ _ (ok_tmp _) h0)
  · exact okE_nil
theorem okE_simpF (l : List Atom) (tmp : Int) (h : ∀ a ∈ l, a.ok) : okE (simpF l tmp).1 := by
  unfold simpF
  split
  · rename_i c o a b d
    split
    · exact okE_nil
    · unfold simp5
      split
      · exact okE_cons (ok_1 (ok_word _ (by split <;> omega))) okE_nil
      split
      · exact okE_nil
      split
      · exact okE_cons (ok_1 (ok_word _ (by split <;> omega))) okE_nil
      split
      · exact okE_nil
      split
      · exact okE_simpL _ _ _ _ _ (h a (by simp)) (h b (by simp))
      · exact okE_nil
  · exact okE_nil
end Go.Proofs.Ytmkjgkldbonpnaa
/- The law's closure on its map of known temporaries, and its truth. -/
namespace Go.Proofs.Ytmkjgkldbonpnaa
open Go Go.RowKit Go.Cd
set_option linter.unusedVariables false

/-- A map of words, as a function. -/
def EsOf (es : Array MapEntry) (m : Int → Option Int) : Prop := ∀ t, (m t = none → Instr.findNow (.int .i64) (.int .i64 t) es.toList 0 = some none) ∧ ∀ v, m t = some v → ∃ i, Instr.findNow (.int .i64) (.int .i64 t) es.toList 0 = some (some (i, .int .u32 v))
def MapAt (w : World) (bm : Nat) (m : Int → Option Int) : Prop := ∃ es c, w.heap[bm]? = some (.map es c) ∧ EsOf es m
theorem MapAt.new {w w' : World} {bm : Nat} {m : Int → Option Int} (h : MapAt w bm m) (hn : New w w') : MapAt w' bm m := by
  obtain ⟨es, c, h1, h2⟩ := h
  exact ⟨es, c, (hn.block bm (lt_of_heap h1)).trans h1, h2⟩
set_option maxHeartbeats 1000000 in
theorem known_c (bh bm : Nat) (m : Int → Option Int) (t v : Int) (w : World) (hb : bh < w.heap.size) (hc : w.cell? ⟨bh, 0, none⟩ = some (.map (some bm))) (hm : MapAt w bm m) (hv : m t = some v) :
    Calls Try.prog 33 #[.int .i64 t, .pointer (some ⟨bh, 0, none⟩)] w fun e w' => e = .returned (.tuple #[.int .u32 v, .bool true]) ∧ w = w' := by
  obtain ⟨es, c, h1, h2⟩ := hm
  obtain ⟨i, hf⟩ := (h2 t).2 v hv
  have hg := run_mapGet (P := Try.prog) (T := 55) Try.underlying55 Try.underlying3 es c t i (.int .u32 v) w bm h1 hf true
  clear h1 hf h2 hv
  go_enter Try.func33, Try.ntmps33
  go_wp2
  go_ret2
  exact ⟨rfl, rfl⟩
theorem truth_c (b : Bool) (w : World) : Calls Try.prog 56 #[.bool b] w fun e w' => e = .returned (.tuple #[.int .u32 (if b = true then 1 else 0), .bool true]) ∧ w = w' := by
  cases b
  · go_enter Try.func56, Try.ntmps56
    go_wp2
    go_ret2
    exact ⟨rfl, rfl⟩
  · go_enter Try.func56, Try.ntmps56
    go_wp2
    go_ret2
    exact ⟨rfl, rfl⟩
end Go.Proofs.Ytmkjgkldbonpnaa
/- The form's types: Bytes, only, unary, binary, at the expressions that Simplify makes. -/
namespace Go.Proofs.Ytmkjgkldbonpnaa
open Go Go.RowKit Go.Cd
set_option linter.unusedVariables false

theorem bytes_32 (w : World) : Calls Try.prog 84 #[.int .i64 32] w fun e w' => e = .returned (.int .i64 4) ∧ w = w' := by
  go_enter Try.func84, Try.ntmps84
  go_wp2
  go_ret
  exact ⟨rfl, rfl⟩
theorem bytes_1 (w : World) : Calls Try.prog 84 #[.int .i64 1] w fun e w' => e = .returned (.int .i64 1) ∧ w = w' := by
  go_enter Try.func84, Try.ntmps84
  go_wp2
  go_ret
  exact ⟨rfl, rfl⟩
theorem only_32 (w : World) : Calls Try.prog 59 #[.bool true, .int .i64 32] w fun e w' => e = .returned (.int .i64 32) ∧ w = w' := by
  go_enter Try.func59, Try.ntmps59
  go_wp2_with (go_at_call 84; refine (bytes_32 _).mono ?_; rintro e w1 ⟨rfl, rfl⟩)
  go_ret
  exact ⟨rfl, rfl⟩
theorem only_1 (w : World) : Calls Try.prog 59 #[.bool true, .int .i64 1] w fun e w' => e = .returned (.int .i64 1) ∧ w = w' := by
  go_enter Try.func59, Try.ntmps59
  go_wp2_with (go_at_call 84; refine (bytes_1 _).mono ?_; rintro e w1 ⟨rfl, rfl⟩)
  go_ret
  exact ⟨rfl, rfl⟩
set_option maxHeartbeats 1000000 in
theorem unary_z (s : Value) (w : World) : Calls Try.prog 61 #[.agg #[.int .i64 3, .int .i64 32, .int .i64 2, .int .i64 0, s], .int .i64 1] w fun e w' => e = .returned (.int .i64 32) ∧ New w w' := by
  go_enter Try.func61, Try.ntmps61
  go_wp2_with (go_at_call 59; refine (only_32 _).mono ?_; rintro e w1 ⟨rfl, rfl⟩)
  go_ret
  exact ⟨rfl, by go_grown⟩
end Go.Proofs.Ytmkjgkldbonpnaa
/- The form's binary at the operations that Simplify uses. Written by genIr2.py. -/
namespace Go.Proofs.Ytmkjgkldbonpnaa
open Go Go.RowKit Go.Cd
set_option linter.unusedVariables false
set_option maxHeartbeats 1000000 in
theorem irbin_1 (s : Value) (w : World) : Calls Try.prog 62 #[.agg #[.int .i64 4, .int .i64 32, .int .i64 1, .int .i64 0, s], .int .i64 32, .int .i64 32] w fun e w' => e = .returned (.int .i64 32) ∧ New w w' := by
  go_enter Try.func62, Try.ntmps62
  go_wp2_with (go_at_call 59; refine (only_32 _).mono ?_; rintro e w1 ⟨rfl, rfl⟩)
  go_ret
  exact ⟨rfl, by go_grown⟩
set_option maxHeartbeats 1000000 in
theorem irbin_2 (s : Value) (w : World) : Calls Try.prog 62 #[.agg #[.int .i64 4, .int .i64 32, .int .i64 2, .int .i64 0, s], .int .i64 32, .int .i64 32] w fun e w' => e = .returned (.int .i64 32) ∧ New w w' := by
  go_enter Try.func62, Try.ntmps62
  go_wp2_with (go_at_call 59; refine (only_32 _).mono ?_; rintro e w1 ⟨rfl, rfl⟩)
  go_ret
  exact ⟨rfl, by go_grown⟩
set_option maxHeartbeats 1000000 in
theorem irbin_8 (s : Value) (w : World) : Calls Try.prog 62 #[.agg #[.int .i64 4, .int .i64 32, .int .i64 8, .int .i64 0, s], .int .i64 32, .int .i64 32] w fun e w' => e = .returned (.int .i64 32) ∧ New w w' := by
  go_enter Try.func62, Try.ntmps62
  go_wp2_with (go_at_call 59; refine (only_32 _).mono ?_; rintro e w1 ⟨rfl, rfl⟩)
  go_ret
  exact ⟨rfl, by go_grown⟩
set_option maxHeartbeats 1000000 in
theorem irbin_10 (s : Value) (w : World) : Calls Try.prog 62 #[.agg #[.int .i64 4, .int .i64 32, .int .i64 10, .int .i64 0, s], .int .i64 32, .int .i64 32] w fun e w' => e = .returned (.int .i64 32) ∧ New w w' := by
  go_enter Try.func62, Try.ntmps62
  go_wp2_with (go_at_call 59; refine (only_32 _).mono ?_; rintro e w1 ⟨rfl, rfl⟩)
  go_ret
  exact ⟨rfl, by go_grown⟩
set_option maxHeartbeats 1000000 in
theorem irbin_11 (s : Value) (w : World) : Calls Try.prog 62 #[.agg #[.int .i64 4, .int .i64 32, .int .i64 11, .int .i64 0, s], .int .i64 32, .int .i64 32] w fun e w' => e = .returned (.int .i64 32) ∧ New w w' := by
  go_enter Try.func62, Try.ntmps62
  go_wp2_with (go_at_call 59; refine (only_32 _).mono ?_; rintro e w1 ⟨rfl, rfl⟩)
  go_ret
  exact ⟨rfl, by go_grown⟩
set_option maxHeartbeats 1000000 in
theorem irbin_12 (s : Value) (w : World) : Calls Try.prog 62 #[.agg #[.int .i64 4, .int .i64 32, .int .i64 12, .int .i64 0, s], .int .i64 32, .int .i64 32] w fun e w' => e = .returned (.int .i64 32) ∧ New w w' := by
  go_enter Try.func62, Try.ntmps62
  go_wp2_with (go_at_call 59; refine (only_32 _).mono ?_; rintro e w1 ⟨rfl, rfl⟩)
  go_ret
  exact ⟨rfl, by go_grown⟩
set_option maxHeartbeats 1000000 in
theorem irbin_13 (s : Value) (w : World) : Calls Try.prog 62 #[.agg #[.int .i64 4, .int .i64 32, .int .i64 13, .int .i64 0, s], .int .i64 32, .int .i64 32] w fun e w' => e = .returned (.int .i64 32) ∧ New w w' := by
  go_enter Try.func62, Try.ntmps62
  go_wp2_with (go_at_call 59; refine (only_32 _).mono ?_; rintro e w1 ⟨rfl, rfl⟩)
  go_ret
  exact ⟨rfl, by go_grown⟩
set_option maxHeartbeats 1000000 in
theorem irbin_14 (s : Value) (w : World) : Calls Try.prog 62 #[.agg #[.int .i64 4, .int .i64 1, .int .i64 14, .int .i64 0, s], .int .i64 32, .int .i64 32] w fun e w' => e = .returned (.int .i64 1) ∧ New w w' := by
  go_enter Try.func62, Try.ntmps62
  go_wp2_with (go_at_call 59; refine (only_1 _).mono ?_; rintro e w1 ⟨rfl, rfl⟩)
  go_ret
  exact ⟨rfl, by go_grown⟩
set_option maxHeartbeats 1000000 in
theorem irbin_15 (s : Value) (w : World) : Calls Try.prog 62 #[.agg #[.int .i64 4, .int .i64 1, .int .i64 15, .int .i64 0, s], .int .i64 32, .int .i64 32] w fun e w' => e = .returned (.int .i64 1) ∧ New w w' := by
  go_enter Try.func62, Try.ntmps62
  go_wp2_with (go_at_call 59; refine (only_1 _).mono ?_; rintro e w1 ⟨rfl, rfl⟩)
  go_ret
  exact ⟨rfl, by go_grown⟩
set_option maxHeartbeats 1000000 in
theorem irbin_16 (s : Value) (w : World) : Calls Try.prog 62 #[.agg #[.int .i64 4, .int .i64 1, .int .i64 16, .int .i64 0, s], .int .i64 32, .int .i64 32] w fun e w' => e = .returned (.int .i64 1) ∧ New w w' := by
  go_enter Try.func62, Try.ntmps62
  go_wp2_with (go_at_call 59; refine (only_1 _).mono ?_; rintro e w1 ⟨rfl, rfl⟩)
  go_ret
  exact ⟨rfl, by go_grown⟩
set_option maxHeartbeats 1000000 in
theorem irbin_17 (s : Value) (w : World) : Calls Try.prog 62 #[.agg #[.int .i64 4, .int .i64 1, .int .i64 17, .int .i64 0, s], .int .i64 32, .int .i64 32] w fun e w' => e = .returned (.int .i64 1) ∧ New w w' := by
  go_enter Try.func62, Try.ntmps62
  go_wp2_with (go_at_call 59; refine (only_1 _).mono ?_; rintro e w1 ⟨rfl, rfl⟩)
  go_ret
  exact ⟨rfl, by go_grown⟩
set_option maxHeartbeats 1000000 in
theorem irbin_18 (s : Value) (w : World) : Calls Try.prog 62 #[.agg #[.int .i64 4, .int .i64 1, .int .i64 18, .int .i64 0, s], .int .i64 32, .int .i64 32] w fun e w' => e = .returned (.int .i64 1) ∧ New w w' := by
  go_enter Try.func62, Try.ntmps62
  go_wp2_with (go_at_call 59; refine (only_1 _).mono ?_; rintro e w1 ⟨rfl, rfl⟩)
  go_ret
  exact ⟨rfl, by go_grown⟩
set_option maxHeartbeats 1000000 in
theorem irbin_19 (s : Value) (w : World) : Calls Try.prog 62 #[.agg #[.int .i64 4, .int .i64 1, .int .i64 19, .int .i64 0, s], .int .i64 32, .int .i64 32] w fun e w' => e = .returned (.int .i64 1) ∧ New w w' := by
  go_enter Try.func62, Try.ntmps62
  go_wp2_with (go_at_call 59; refine (only_1 _).mono ?_; rintro e w1 ⟨rfl, rfl⟩)
  go_ret
  exact ⟨rfl, by go_grown⟩
/-- The operations that have values. -/
def opOk (op : Int) : Prop := op = 1 ∨ op = 2 ∨ op = 8 ∨ op = 10 ∨ op = 11 ∨ op = 12 ∨ op = 13 ∨ op = 14 ∨ op = 15 ∨ op = 16 ∨ op = 17 ∨ op = 18 ∨ op = 19
theorem irbin_c (op : Int) (h : opOk op) (s : Value) (w : World) : Calls Try.prog 62 #[.agg #[.int .i64 4, .int .i64 (binTy op), .int .i64 op, .int .i64 0, s], .int .i64 32, .int .i64 32] w fun e w' => e = .returned (.int .i64 (binTy op)) ∧ New w w' := by
  unfold opOk at h
  rcases h with rfl | rfl | rfl | rfl | rfl | rfl | rfl | rfl | rfl | rfl | rfl | rfl | rfl
  · exact irbin_1 s w
  · exact irbin_2 s w
  · exact irbin_8 s w
  · exact irbin_10 s w
  · exact irbin_11 s w
  · exact irbin_12 s w
  · exact irbin_13 s w
  · exact irbin_14 s w
  · exact irbin_15 s w
  · exact irbin_16 s w
  · exact irbin_17 s w
  · exact irbin_18 s w
  · exact irbin_19 s w
end Go.Proofs.Ytmkjgkldbonpnaa
/- The form's Type, of the atoms that Simplify takes and makes. -/
namespace Go.Proofs.Ytmkjgkldbonpnaa
open Go Go.RowKit Go.Cd
set_option linter.unusedVariables false

theorem neq_vec (a2 a3 a4 a5 b2 b3 b4 b5 : Int) (w : World) :
    (binOp .neq 57 (.agg #[.int .u32 a2, .int .u32 a3, .int .u32 a4, .int .u32 a5]) (.agg #[.int .u32 b2, .int .u32 b3, .int .u32 b4, .int .u32 b5])).run Try.prog w
     = .ok (.bool (!(a2 == b2 && (a3 == b3 && (a4 == b4 && (a5 == b5 && true)))))) w := by
  rw [run_neq_struct, eq_vec 9998]; rfl
theorem isW_word {a : Atom} (h : isW a = true) (hn : a.tmp < 0) : a = wordA a.c0 := by
  obtain ⟨t, ty, c0, c1, c2, c3⟩ := a
  unfold isW at h
  dsimp only at h hn
  rw [if_neg (by omega), decide_eq_true_iff] at h
  obtain ⟨rfl, rfl, rfl, rfl, rfl⟩ := h
  rfl
theorem isW_tmp {a : Atom} (h : isW a = true) (hn : 0 ≤ a.tmp) : a = tmpA a.tmp := by
  obtain ⟨t, ty, c0, c1, c2, c3⟩ := a
  unfold isW at h
  dsimp only at h hn
  rw [if_pos (by omega), decide_eq_true_iff] at h
  obtain ⟨rfl, rfl, rfl, rfl, rfl⟩ := h
  rfl
attribute [local go_sem ↓] Go.wp_at_zero Go.wp_at_succ neq_vec
set_option maxRecDepth 100000 in
set_option maxHeartbeats 1000000 in
theorem type_word (s : Value) (c0 : Int) (h0 : 0 ≤ c0) (h1 : c0 < 4294967296) (w : World) : Calls Try.prog 82 #[s, .agg #[.int .i64 (-1), .int .i64 32, .int .u32 c0, .int .u32 0, .int .u32 0, .int .u32 0]] w fun e w' => e = .returned (.int .i64 32) ∧ New w w' := by
  have hs : c0 / 4294967296 = 0 := by omega
  go_enter Try.func82, Try.ntmps82
  go_wp2_with (go_at_call 84; refine (bytes_32 _).mono ?_; rintro e w1 ⟨rfl, rfl⟩)
  go_ret
  exact ⟨rfl, by go_grown⟩
set_option maxRecDepth 100000 in
set_option maxHeartbeats 1000000 in
theorem type_tmp (b off n cap : Nat) (t : Int) (ty : Int) (h0 : 0 ≤ t) (h1 : t < n) (w : World) (hb : b < w.heap.size) (hn : n < 100000) (hc : w.cell? ⟨b, off + t.toNat, none⟩ = some (.int .i64 ty)) (hty : ty = 1 ∨ ty = 32) :
    Calls Try.prog 82 #[.slice (some ⟨b, off, none⟩) n cap, .agg #[.int .i64 t, .int .i64 0, .int .u32 0, .int .u32 0, .int .u32 0, .int .u32 0]] w fun e w' => e = .returned (.int .i64 ty) ∧ New w w' := by
  rcases hty with rfl | rfl
  · go_enter Try.func82, Try.ntmps82
    go_wp2_with (go_at_call 84; refine (bytes_1 _).mono ?_; rintro e w1 ⟨rfl, rfl⟩)
    go_ret
    exact ⟨rfl, by go_grown⟩
  · go_enter Try.func82, Try.ntmps82
    go_wp2_with (go_at_call 84; refine (bytes_32 _).mono ?_; rintro e w1 ⟨rfl, rfl⟩)
    go_ret
    exact ⟨rfl, by go_grown⟩
end Go.Proofs.Ytmkjgkldbonpnaa
/- The form's types of a list of atoms. -/
namespace Go.Proofs.Ytmkjgkldbonpnaa
open Go Go.RowKit Go.Cd
set_option linter.unusedVariables false

/-- An atom whose type is known. -/
structure AtTy (w : World) (b off n : Nat) (ty : Int → Int) (a : Atom) : Prop where
  isw : isW a = true
  ok : 0 ≤ a.c0 ∧ a.c0 < 4294967296
  tmp : 0 ≤ a.tmp → a.tmp < n ∧ w.cell? ⟨b, off + a.tmp.toNat, none⟩ = some (.int .i64 (ty a.tmp)) ∧ (ty a.tmp = 1 ∨ ty a.tmp = 32)
theorem AtTy.new {w w' : World} {b off n : Nat} {ty : Int → Int} {a : Atom} (h : AtTy w b off n ty a) (hb : b < w.heap.size) (hn : New w w') : AtTy w' b off n ty a :=
  ⟨h.isw, h.ok, fun q => ⟨(h.tmp q).1, (hn.cell (p := ⟨b, off + a.tmp.toNat, none⟩) hb).trans (h.tmp q).2.1, (h.tmp q).2.2⟩⟩
theorem type_c (b off n cap : Nat) (ty : Int → Int) (a : Atom) (w : World) (h : AtTy w b off n ty a) (hb : b < w.heap.size) (hn : n < 100000) :
    Calls Try.prog 82 #[.slice (some ⟨b, off, none⟩) n cap, a.val] w fun e w' => e = .returned (.int .i64 (tyA ty a)) ∧ New w w' := by
  by_cases ht : 0 ≤ a.tmp
  · have e : tyA ty a = ty a.tmp := by unfold tyA; rw [if_pos ht]
    obtain ⟨h1, h2, h3⟩ := h.tmp ht
    rw [e, isW_tmp h.isw ht]
    exact type_tmp b off n cap a.tmp (ty a.tmp) ht h1 w hb hn h2 h3
  · have e : tyA ty a = 32 := by unfold tyA; rw [if_neg ht]
    rw [e, isW_word h.isw (by omega)]
    exact type_word _ a.c0 h.ok.1 h.ok.2 w
set_option maxHeartbeats 1000000 in
theorem types1_c (b off n cap bt : Nat) (ty : Int → Int) (a : Atom) (w : World) (h : AtTy w b off n ty a) (hb : b < w.heap.size) (hn : n < 100000) (hbt : bt < w.heap.size) (ht : w.cell? ⟨bt, 0, none⟩ = some (.slice (some ⟨b, off, none⟩) n cap)) :
    Calls Try.prog 81 #[a.val, .pointer (some ⟨bt, 0, none⟩)] w fun e w' => e = .returned (.int .i64 (tyA ty a)) ∧ New w w' := by
  have H := Lib.hid h
  clear h
  obtain ⟨x0, x1, x2, x3, x4, x5⟩ := a
  unfold Atom.val
  dsimp only
  go_enter Try.func81, Try.ntmps81
  go_wp2_with (go_at_call 82; refine (type_c b off n cap ty ⟨x0, x1, x2, x3, x4, x5⟩ _ (H.out.new hb (by go_grown)) (by simp; omega) hn).mono ?_; rintro e w1 ⟨rfl, hb1⟩)
  go_ret
  exact ⟨rfl, Below.trans (by go_grown) (hb1.mono (by simp))⟩
theorem own_new {w w' : World} {base : Nat} {e : TypeId} {size : Nat} {v : Value} {n : Nat} {xs : List Value} (h : w.ownsRow base e size v n xs) (hn : New w w') : w'.ownsRow base e size v n xs :=
  own_of_heap h fun g hg => hn.block g (own_lt h hg)
theorem grow_new {w wr w' : World} {e : TypeId} {size : Nat} {v : Value} {n : Nat} {xs : List Value} (hN : New w wr) (h : wr.ownsRow w.heap.size e size v n xs) (hg : wr.grownBy w' v.ownBlock) : New w w' :=
  ⟨hg.os.trans hN.os, hg.tape.trans hN.tape, hg.output.trans hN.output, Nat.le_trans hN.size hg.size, fun k hk => (hg.block k (Nat.lt_of_lt_of_le hk hN.size) (fun q => by have := (h.lt k q.symm).1; omega)).trans (hN.block k hk)⟩
theorem infoInt : (Try.prog.info? 3).map (fun i => (i.zero, i.size, i.bytes)) = some (some (.int .i64 0), 1, 8) := by kernel_rfl
def tysV (ty : Int → Int) (l : List Atom) : List Value := l.map fun a => .int .i64 (tyA ty a)
theorem tysV_take (ty : Int → Int) (l : List Atom) (k : Nat) (a : Atom) (h : l[k]? = some a) : tysV ty (l.take (k + 1)) = tysV ty (l.take k) ++ [.int .i64 (tyA ty a)] := by
  unfold tysV
  rw [List.take_add_one, h]
  simp
set_option maxRecDepth 100000 in
set_option maxHeartbeats 2000000 in
theorem mapped_c (bl b off n cap bt : Nat) (ty : Int → Int) (l : List Atom) (w : World) (hl : AtomsIn w bl 0 l) (hlen : l.length ≤ 100) (hbl : bl < w.heap.size) (h : ∀ a ∈ l, AtTy w b off n ty a) (hb : b < w.heap.size) (hn : n < 100000) (hbt : bt < w.heap.size) (ht : w.cell? ⟨bt, 0, none⟩ = some (.slice (some ⟨b, off, none⟩) n cap)) :
    Calls Try.prog 80 #[.slice (some ⟨bl, 0, none⟩) l.length l.length, .func (.func 81) #[] #[.pointer (some ⟨bt, 0, none⟩)]] w fun e w' => ∃ v, e = .returned v ∧ w'.ownsRow w.heap.size 3 1 v l.length (tysV ty l) ∧ New w w' := by
  obtain ⟨i0, hi, hz0, hz1, hz2⟩ := info_parts infoInt
  have HL := Lib.hid hl
  have H := Lib.hid h
  have HT := Lib.hid ht
  obtain ⟨m, hm⟩ : ∃ m, l.length = m := ⟨_, rfl⟩
  have HM := Lib.hid hm
  rw [hm]
  rw [hm] at hlen
  clear hl h ht hm
  go_enter Try.func80, Try.ntmps80
  go_wp2_with fail
  go_loopw [5, 10] (fun v i wr => ∃ k : Nat, k ≤ m ∧ i = .int .i64 k ∧ wr.ownsRow w.heap.size 3 1 v k (tysV ty (l.take k)) ∧ New w wr) (fun _ i _ => m - (intOf i).toNat)
  case atStart => exact ⟨0, Nat.zero_le _, rfl, World.ownsRow_nil _ _ _ _, New.refl w⟩
  case round =>
    obtain ⟨k, hk, rfl, hown, hN⟩ := hrel
    have HN := Lib.hid hN
    have HO := Lib.hid hown
    clear hN hown
    by_cases hlt : k < m
    · obtain ⟨x, hx⟩ : ∃ x, l[k]? = some x := ⟨_, List.getElem?_eq_getElem (by rw [HM.out]; exact hlt)⟩
      have HX := Lib.hid hx
      have hcx := (HL.out.new hbl HN.out) k x hx
      have HA := Lib.hid (H.out x (List.mem_of_getElem? hx))
      have HTS := Lib.hid (tysV_take ty l k x hx)
      clear hx
      obtain ⟨x0, x1, x2, x3, x4, x5⟩ := x
      have q0 : wr.cell? ⟨bl, k * 6, none⟩ = some (.int .i64 x0) := by have := hcx 0 _ rfl; simpa using this
      have q1 : wr.cell? ⟨bl, k * 6 + 1, none⟩ = some (.int .i64 x1) := by have := hcx 1 _ rfl; simpa using this
      have q2 : wr.cell? ⟨bl, k * 6 + 2, none⟩ = some (.int .u32 x2) := by have := hcx 2 _ rfl; simpa using this
      have q3 : wr.cell? ⟨bl, k * 6 + 3, none⟩ = some (.int .u32 x3) := by have := hcx 3 _ rfl; simpa using this
      have q4 : wr.cell? ⟨bl, k * 6 + 4, none⟩ = some (.int .u32 x4) := by have := hcx 4 _ rfl; simpa using this
      have q5 : wr.cell? ⟨bl, k * 6 + 5, none⟩ = some (.int .u32 x5) := by have := hcx 5 _ rfl; simpa using this
      clear hcx
      have hz := HN.out.size
      go_wp2_with (first
        | (at_builtin; refine wpList_append_own _ rfl _ _ 61 rfl w.heap.size 3 i0 (.int .i64 0) 1 8 Try.underlying61 hi hz0 hz1 hz2 rfl (by decide) _ _ _ rfl ((own_new HO.out (Below.trans (by go_grown) (hb1.mono (by simp)))).alloc _) ⟨w1.heap.size, 0, none⟩ 1 1 [.int .i64 (tyA ty ⟨x0, x1, x2, x3, x4, x5⟩)] rfl rfl ?c1 ?c2 ?c3 ?c4 ?c5 ?_)
        | (go_at_call 81; refine (types1_c b off n cap bt ty ⟨x0, x1, x2, x3, x4, x5⟩ _ (HA.out.new hb (HN.out.trans (by go_grown))) (by simp; omega) hn (by simp; omega) ((Below.cell (HN.out.trans (by go_grown)) (p := ⟨bt, 0, none⟩) hbt).trans HT.out)).mono ?_; rintro e w1 ⟨rfl, hb1⟩))
      case c1 =>
        intro j u hj
        match j, hj with
        | 0, hj => simp at hj; subst hj; simp [Addr.add]
      case c2 => intro u hu; simp at hu; subst hu; rfl
      case c3 => unfold maxLen; omega
      case c4 => omega
      case c5 => have := hb1.size; simp at this ⊢; omega
      intro v' w2 hown' hgrow _
      have hw1 : New w w1 := HN.out.trans (Below.trans (Below.alloc (Below.refl _ _) hz _) (hb1.mono (by rw [World.size_alloc]; omega)))
      have hN2 : New w w2 := grow_new (Below.alloc hw1 hw1.size _) ((own_new HO.out (Below.trans (by go_grown) (hb1.mono (by simp)))).alloc _) hgrow
      rw [← HTS.out] at hown'
      have HO2 := Lib.hid hown'
      have HN2 := Lib.hid hN2
      clear hown' hgrow hN2 hb1 hw1 q0 q1 q2 q3 q4 q5
      go_wp2
      go_roundw
      case rel => exact ⟨k + 1, by omega, by simp, HO2.out, HN2.out⟩
      case measure => simp [intOf]; omega
    · have hkm : k = m := by omega
      subst hkm
      have e : l.take k = l := by rw [← HM.out]; exact List.take_length
      rw [e] at HO
      go_wp2
      refine bodyPost_ret (v := u5) (by simp [results, Try.results80, go_sem]) rfl ?_
      exact ⟨_, rfl, HO.out, HN.out⟩
end Go.Proofs.Ytmkjgkldbonpnaa
/- The form's types; slices.Contains of them. -/
namespace Go.Proofs.Ytmkjgkldbonpnaa
open Go Go.RowKit Go.Cd
set_option linter.unusedVariables false

theorem own_base {w : World} {base base' : Nat} {e : TypeId} {size : Nat} {v : Value} {n : Nat} {xs : List Value} (h : w.ownsRow base e size v n xs) (hb : base' ≤ base) : w.ownsRow base' e size v n xs := by
  obtain ⟨h1, h2⟩ := h
  refine ⟨h1, ?_⟩
  rcases h2 with h2 | ⟨g, cap, cur, hv, hg, r⟩
  · exact .inl h2
  · exact .inr ⟨g, cap, cur, hv, Nat.le_trans hb hg, r⟩
set_option maxHeartbeats 1000000 in
theorem types_c (bl b off n cap : Nat) (ty : Int → Int) (l : List Atom) (w : World) (hl : AtomsIn w bl 0 l) (hlen : l.length ≤ 100) (hbl : bl < w.heap.size) (h : ∀ a ∈ l, AtTy w b off n ty a) (hb : b < w.heap.size) (hn : n < 100000) :
    Calls Try.prog 57 #[.slice (some ⟨b, off, none⟩) n cap, .slice (some ⟨bl, 0, none⟩) l.length l.length] w fun e w' => ∃ v, e = .returned v ∧ w'.ownsRow w.heap.size 3 1 v l.length (tysV ty l) ∧ New w w' := by
  have HL := Lib.hid hl
  have H := Lib.hid h
  clear hl h
  go_enter Try.func57, Try.ntmps57
  go_wp2_with (go_at_call 80; refine (mapped_c bl b off n cap _ ty l _ (HL.out.new hbl (by go_grown)) hlen (by simp; omega) (fun a ha => (H.out a ha).new hb (by go_grown)) (by simp; omega) hn (by simp) (cell_of_heap (heap_alloc_at _ _ _ rfl) rfl)).mono ?_; rintro e w1 ⟨v, rfl, ho, hb1⟩)
  have HO := Lib.hid ho
  have HB := Lib.hid hb1
  clear ho hb1
  refine bodyPost_ret (v := v) (by simp [results, Try.results57, go_sem]) rfl ?_
  exact ⟨_, rfl, own_base HO.out (by simp), Below.trans (by go_grown) (HB.out.mono (by simp))⟩
set_option maxHeartbeats 1000000 in
theorem index_c (g n cap : Nat) (w : World) (hn : n ≤ 100) (hg : g < w.heap.size) (hc : ∀ k, k < n → ∃ t : Int, w.cell? ⟨g, k, none⟩ = some (.int .i64 t) ∧ t ≠ 0) :
    Calls Try.prog 83 #[.slice (some ⟨g, 0, none⟩) n cap, .int .i64 0] w fun e w' => e = .returned (.int .i64 (-1)) ∧ New w w' := by
  have HC := Lib.hid hc
  clear hc
  go_enter Try.func83, Try.ntmps83
  go_wp2_with fail
  go_loopw [5, 8] (fun _ i wr => ∃ k : Nat, k ≤ n ∧ i = .int .i64 k ∧ wr = w) (fun _ i _ => n - (intOf i).toNat)
  case atStart => exact ⟨0, Nat.zero_le _, rfl, rfl⟩
  case round =>
    obtain ⟨k, hk, rfl, rfl⟩ := hrel
    by_cases hlt : k < n
    · obtain ⟨t, ht, ht0⟩ := HC.out k hlt
      have ht1 : ¬ (0 : Int) = t := fun q => ht0 q.symm
      go_wp2
      go_roundw
      case rel => exact ⟨k + 1, by omega, by simp, trivial⟩
      case measure => simp [intOf]; omega
    · have hkm : k = n := by omega
      subst hkm
      go_wp2
      go_ret
      exact ⟨rfl, by go_grown⟩
theorem contains_c (g n cap : Nat) (w : World) (hn : n ≤ 100) (hg : g < w.heap.size) (hc : ∀ k, k < n → ∃ t : Int, w.cell? ⟨g, k, none⟩ = some (.int .i64 t) ∧ t ≠ 0) :
    Calls Try.prog 58 #[.slice (some ⟨g, 0, none⟩) n cap, .int .i64 0] w fun e w' => e = .returned (.bool false) ∧ New w w' := by
  have HC := Lib.hid hc
  clear hc
  go_enter Try.func58, Try.ntmps58
  go_wp2_with (go_at_call 83; refine (index_c g n cap _ hn hg HC.out).mono ?_; rintro e w1 ⟨rfl, hb1⟩)
  go_ret
  exact ⟨rfl, hb1⟩
end Go.Proofs.Ytmkjgkldbonpnaa
/- ir.ExprType, at the expressions that Simplify makes. Written by genIr6.py. -/
namespace Go.Proofs.Ytmkjgkldbonpnaa
open Go Go.RowKit Go.Cd
set_option linter.unusedVariables false

theorem own_open {w : World} {base : Nat} {v : Value} {n : Nat} {xs : List Value} (h : w.ownsRow base 3 1 v n xs) (hn : 0 < n) :
    ∃ g cap, v = .slice (some ⟨g, 0, none⟩) n cap ∧ g < w.heap.size ∧ base ≤ g ∧ ∀ j, j < n → w.cell? ⟨g, j, none⟩ = xs[j]? := by
  rcases h.2 with ⟨_, h0⟩ | ⟨g, cap, cur, rfl, hb, hg, r⟩
  · omega
  · exact ⟨g, cap, rfl, lt_of_heap hg, hb, fun j hj => h.cellAt j (by omega)⟩
set_option maxRecDepth 100000 in
set_option maxHeartbeats 4000000 in
theorem exprtype_a (bl b off n cap : Nat) (ty : Int → Int) (a : Atom) (w : World) (hl : AtomsIn w bl 0 [a]) (hbl : bl < w.heap.size) (h : ∀ x ∈ [a], AtTy w b off n ty x) (hb : b < w.heap.size) (hn : n < 100000) (ht0 : tyA ty a = 32) :
    Calls Try.prog 35 #[.slice (some ⟨b, off, none⟩) n cap, .agg #[.int .i64 1, .int .i64 32, .int .i64 0, .int .i64 0, .slice (some ⟨bl, 0, none⟩) 1 1]] w fun e w' => e = .returned (.int .i64 32) ∧ New w w' := by
  have HL := Lib.hid hl
  have H := Lib.hid h
  clear hl h
  go_enter Try.func35, Try.ntmps35
  go_wp2_with (first
    | (go_at_call 57; refine (types_c bl b off n cap ty [a] _ (HL.out.new hbl (by go_grown)) (by simp) (by simp; omega) (fun a ha => (H.out a ha).new hb (by go_grown)) (by simp; omega) hn).mono ?_; rintro e w1 ⟨v, rfl, ho, hb1⟩; obtain ⟨g, capv, rfl, hg, -, hcell⟩ := own_open ho (by simp); dsimp only [List.length] at hcell; have g0 : w1.cell? ⟨g, 0, none⟩ = some (.int .i64 32) := (by rw [hcell 0 (by decide), show (tysV ty [a])[0]? = some (.int .i64 (tyA ty a)) from rfl, ht0]); have hbox : w1.heap[w.heap.size]? = some (.cells #[.int .i64 1, .int .i64 32, .int .i64 0, .int .i64 0, .slice (some ⟨bl, 0, none⟩) 1 1] 64) := (hb1.block _ (by simp)).trans (heap_alloc_at _ _ _ rfl); have q0 : w1.cell? ⟨w.heap.size, 0, none⟩ = some (.int .i64 1) := cell_of_heap hbox rfl; have q1 : w1.cell? ⟨w.heap.size, 1, none⟩ = some (.int .i64 32) := cell_of_heap hbox rfl; have q2 : w1.cell? ⟨w.heap.size, 2, none⟩ = some (.int .i64 0) := cell_of_heap hbox rfl; have q3 : w1.cell? ⟨w.heap.size, 3, none⟩ = some (.int .i64 0) := cell_of_heap hbox rfl; have q4 : w1.cell? ⟨w.heap.size, 4, none⟩ = some (.slice (some ⟨bl, 0, none⟩) 1 1) := cell_of_heap hbox rfl; have hwl := lt_of_heap hbox; have HB1 := Lib.hid hb1; clear ho hcell hbox hb1)
    | (go_at_call 58; refine (contains_c g 1 capv _ (by simp) hg (fun k hk => ⟨32, (by obtain rfl : k = 0 := (by omega); exact g0), by decide⟩)).mono ?_; rintro e w2 ⟨rfl, hb2⟩; replace g0 := (hb2.cell (p := ⟨g, 0, none⟩) hg).trans g0; replace q0 := (hb2.cell (p := ⟨w.heap.size, 0, none⟩) hwl).trans q0; replace q1 := (hb2.cell (p := ⟨w.heap.size, 1, none⟩) hwl).trans q1; replace q2 := (hb2.cell (p := ⟨w.heap.size, 2, none⟩) hwl).trans q2; replace q3 := (hb2.cell (p := ⟨w.heap.size, 3, none⟩) hwl).trans q3; replace q4 := (hb2.cell (p := ⟨w.heap.size, 4, none⟩) hwl).trans q4; have hg2 : g < w2.heap.size := Nat.lt_of_lt_of_le hg hb2.size; have hw2 := Nat.lt_of_lt_of_le hwl hb2.size; have HN2 : New w w2 := Below.trans (Below.trans (by go_grown) (HB1.out.mono (by simp))) (hb2.mono (by omega)); have HN2 := Lib.hid HN2; clear hb2 HB1))

  go_quiet ((go_at_call 59; exact Calls.quiet_of_same ((only_32 _).mono fun _ _ q => ⟨q.1, q.2.symm⟩)))
  go_wp2
  go_ret
  exact ⟨rfl, below_drewN HN2.out _⟩
set_option maxRecDepth 100000 in
set_option maxHeartbeats 4000000 in
theorem exprtype_z (bl b off n cap : Nat) (ty : Int → Int) (a : Atom) (w : World) (hl : AtomsIn w bl 0 [a]) (hbl : bl < w.heap.size) (h : ∀ x ∈ [a], AtTy w b off n ty x) (hb : b < w.heap.size) (hn : n < 100000) (ht0 : tyA ty a = 1) :
    Calls Try.prog 35 #[.slice (some ⟨b, off, none⟩) n cap, .agg #[.int .i64 3, .int .i64 32, .int .i64 2, .int .i64 0, .slice (some ⟨bl, 0, none⟩) 1 1]] w fun e w' => e = .returned (.int .i64 32) ∧ New w w' := by
  have HL := Lib.hid hl
  have H := Lib.hid h
  clear hl h
  have c1 : ∀ w : World, Calls Try.prog 61 #[.agg #[.int .i64 3, .int .i64 32, .int .i64 2, .int .i64 0, .slice (some ⟨bl, 0, none⟩) 1 1], .int .i64 1] w fun e w' => e = .returned (.int .i64 32) ∧ New w w' := fun w => unary_z _ w
  have C1 := Lib.hid c1
  clear c1
  go_enter Try.func35, Try.ntmps35
  go_wp2_with (first
    | (go_at_call 57; refine (types_c bl b off n cap ty [a] _ (HL.out.new hbl (by go_grown)) (by simp) (by simp; omega) (fun a ha => (H.out a ha).new hb (by go_grown)) (by simp; omega) hn).mono ?_; rintro e w1 ⟨v, rfl, ho, hb1⟩; obtain ⟨g, capv, rfl, hg, -, hcell⟩ := own_open ho (by simp); dsimp only [List.length] at hcell; have g0 : w1.cell? ⟨g, 0, none⟩ = some (.int .i64 1) := (by rw [hcell 0 (by decide), show (tysV ty [a])[0]? = some (.int .i64 (tyA ty a)) from rfl, ht0]); have hbox : w1.heap[w.heap.size]? = some (.cells #[.int .i64 3, .int .i64 32, .int .i64 2, .int .i64 0, .slice (some ⟨bl, 0, none⟩) 1 1] 64) := (hb1.block _ (by simp)).trans (heap_alloc_at _ _ _ rfl); have q0 : w1.cell? ⟨w.heap.size, 0, none⟩ = some (.int .i64 3) := cell_of_heap hbox rfl; have q1 : w1.cell? ⟨w.heap.size, 1, none⟩ = some (.int .i64 32) := cell_of_heap hbox rfl; have q2 : w1.cell? ⟨w.heap.size, 2, none⟩ = some (.int .i64 2) := cell_of_heap hbox rfl; have q3 : w1.cell? ⟨w.heap.size, 3, none⟩ = some (.int .i64 0) := cell_of_heap hbox rfl; have q4 : w1.cell? ⟨w.heap.size, 4, none⟩ = some (.slice (some ⟨bl, 0, none⟩) 1 1) := cell_of_heap hbox rfl; have hwl := lt_of_heap hbox; have HB1 := Lib.hid hb1; clear ho hcell hbox hb1)
    | (go_at_call 58; refine (contains_c g 1 capv _ (by simp) hg (fun k hk => ⟨1, (by obtain rfl : k = 0 := (by omega); exact g0), by decide⟩)).mono ?_; rintro e w2 ⟨rfl, hb2⟩; replace g0 := (hb2.cell (p := ⟨g, 0, none⟩) hg).trans g0; replace q0 := (hb2.cell (p := ⟨w.heap.size, 0, none⟩) hwl).trans q0; replace q1 := (hb2.cell (p := ⟨w.heap.size, 1, none⟩) hwl).trans q1; replace q2 := (hb2.cell (p := ⟨w.heap.size, 2, none⟩) hwl).trans q2; replace q3 := (hb2.cell (p := ⟨w.heap.size, 3, none⟩) hwl).trans q3; replace q4 := (hb2.cell (p := ⟨w.heap.size, 4, none⟩) hwl).trans q4; have hg2 : g < w2.heap.size := Nat.lt_of_lt_of_le hg hb2.size; have hw2 := Nat.lt_of_lt_of_le hwl hb2.size; have HN2 : New w w2 := Below.trans (Below.trans (by go_grown) (HB1.out.mono (by simp))) (hb2.mono (by omega)); have HN2 := Lib.hid HN2; clear hb2 HB1))
  have ql := hw2
  have gl := hg2
  go_region_held3 (fun w' => w'.cell? ⟨w.heap.size, 0, none⟩ = some (.int .i64 3) ∧ w'.cell? ⟨w.heap.size, 1, none⟩ = some (.int .i64 32) ∧ w'.cell? ⟨w.heap.size, 2, none⟩ = some (.int .i64 2) ∧ w'.cell? ⟨w.heap.size, 3, none⟩ = some (.int .i64 0) ∧ w'.cell? ⟨w.heap.size, 4, none⟩ = some (.slice (some ⟨bl, 0, none⟩) 1 1) ∧ w'.cell? ⟨g, 0, none⟩ = some (.int .i64 1) ∧ New w2 w') (((try dsimp only); (repeat' apply And.intro) <;> (first | assumption | (go_keep; done) | (exact Below.alloc (by assumption) (by omega) _) | (exact Below.alloc (by assumption) (Nat.le_refl _) _) | (go_grown; done))))
  (first | (go_at_call 61; (with_reducible refine (C1.out _).mono ?_); rintro e u1 ⟨rfl, hb1⟩; have hH1 := ‹_ ∧ _ ∧ _ ∧ _ ∧ _ ∧ _ ∧ _›; have e1_q0 := (hb1.cell (p := ⟨w.heap.size, 0, none⟩) (Nat.lt_of_lt_of_le ql hH1.2.2.2.2.2.2.size)).trans hH1.1; have e1_q1 := (hb1.cell (p := ⟨w.heap.size, 1, none⟩) (Nat.lt_of_lt_of_le ql hH1.2.2.2.2.2.2.size)).trans hH1.2.1; have e1_q2 := (hb1.cell (p := ⟨w.heap.size, 2, none⟩) (Nat.lt_of_lt_of_le ql hH1.2.2.2.2.2.2.size)).trans hH1.2.2.1; have e1_q3 := (hb1.cell (p := ⟨w.heap.size, 3, none⟩) (Nat.lt_of_lt_of_le ql hH1.2.2.2.2.2.2.size)).trans hH1.2.2.2.1; have e1_q4 := (hb1.cell (p := ⟨w.heap.size, 4, none⟩) (Nat.lt_of_lt_of_le ql hH1.2.2.2.2.2.2.size)).trans hH1.2.2.2.2.1; have e1_g0 := (hb1.cell (p := ⟨g, 0, none⟩) (Nat.lt_of_lt_of_le gl hH1.2.2.2.2.2.2.size)).trans hH1.2.2.2.2.2.1; have hn1 := hH1.2.2.2.2.2.2.trans (hb1.mono hH1.2.2.2.2.2.2.size); have s1 := hn1.size; have HB1 := Lib.hid hb1; clear hH1 hb1))
  have hfin : New w2 u1 := by assumption
  go_wp2
  go_ret
  exact ⟨rfl, HN2.out.trans (hfin.mono HN2.out.size)⟩
set_option maxRecDepth 100000 in
set_option maxHeartbeats 4000000 in
theorem exprtype_b (bl b off n cap : Nat) (ty : Int → Int) (a b2 : Atom) (op : Int) (hop : opOk op) (w : World) (hl : AtomsIn w bl 0 [a, b2]) (hbl : bl < w.heap.size) (h : ∀ x ∈ [a, b2], AtTy w b off n ty x) (hb : b < w.heap.size) (hn : n < 100000) (ht0 : tyA ty a = 32) (ht1 : tyA ty b2 = 32) (bt : Int) (hbt : bt = binTy op) :
    Calls Try.prog 35 #[.slice (some ⟨b, off, none⟩) n cap, .agg #[.int .i64 4, .int .i64 bt, .int .i64 op, .int .i64 0, .slice (some ⟨bl, 0, none⟩) 2 2]] w fun e w' => e = .returned (.int .i64 bt) ∧ New w w' := by
  have HL := Lib.hid hl
  have H := Lib.hid h
  clear hl h
  have c1 : ∀ w : World, Calls Try.prog 62 #[.agg #[.int .i64 4, .int .i64 bt, .int .i64 op, .int .i64 0, .slice (some ⟨bl, 0, none⟩) 2 2], .int .i64 32, .int .i64 32] w fun e w' => e = .returned (.int .i64 bt) ∧ New w w' := fun w => by rw [hbt]; exact irbin_c op hop _ w
  have C1 := Lib.hid c1
  have ho0 : ¬ op = 0 := by unfold opOk at hop; omega
  clear c1 hbt hop
  go_enter Try.func35, Try.ntmps35
  go_wp2_with (first
    | (go_at_call 57; refine (types_c bl b off n cap ty [a, b2] _ (HL.out.new hbl (by go_grown)) (by simp) (by simp; omega) (fun a ha => (H.out a ha).new hb (by go_grown)) (by simp; omega) hn).mono ?_; rintro e w1 ⟨v, rfl, ho, hb1⟩; obtain ⟨g, capv, rfl, hg, -, hcell⟩ := own_open ho (by simp); dsimp only [List.length] at hcell; have g0 : w1.cell? ⟨g, 0, none⟩ = some (.int .i64 32) := (by rw [hcell 0 (by decide), show (tysV ty [a, b2])[0]? = some (.int .i64 (tyA ty a)) from rfl, ht0]); have g1 : w1.cell? ⟨g, 1, none⟩ = some (.int .i64 32) := (by rw [hcell 1 (by decide), show (tysV ty [a, b2])[1]? = some (.int .i64 (tyA ty b2)) from rfl, ht1]); have hbox : w1.heap[w.heap.size]? = some (.cells #[.int .i64 4, .int .i64 bt, .int .i64 op, .int .i64 0, .slice (some ⟨bl, 0, none⟩) 2 2] 64) := (hb1.block _ (by simp)).trans (heap_alloc_at _ _ _ rfl); have q0 : w1.cell? ⟨w.heap.size, 0, none⟩ = some (.int .i64 4) := cell_of_heap hbox rfl; have q1 : w1.cell? ⟨w.heap.size, 1, none⟩ = some (.int .i64 bt) := cell_of_heap hbox rfl; have q2 : w1.cell? ⟨w.heap.size, 2, none⟩ = some (.int .i64 op) := cell_of_heap hbox rfl; have q3 : w1.cell? ⟨w.heap.size, 3, none⟩ = some (.int .i64 0) := cell_of_heap hbox rfl; have q4 : w1.cell? ⟨w.heap.size, 4, none⟩ = some (.slice (some ⟨bl, 0, none⟩) 2 2) := cell_of_heap hbox rfl; have hwl := lt_of_heap hbox; have HB1 := Lib.hid hb1; clear ho hcell hbox hb1)
    | (go_at_call 58; refine (contains_c g 2 capv _ (by simp) hg (fun k hk => ⟨32, (by obtain rfl | rfl : k = 0 ∨ k = 1 := (by omega); exact g0; exact g1), by decide⟩)).mono ?_; rintro e w2 ⟨rfl, hb2⟩; replace g0 := (hb2.cell (p := ⟨g, 0, none⟩) hg).trans g0; replace g1 := (hb2.cell (p := ⟨g, 1, none⟩) hg).trans g1; replace q0 := (hb2.cell (p := ⟨w.heap.size, 0, none⟩) hwl).trans q0; replace q1 := (hb2.cell (p := ⟨w.heap.size, 1, none⟩) hwl).trans q1; replace q2 := (hb2.cell (p := ⟨w.heap.size, 2, none⟩) hwl).trans q2; replace q3 := (hb2.cell (p := ⟨w.heap.size, 3, none⟩) hwl).trans q3; replace q4 := (hb2.cell (p := ⟨w.heap.size, 4, none⟩) hwl).trans q4; have hg2 : g < w2.heap.size := Nat.lt_of_lt_of_le hg hb2.size; have hw2 := Nat.lt_of_lt_of_le hwl hb2.size; have HN2 : New w w2 := Below.trans (Below.trans (by go_grown) (HB1.out.mono (by simp))) (hb2.mono (by omega)); have HN2 := Lib.hid HN2; clear hb2 HB1))
  have ql := hw2
  have gl := hg2
  go_region_held3 (fun w' => w'.cell? ⟨w.heap.size, 0, none⟩ = some (.int .i64 4) ∧ w'.cell? ⟨w.heap.size, 1, none⟩ = some (.int .i64 bt) ∧ w'.cell? ⟨w.heap.size, 2, none⟩ = some (.int .i64 op) ∧ w'.cell? ⟨w.heap.size, 3, none⟩ = some (.int .i64 0) ∧ w'.cell? ⟨w.heap.size, 4, none⟩ = some (.slice (some ⟨bl, 0, none⟩) 2 2) ∧ w'.cell? ⟨g, 0, none⟩ = some (.int .i64 32) ∧ w'.cell? ⟨g, 1, none⟩ = some (.int .i64 32) ∧ New w2 w') (((try dsimp only); (repeat' apply And.intro) <;> (first | assumption | (go_keep; done) | (exact Below.alloc (by assumption) (by omega) _) | (exact Below.alloc (by assumption) (Nat.le_refl _) _) | (go_grown; done))))
  (first | (go_at_call 62; (with_reducible refine (C1.out _).mono ?_); rintro e u1 ⟨rfl, hb1⟩; have hH1 := ‹_ ∧ _ ∧ _ ∧ _ ∧ _ ∧ _ ∧ _ ∧ _›; have e1_q0 := (hb1.cell (p := ⟨w.heap.size, 0, none⟩) (Nat.lt_of_lt_of_le ql hH1.2.2.2.2.2.2.2.size)).trans hH1.1; have e1_q1 := (hb1.cell (p := ⟨w.heap.size, 1, none⟩) (Nat.lt_of_lt_of_le ql hH1.2.2.2.2.2.2.2.size)).trans hH1.2.1; have e1_q2 := (hb1.cell (p := ⟨w.heap.size, 2, none⟩) (Nat.lt_of_lt_of_le ql hH1.2.2.2.2.2.2.2.size)).trans hH1.2.2.1; have e1_q3 := (hb1.cell (p := ⟨w.heap.size, 3, none⟩) (Nat.lt_of_lt_of_le ql hH1.2.2.2.2.2.2.2.size)).trans hH1.2.2.2.1; have e1_q4 := (hb1.cell (p := ⟨w.heap.size, 4, none⟩) (Nat.lt_of_lt_of_le ql hH1.2.2.2.2.2.2.2.size)).trans hH1.2.2.2.2.1; have e1_g0 := (hb1.cell (p := ⟨g, 0, none⟩) (Nat.lt_of_lt_of_le gl hH1.2.2.2.2.2.2.2.size)).trans hH1.2.2.2.2.2.1; have e1_g1 := (hb1.cell (p := ⟨g, 1, none⟩) (Nat.lt_of_lt_of_le gl hH1.2.2.2.2.2.2.2.size)).trans hH1.2.2.2.2.2.2.1; have hn1 := hH1.2.2.2.2.2.2.2.trans (hb1.mono hH1.2.2.2.2.2.2.2.size); have s1 := hn1.size; have HB1 := Lib.hid hb1; clear hH1 hb1))
  have hfin : New w2 u1 := by assumption
  go_wp2
  go_ret
  exact ⟨rfl, HN2.out.trans (hfin.mono HN2.out.size)⟩
end Go.Proofs.Ytmkjgkldbonpnaa
