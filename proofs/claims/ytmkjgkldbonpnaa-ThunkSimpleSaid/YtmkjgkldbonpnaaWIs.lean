/- The simplifier's is, fixed, compared. -/
import Derived.Test.YtmkjgkldbonpnaaWSim
namespace Go.Proofs.Ytmkjgkldbonpnaa
open Go Go.RowKit Go.Cd
set_option linter.unusedVariables false

theorem SimPost.trans {lo bs : Nat} {v v1 : Value} {tmp : Int} {es : List IExpr} {r : Value} {w w1 : World} {e : Ending} {w' : World} (hk : Kp bs v.ownBlock w w1) (hg : ∀ g, v1.ownBlock = some g → v.ownBlock = some g ∨ w.heap.size ≤ g)
    (h : SimPost lo bs v1 tmp es r w1 e w') : SimPost lo bs v tmp es r w e w' := by
  obtain ⟨v', he, hs, hk', hg'⟩ := h
  refine ⟨v', he, hs, ?_, ?_⟩
  · refine ⟨hk'.os.trans hk.os, hk'.tape.trans hk.tape, hk'.output.trans hk.output, Nat.le_trans hk.size hk'.size, fun k h1 h2 h3 => (hk'.block k (Nat.lt_of_lt_of_le h1 hk.size) h2 (row_ne hg k h1 h3)).trans (hk.block k h1 h2 h3)⟩
  · intro g h
    rcases hg' g h with h | h
    · exact hg g h
    · exact .inr (Nat.le_trans hk.size h)
set_option maxHeartbeats 1000000 in
theorem is_e (lo bs : Nat) (v : Value) (tmp : Int) (es : List IExpr) (op : Int) (x y : Atom) (w : World) (hs : SimE w lo bs v tmp es) (hn : es.length ≤ 900) (ht0 : 0 ≤ tmp) (ht1 : tmp ≤ 10000) :
    Calls Try.prog 73 #[.pointer (some ⟨bs, 0, none⟩), .int .i64 op, x.val, y.val] w (SimPost lo bs v tmp ((es ++ [⟨4, binTy op, op, 0, [x, y]⟩]) ++ [⟨3, 32, 2, 0, [tmpA (tmp + es.length)]⟩]) (.bool true) w) := by
  have HS := Lib.hid hs
  clear hs
  have hl := HS.out.lo_le
  have hlt : bs < w.heap.size := by obtain ⟨⟨_, h, _⟩, _⟩ := HS.out; exact h.lt
  obtain ⟨x0, x1, x2, x3, x4, x5⟩ := x
  obtain ⟨y0, y1, y2, y3, y4, y5⟩ := y
  unfold Atom.val
  dsimp only
  go_enter Try.func73, Try.ntmps73
  go_wp2_with fail
  refine (bin_e lo bs v tmp es op ⟨x0, x1, x2, x3, x4, x5⟩ ⟨y0, y1, y2, y3, y4, y5⟩ _ ((HS.out.alloc _).alloc _) (by omega) ht0 ht1).mono ?_
  rintro e w1 ⟨v1, rfl, hs1, hk1, hg1⟩
  have HS1 := Lib.hid hs1
  have HK1 := Lib.hid hk1
  have HG1 := Lib.hid hg1
  have hz1 := hk1.size
  simp only [World.size_alloc] at hz1
  have hv1 : ∀ g, v1.ownBlock = some g → g < w1.heap.size := fun g hg => by obtain ⟨⟨_, h, _⟩, _⟩ := hs1; exact own_lt h.own hg
  have HV1 := Lib.hid hv1
  clear hs1 hk1 hg1 hv1
  unfold tmpA Atom.val
  dsimp only
  go_wp2_with fail
  refine (add_e lo bs v1 tmp (es ++ [⟨4, binTy op, op, 0, [⟨x0, x1, x2, x3, x4, x5⟩, ⟨y0, y1, y2, y3, y4, y5⟩]⟩]) ⟨3, 32, 2, 0, [tmpA (tmp + es.length)]⟩ w1.heap.size _ (HS1.out.alloc _) (by simp; omega) ht0 ht1 (heap_alloc_at _ _ _ rfl) (by omega) (by omega) (fun q => by have := HV1.out _ q.symm; omega)).mono ?_
  rintro e w2 ⟨v2, rfl, hs2, hk2, hg2⟩
  have HP : SimPost lo bs v tmp ((es ++ [⟨4, binTy op, op, 0, [⟨x0, x1, x2, x3, x4, x5⟩, ⟨y0, y1, y2, y3, y4, y5⟩]⟩]) ++ [⟨3, 32, 2, 0, [tmpA (tmp + es.length)]⟩]) (.bool true) w (.returned (.bool true)) w2 := by
    refine SimPost.trans (w1 := w1.alloc _) ((Kp.trans (((Kp.refl _ _ w).alloc _).alloc _) HK1.out).alloc _) (fun g hg => ?_) ⟨v2, rfl, hs2, hk2, hg2⟩
    rcases HG1.out g hg with h | h
    · exact .inl h
    · exact .inr (by simp at h; omega)
  have HP := Lib.hid HP
  clear hs2 hk2 hg2
  go_wp2
  go_ret
  exact HP.out
set_option maxHeartbeats 1000000 in
theorem fixed_e (lo bs : Nat) (v : Value) (tmp : Int) (es : List IExpr) (n : Int) (w : World) (hs : SimE w lo bs v tmp es) (hn : es.length ≤ 900) (ht0 : 0 ≤ tmp) (ht1 : tmp ≤ 10000) :
    Calls Try.prog 39 #[.pointer (some ⟨bs, 0, none⟩), .int .u32 n] w (SimPost lo bs v tmp (es ++ [⟨1, 32, 0, 0, [wordA n]⟩]) (.bool true) w) := by
  have HS := Lib.hid hs
  clear hs
  have hl := HS.out.lo_le
  have hlt : bs < w.heap.size := by obtain ⟨⟨_, h, _⟩, _⟩ := HS.out; exact h.lt
  go_enter Try.func39, Try.ntmps39
  go_wp2_with fail
  refine (tword_c n _).mono ?_
  rintro e w1 ⟨rfl, hb1⟩
  have HB := Lib.hid hb1
  have hz1 := hb1.size
  have hv1 : ∀ g, v.ownBlock = some g → g < w.heap.size := fun g hg => by obtain ⟨⟨_, h, _⟩, _⟩ := HS.out; exact own_lt h.own hg
  have HV1 := Lib.hid hv1
  clear hb1 hv1
  unfold wordA Atom.val
  dsimp only
  go_wp2_with fail
  refine (add_e lo bs v tmp es ⟨1, 32, 0, 0, [wordA n]⟩ w1.heap.size _ ((HS.out.new HB.out).alloc _) (by omega) ht0 ht1 (heap_alloc_at _ _ _ rfl) (by omega) (by omega) (fun q => by have := HV1.out _ q.symm; omega)).mono ?_
  rintro e w2 ⟨v2, rfl, hs2, hk2, hg2⟩
  have HP : SimPost lo bs v tmp (es ++ [⟨1, 32, 0, 0, [wordA n]⟩]) (.bool true) w (.returned (.bool true)) w2 :=
    SimPost.trans (w1 := w1.alloc _) (((Kp.refl _ _ w).new HB.out).alloc _) (fun g hg => .inl hg) ⟨v2, rfl, hs2, hk2, hg2⟩
  have HP := Lib.hid HP
  clear hs2 hk2 hg2
  go_wp2
  go_ret
  exact HP.out
end Go.Proofs.Ytmkjgkldbonpnaa
