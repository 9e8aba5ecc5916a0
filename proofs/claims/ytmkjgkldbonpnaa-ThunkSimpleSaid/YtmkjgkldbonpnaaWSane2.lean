/- The law's sane: the chapter's examples. -/
import Derived.Test.YtmkjgkldbonpnaaWSame
import Derived.Test.YtmkjgkldbonpnaaWRefC
namespace Go.Proofs.Ytmkjgkldbonpnaa
open Go Go.RowKit Go.Cd
set_option linter.unusedVariables false

def saneT : List (Int × Int × Int × Int × Int) := [(1, 4294967295, 1, 0, 5), (1, 2147483647, 1, 0, 10), (2, 3, 5, 0, 6), (2, 5, 5, 0, 1), (2, 2147483648, 1, 0, 8), (4, 2147483649, 1, 0, 4), (6, 2147483649, 33, 0, 6), (5, 7, 0, 0, 0), (7, 4294967295, 0, 1, 5), (8, 0, 4294967295, 1, 5)]
def fiveC (e : Int × Int × Int × Int × Int) : List Value := [.int .u32 e.1, .int .u32 e.2.1, .int .u32 e.2.2.1, .int .u32 e.2.2.2.1, .int .i64 e.2.2.2.2]
theorem saneT_ok : ∀ e ∈ saneT, (0 ≤ e.1 ∧ e.1 < 4294967296) ∧ (0 ≤ e.2.1 ∧ e.2.1 < 4294967296) ∧ (0 ≤ e.2.2.1 ∧ e.2.2.1 < 4294967296) ∧ (0 ≤ e.2.2.2.1 ∧ e.2.2.2.1 < 4294967296) ∧ flagsF e.1 e.2.1 e.2.2.1 e.2.2.2.1 = e.2.2.2.2 := of_decide_eq_true (by kernel_rfl)
theorem five_get : ∀ (l : List (Int × Int × Int × Int × Int)) (k : Nat) (a : Int × Int × Int × Int × Int) (j : Nat) (u : Value), l[k]? = some a → (fiveC a)[j]? = some u → (l.flatMap fiveC)[k * 5 + j]? = some u
  | [], _, _, _, _, h, _ => by simp at h
  | x :: l, 0, a, j, u, h, hu => by
    have : x = a := by simpa using h
    subst this
    have hj : j < (fiveC x).length := (List.getElem?_eq_some_iff.1 hu).1
    rw [List.flatMap_cons, Nat.zero_mul, Nat.zero_add, List.getElem?_append_left hj]
    exact hu
  | x :: l, k + 1, a, j, u, h, hu => by
    rw [List.flatMap_cons, List.getElem?_append_right (by simp [fiveC]; omega), show (k + 1) * 5 + j - (fiveC x).length = k * 5 + j by simp [fiveC]; omega]
    exact five_get l k a j u (by simpa using h) hu
theorem five_cell {w : World} {b : Nat} {t : TypeId} (h : w.heap[b]? = some (.cells (saneT.flatMap fiveC).toArray t)) {k : Nat} {a : Int × Int × Int × Int × Int} (hk : saneT[k]? = some a) (j : Nat) (u : Value) (hu : (fiveC a)[j]? = some u) : w.cell? ⟨b, k * 5 + j, none⟩ = some u := by
  rw [cell_of_row w b _ _ _ _ h]
  simpa using five_get saneT k a j u hk hu
theorem eat_of {w : World} {g : Nat} {cs : Array Value} {t : TypeId} {i bl : Nat} {e : IExpr} (h : w.heap[g]? = some (.cells cs t)) (hb : w.heap[bl]? = some (.cells (atomsC e.l) 59))
    (h0 : cs[i * 5]? = some (.int .i64 e.kind)) (h1 : cs[i * 5 + 1]? = some (.int .i64 e.ty)) (h2 : cs[i * 5 + 2]? = some (.int .i64 e.op)) (h3 : cs[i * 5 + 3]? = some (.int .i64 e.off)) (h4 : cs[i * 5 + 4]? = some (.slice (some ⟨bl, 0, none⟩) e.l.length e.l.length)) : EAt w g i e bl := by
  refine ⟨fun j u hu => ?_, lt_of_heap h, hb⟩
  rw [cell_of_row w g _ _ _ _ h]
  match j, hu with
  | 0, hu => exact h0.trans hu
  | 1, hu => exact h1.trans hu
  | 2, hu => exact h2.trans hu
  | 3, hu => exact h3.trans hu
  | 4, hu => exact h4.trans hu
  | j + 5, hu => simp [exprC] at hu
attribute [local go_sem ↓] Go.wp_at_zero Go.wp_at_succ
set_option maxRecDepth 100000 in
set_option maxHeartbeats 4000000 in
theorem sane_c (w : World) : Calls Try.prog 12 #[] w fun e w' => e = .returned (.bool true) ∧ New w w' := by
  go_enter Try.func12, Try.ntmps12
  go_wp2_with fail
  have B0 := Lib.hid (heap_alloc_at w (.cells #[.int .u32 1, .int .u32 4294967295, .int .u32 1, .int .u32 0, .int .i64 5, .int .u32 1, .int .u32 2147483647, .int .u32 1, .int .u32 0, .int .i64 10, .int .u32 2, .int .u32 3, .int .u32 5, .int .u32 0, .int .i64 6, .int .u32 2, .int .u32 5, .int .u32 5, .int .u32 0, .int .i64 1, .int .u32 2, .int .u32 2147483648, .int .u32 1, .int .u32 0, .int .i64 8, .int .u32 4, .int .u32 2147483649, .int .u32 1, .int .u32 0, .int .i64 4, .int .u32 6, .int .u32 2147483649, .int .u32 33, .int .u32 0, .int .i64 6, .int .u32 5, .int .u32 7, .int .u32 0, .int .u32 0, .int .i64 0, .int .u32 7, .int .u32 4294967295, .int .u32 0, .int .u32 1, .int .i64 5, .int .u32 8, .int .u32 0, .int .u32 4294967295, .int .u32 1, .int .i64 5] 68) _ rfl)
  have N0 := Lib.hid ((New.refl w).alloc (Nat.le_refl _) (.cells #[.int .u32 1, .int .u32 4294967295, .int .u32 1, .int .u32 0, .int .i64 5, .int .u32 1, .int .u32 2147483647, .int .u32 1, .int .u32 0, .int .i64 10, .int .u32 2, .int .u32 3, .int .u32 5, .int .u32 0, .int .i64 6, .int .u32 2, .int .u32 5, .int .u32 5, .int .u32 0, .int .i64 1, .int .u32 2, .int .u32 2147483648, .int .u32 1, .int .u32 0, .int .i64 8, .int .u32 4, .int .u32 2147483649, .int .u32 1, .int .u32 0, .int .i64 4, .int .u32 6, .int .u32 2147483649, .int .u32 33, .int .u32 0, .int .i64 6, .int .u32 5, .int .u32 7, .int .u32 0, .int .u32 0, .int .i64 0, .int .u32 7, .int .u32 4294967295, .int .u32 0, .int .u32 1, .int .i64 5, .int .u32 8, .int .u32 0, .int .u32 4294967295, .int .u32 1, .int .i64 5] 68))
  generalize w.alloc (.cells #[.int .u32 1, .int .u32 4294967295, .int .u32 1, .int .u32 0, .int .i64 5, .int .u32 1, .int .u32 2147483647, .int .u32 1, .int .u32 0, .int .i64 10, .int .u32 2, .int .u32 3, .int .u32 5, .int .u32 0, .int .i64 6, .int .u32 2, .int .u32 5, .int .u32 5, .int .u32 0, .int .i64 1, .int .u32 2, .int .u32 2147483648, .int .u32 1, .int .u32 0, .int .i64 8, .int .u32 4, .int .u32 2147483649, .int .u32 1, .int .u32 0, .int .i64 4, .int .u32 6, .int .u32 2147483649, .int .u32 33, .int .u32 0, .int .i64 6, .int .u32 5, .int .u32 7, .int .u32 0, .int .u32 0, .int .i64 0, .int .u32 7, .int .u32 4294967295, .int .u32 0, .int .u32 1, .int .i64 5, .int .u32 8, .int .u32 0, .int .u32 4294967295, .int .u32 1, .int .i64 5] 68) = w0 at *
  go_loopw [23] (fun v w' => ∃ i : Nat, v = .int .i64 i ∧ i ≤ 10 ∧ New w0 w') (fun v w' => 10 - (intOf v).toNat)
  · exact ⟨0, rfl, by omega, New.refl _⟩
  · obtain ⟨i, rfl, hi, hw⟩ := hrel
    have hz := hw.size
    have hB := (hw.block _ (lt_of_heap B0.out)).trans B0.out
    have hlt := lt_of_heap hB
    by_cases hin : i < 10
    · obtain ⟨e, he⟩ : ∃ e, saneT[i]? = some e := ⟨_, List.getElem?_eq_getElem (show i < saneT.length from hin)⟩
      obtain ⟨⟨o1, o2⟩, ⟨a1, a2⟩, ⟨b1, b2⟩, ⟨c1, c2⟩, hf⟩ := saneT_ok e (List.mem_of_getElem? he)
      obtain ⟨op, d1, d2, d3, want⟩ := e
      dsimp only at o1 o2 a1 a2 b1 b2 c1 c2 hf
      have x0 : wr.cell? ⟨w.heap.size, i * 5, none⟩ = some (.int .u32 op) := five_cell hB he 0 _ rfl
      have x1 : wr.cell? ⟨w.heap.size, i * 5 + 1, none⟩ = some (.int .u32 d1) := five_cell hB he 1 _ rfl
      have x2 : wr.cell? ⟨w.heap.size, i * 5 + 2, none⟩ = some (.int .u32 d2) := five_cell hB he 2 _ rfl
      have x3 : wr.cell? ⟨w.heap.size, i * 5 + 3, none⟩ = some (.int .u32 d3) := five_cell hB he 3 _ rfl
      have x4 : wr.cell? ⟨w.heap.size, i * 5 + 4, none⟩ = some (.int .i64 want) := five_cell hB he 4 _ rfl
      go_wp2_with fail
      go_region_held3 (fun w' => w'.cell? ⟨wr.heap.size, 0, none⟩ = some (.int .u32 op) ∧ w'.cell? ⟨wr.heap.size, 1, none⟩ = some (.int .u32 d1) ∧ w'.cell? ⟨wr.heap.size, 2, none⟩ = some (.int .u32 d2) ∧ w'.cell? ⟨wr.heap.size, 3, none⟩ = some (.int .u32 d3) ∧ w'.cell? ⟨wr.heap.size, 4, none⟩ = some (.int .i64 want) ∧ wr.heap.size < w'.heap.size ∧ New wr w') (((try dsimp only); (repeat' apply And.intro) <;> (first | go_keep | omega | go_grown)))
        (first | (go_at_call 19; refine (tflags_c op d1 d2 d3 _ o1 o2 a1 a2 b1 b2 c1 c2).mono ?_; rintro e w1 ⟨rfl, hb1⟩; obtain ⟨hc1, hf1, hz1⟩ := bcell3 hb1; (try simp only [World.size_alloc, World.size_drew] at hz1); have hn1 : New wr w1 := Below.trans (by go_grown) (hb1.mono (by simp))))
      have hn : New wr w1 := by assumption
      rw [hf] at *
      clear hc1 hf1
      go_wp2
      go_roundw
      case rel => exact ⟨i + 1, by simp, by omega, hw.trans (hn.mono hz)⟩
      case measure => simp [intOf]; omega
    · have NW := Lib.hid (N0.out.trans (hw.mono N0.out.size))
      clear hw hz hB hlt
      go_wp2_with fail
      refine (cond_c 12 2 4294967295 1 0 _ (by decide) (by decide) (by decide) (by decide) (by decide) (by decide) (by decide) (by decide)).mono ?_
      rw [show condF 12 2 4294967295 1 0 = true from by kernel_rfl]
      rintro e w1 ⟨rfl, hb1⟩
      have N1 := Lib.hid (NW.out.trans (hb1.mono NW.out.size))
      clear hb1
      go_wp2_with fail
      refine (cond_c 8 2 4294967295 1 0 _ (by decide) (by decide) (by decide) (by decide) (by decide) (by decide) (by decide) (by decide)).mono ?_
      rw [show condF 8 2 4294967295 1 0 = false from by kernel_rfl]
      rintro e w2 ⟨rfl, hb2⟩
      have N2 := Lib.hid (N1.out.trans (hb2.mono N1.out.size))
      clear hb2
      go_wp2_with fail
      refine (inverse_c 2 _).mono ?_
      rw [show invF 2 = 3 from by kernel_rfl]
      rintro e _ ⟨rfl, rfl⟩
      go_wp2_with fail
      refine (inverse_c 16 _).mono ?_
      rw [show invF 16 = -1 from by kernel_rfl]
      rintro e _ ⟨rfl, rfl⟩
      go_wp2_with fail
      refine (uses_c 12 _).mono ?_
      rw [show usesF 12 = 11 from by kernel_rfl]
      rintro e w3 ⟨rfl, hb3⟩
      have N3 := Lib.hid (N2.out.trans (hb3.mono N2.out.size))
      clear hb3
      go_wp2_with fail
      refine (uses_c 14 _).mono ?_
      rw [show usesF 14 = 0 from by kernel_rfl]
      rintro e w4 ⟨rfl, hb4⟩
      have N4 := Lib.hid (N3.out.trans (hb4.mono N3.out.size))
      clear hb4
      go_wp2_with fail
      refine (tnormal_c 8 7 0 2 _ (by decide) (by decide) (by decide) (by decide) (by decide) (by decide)).mono ?_
      rw [show normF 8 7 0 2 = (3, 7, 0, 0) from by kernel_rfl]
      rintro e w5 ⟨rfl, hb5⟩
      have N5 := Lib.hid (N4.out.trans (hb5.mono N4.out.size))
      clear hb5
      go_wp2_with fail
      refine (lword_c 10 _).mono ?_
      rintro e w6 ⟨rfl, hb6⟩
      have N6 := Lib.hid (N5.out.trans (hb6.mono N5.out.size))
      clear hb6
      unfold wordA Atom.val
      dsimp only
      go_wp2_with fail
      refine (lword_c 2 _).mono ?_
      rintro e w7 ⟨rfl, hb7⟩
      have N7 := Lib.hid (N6.out.trans (hb7.mono N6.out.size))
      clear hb7
      unfold wordA Atom.val
      dsimp only
      go_wp2_with fail
      refine (lword_c 0 _).mono ?_
      rintro e w8 ⟨rfl, hb8⟩
      have N8 := Lib.hid (N7.out.trans (hb8.mono N7.out.size))
      clear hb8
      unfold wordA Atom.val
      dsimp only
      go_wp2_with fail
      refine (simplify_sane w8.heap.size _ (heap_alloc_at _ _ _ rfl)).mono ?_
      rintro e w9 ⟨v, rfl, hx, hb9⟩
      have N9 := Lib.hid ((N8.out.alloc N8.out.size _).trans (hb9.mono (N8.out.alloc N8.out.size _).size))
      obtain ⟨a, ca, rfl, ra⟩ := hx.rows
      have R9 := Lib.hid ra
      clear hb9 hx ra
      go_wp2_with fail
      refine (same_r a (some ⟨w9.heap.size + 1 + 1 + 1 + 1, 0, none⟩) ca 2 (cmpE 17 false (tmpA 5) (tmpA 6) 9 0) _ (R9.out.new (by go_grown)) ?_ (by decide) (by decide)).mono ?_
      · intro i e hi
        match i, hi with
        | 0, hi =>
          have he : (⟨4, 1, 17, 0, [tmpA 5, tmpA 6]⟩ : IExpr) = e := Option.some.inj hi
          subst he
          exact ⟨_, w9.heap.size, rfl, eat_of (heap_alloc_at _ _ _ (by simp only [World.size_alloc])) (heap_keep (heap_keep (heap_keep (heap_keep (heap_alloc_at _ _ _ rfl))))) rfl rfl rfl rfl rfl⟩
        | 1, hi =>
          have he : (⟨3, 32, 2, 0, [tmpA 9]⟩ : IExpr) = e := Option.some.inj hi
          subst he
          exact ⟨_, w9.heap.size + 1 + 1, rfl, eat_of (heap_alloc_at _ _ _ (by simp only [World.size_alloc])) (heap_keep (heap_keep (heap_alloc_at _ _ _ (by simp only [World.size_alloc])))) rfl rfl rfl rfl rfl⟩
        | i + 2, hi => cases hi
      · rintro e w10 ⟨rfl, hb10⟩
        have N10 := Lib.hid (N9.out.trans ((show New w9 w10 from Below.trans (by go_grown) (hb10.mono (by simp only [World.size_alloc]; omega))).mono N9.out.size))
        clear hb10
        go_wp2
        go_ret
        exact ⟨rfl, N10.out⟩
end Go.Proofs.Ytmkjgkldbonpnaa
