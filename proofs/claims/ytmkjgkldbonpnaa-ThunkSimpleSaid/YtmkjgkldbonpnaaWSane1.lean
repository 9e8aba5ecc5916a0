/- thunk.Simplify at the example that the laws look at first. -/
import Derived.Test.YtmkjgkldbonpnaaWSimp
namespace Go.Proofs.Ytmkjgkldbonpnaa
open Go Go.RowKit Go.Cd
set_option linter.unusedVariables false

def saneL : List Atom := [wordA 10, wordA 2, tmpA 5, tmpA 6, wordA 0]
/-- A slice's value that reads as expressions, in blocks from lo on. -/
def ExprsAt (w : World) (lo : Nat) (v : Value) (es : List IExpr) : Prop := ∃ bs xs, w.ownsRow lo 64 5 v es.length xs ∧ Elems w lo bs v.ownBlock es xs
def SanePost (w : World) (e : Ending) (w' : World) : Prop := ∃ v, e = .returned (.tuple #[v, .bool true]) ∧ ExprsAt w' w.heap.size v (cmpE 17 false (tmpA 5) (tmpA 6) 9 0) ∧ New w w'
theorem sim_start (w : World) (lo : Nat) (hl : lo ≤ w.heap.size) : SimE (w.alloc (.cells #[.slice none 0 0, .int .i64 9] 76)) lo w.heap.size (.slice none 0 0) 9 [] :=
  ⟨⟨[], ⟨heap_alloc_at _ _ _ rfl, World.ownsRow_nil _ _ _ _, by simp; omega, by simp [Value.ownBlock]⟩, .nil⟩, hl⟩
theorem kp_new {lo bs : Nat} {v : Value} {w w1 w' : World} (hn : New w w1) (hl : lo = w.heap.size) (hb : lo ≤ bs) (hv : ∀ g, v.ownBlock = some g → lo ≤ g) (hk : Kp bs v.ownBlock w1 w') : New w w' :=
  ⟨hk.os.trans hn.os, hk.tape.trans hn.tape, hk.output.trans hn.output, Nat.le_trans hn.size hk.size, fun k h => (hk.block k (Nat.lt_of_lt_of_le h hn.size) (by omega) (fun q => by have := hv k q.symm; omega)).trans (hn.block k h)⟩
attribute [local go_sem ↓] Go.wp_at_zero Go.wp_at_succ
set_option maxRecDepth 100000 in
set_option maxHeartbeats 4000000 in
theorem simplify_sane (bl : Nat) (w : World) (h : w.heap[bl]? = some (.cells (atomsC saneL) 59)) :
    Calls Try.prog 13 #[.slice (some ⟨bl, 0, none⟩) 5 5, .int .i64 9] w (SanePost w) := by
  have hbl := lt_of_heap h
  have q0 : w.cell? ⟨bl, 0, none⟩ = some (.int .i64 (-1)) := cell_of_heap h rfl
  have q1 : w.cell? ⟨bl, 1, none⟩ = some (.int .i64 32) := cell_of_heap h rfl
  have q2 : w.cell? ⟨bl, 2, none⟩ = some (.int .u32 10) := cell_of_heap h rfl
  have q3 : w.cell? ⟨bl, 3, none⟩ = some (.int .u32 0) := cell_of_heap h rfl
  have q4 : w.cell? ⟨bl, 4, none⟩ = some (.int .u32 0) := cell_of_heap h rfl
  have q5 : w.cell? ⟨bl, 5, none⟩ = some (.int .u32 0) := cell_of_heap h rfl
  have q6 : w.cell? ⟨bl, 6, none⟩ = some (.int .i64 (-1)) := cell_of_heap h rfl
  have q7 : w.cell? ⟨bl, 7, none⟩ = some (.int .i64 32) := cell_of_heap h rfl
  have q8 : w.cell? ⟨bl, 8, none⟩ = some (.int .u32 2) := cell_of_heap h rfl
  have q9 : w.cell? ⟨bl, 9, none⟩ = some (.int .u32 0) := cell_of_heap h rfl
  have q10 : w.cell? ⟨bl, 10, none⟩ = some (.int .u32 0) := cell_of_heap h rfl
  have q11 : w.cell? ⟨bl, 11, none⟩ = some (.int .u32 0) := cell_of_heap h rfl
  have q12 : w.cell? ⟨bl, 12, none⟩ = some (.int .i64 5) := cell_of_heap h rfl
  have q13 : w.cell? ⟨bl, 13, none⟩ = some (.int .i64 0) := cell_of_heap h rfl
  have q14 : w.cell? ⟨bl, 14, none⟩ = some (.int .u32 0) := cell_of_heap h rfl
  have q15 : w.cell? ⟨bl, 15, none⟩ = some (.int .u32 0) := cell_of_heap h rfl
  have q16 : w.cell? ⟨bl, 16, none⟩ = some (.int .u32 0) := cell_of_heap h rfl
  have q17 : w.cell? ⟨bl, 17, none⟩ = some (.int .u32 0) := cell_of_heap h rfl
  have q18 : w.cell? ⟨bl, 18, none⟩ = some (.int .i64 6) := cell_of_heap h rfl
  have q19 : w.cell? ⟨bl, 19, none⟩ = some (.int .i64 0) := cell_of_heap h rfl
  have q20 : w.cell? ⟨bl, 20, none⟩ = some (.int .u32 0) := cell_of_heap h rfl
  have q21 : w.cell? ⟨bl, 21, none⟩ = some (.int .u32 0) := cell_of_heap h rfl
  have q22 : w.cell? ⟨bl, 22, none⟩ = some (.int .u32 0) := cell_of_heap h rfl
  have q23 : w.cell? ⟨bl, 23, none⟩ = some (.int .u32 0) := cell_of_heap h rfl
  have q24 : w.cell? ⟨bl, 24, none⟩ = some (.int .i64 (-1)) := cell_of_heap h rfl
  have q25 : w.cell? ⟨bl, 25, none⟩ = some (.int .i64 32) := cell_of_heap h rfl
  have q26 : w.cell? ⟨bl, 26, none⟩ = some (.int .u32 0) := cell_of_heap h rfl
  have q27 : w.cell? ⟨bl, 27, none⟩ = some (.int .u32 0) := cell_of_heap h rfl
  have q28 : w.cell? ⟨bl, 28, none⟩ = some (.int .u32 0) := cell_of_heap h rfl
  have q29 : w.cell? ⟨bl, 29, none⟩ = some (.int .u32 0) := cell_of_heap h rfl
  have HH := Lib.hid h
  clear h
  go_enter Try.func13, Try.ntmps13
  go_wp2_with fail
  refine wp_loop_rounds 6 ?_
  rw [rounds_succ]
  go_wp2_with fail
  refine (isword_c (wordA 10) _).mono ?_
  rw [show isW (wordA 10) = true from rfl]
  rintro e w1 ⟨rfl, hb1⟩
  obtain ⟨hc1, hf1, hz1⟩ := bcell3 hb1
  simp only [World.size_alloc] at hc1 hf1 hz1
  have N1 := Lib.hid (show New w w1 from Below.trans ((Below.refl _ _).alloc (Nat.le_refl _) _) (hb1.mono (by simp only [World.size_alloc]; omega)))
  clear hb1
  have p1 : bl < w1.heap.size := by omega
  have p1' : bl < w1.heap.size + 1 := by omega
  go_wp2_with fail
  rw [rounds_succ]
  go_wp2_with fail
  refine (isword_c (wordA 2) _).mono ?_
  rw [show isW (wordA 2) = true from rfl]
  rintro e w2 ⟨rfl, hb2⟩
  obtain ⟨hc2, hf2, hz2⟩ := bcell3 hb2
  simp only [World.size_alloc] at hc2 hf2 hz2
  have N2 := Lib.hid (show New w w2 from Below.trans (N1.out.alloc (by omega) _) (hb2.mono (by simp only [World.size_alloc]; omega)))
  clear hb2
  have p2 : bl < w2.heap.size := by omega
  have p2' : bl < w2.heap.size + 1 := by omega
  go_wp2_with fail
  rw [rounds_succ]
  go_wp2_with fail
  refine (isword_c (tmpA 5) _).mono ?_
  rw [show isW (tmpA 5) = true from rfl]
  rintro e w3 ⟨rfl, hb3⟩
  obtain ⟨hc3, hf3, hz3⟩ := bcell3 hb3
  simp only [World.size_alloc] at hc3 hf3 hz3
  have N3 := Lib.hid (show New w w3 from Below.trans (N2.out.alloc (by omega) _) (hb3.mono (by simp only [World.size_alloc]; omega)))
  clear hb3
  have p3 : bl < w3.heap.size := by omega
  have p3' : bl < w3.heap.size + 1 := by omega
  go_wp2_with fail
  rw [rounds_succ]
  go_wp2_with fail
  refine (isword_c (tmpA 6) _).mono ?_
  rw [show isW (tmpA 6) = true from rfl]
  rintro e w4 ⟨rfl, hb4⟩
  obtain ⟨hc4, hf4, hz4⟩ := bcell3 hb4
  simp only [World.size_alloc] at hc4 hf4 hz4
  have N4 := Lib.hid (show New w w4 from Below.trans (N3.out.alloc (by omega) _) (hb4.mono (by simp only [World.size_alloc]; omega)))
  clear hb4
  have p4 : bl < w4.heap.size := by omega
  have p4' : bl < w4.heap.size + 1 := by omega
  go_wp2_with fail
  rw [rounds_succ]
  go_wp2_with fail
  refine (isword_c (wordA 0) _).mono ?_
  rw [show isW (wordA 0) = true from rfl]
  rintro e w5 ⟨rfl, hb5⟩
  obtain ⟨hc5, hf5, hz5⟩ := bcell3 hb5
  simp only [World.size_alloc] at hc5 hf5 hz5
  have N5 := Lib.hid (show New w w5 from Below.trans (N4.out.alloc (by omega) _) (hb5.mono (by simp only [World.size_alloc]; omega)))
  clear hb5
  have p5 : bl < w5.heap.size := by omega
  have p5' : bl < w5.heap.size + 1 := by omega
  go_wp2_with fail
  have B5 := (N5.out.block bl hbl).trans HH.out
  have BA := Lib.hid (heap_keep (o := (.cells #[.slice none 0 0, .int .i64 9] 76)) B5)
  have SA := Lib.hid (sim_start w5 w.heap.size N5.out.size)
  have NA := Lib.hid (N5.out.alloc N5.out.size (.cells #[.slice none 0 0, .int .i64 9] 76))
  rw [rounds_succ]
  go_wp2_with fail
  generalize w5.alloc (.cells #[.slice none 0 0, .int .i64 9] 76) = wA at *
  have hz0 := hbl
  have hbs : w.heap.size ≤ w5.heap.size := N5.out.size
  generalize w5.heap.size = bs at *
  clear q0 q1 q2 q3 q4 q5 q6 q7 q8 q9 q10 q11 q12 q13 q14 q15 q16 q17 q18 q19 q20 q21 q22 q23 q24 q25 q26 q27 q28 q29 hc1 hf1 hz1 N1 p1 p1' hc2 hf2 hz2 N2 p2 p2' hc3 hf3 hz3 N3 p3 p3' hc4 hf4 hz4 N4 p4 p4' hc5 hf5 hz5 N5 p5 p5' B5
  have pA : bl < wA.heap.size := lt_of_heap BA.out
  have q0 : wA.cell? ⟨bl, 0, none⟩ = some (.int .i64 (-1)) := cell_of_heap BA.out rfl
  have q1 : wA.cell? ⟨bl, 1, none⟩ = some (.int .i64 32) := cell_of_heap BA.out rfl
  have q2 : wA.cell? ⟨bl, 2, none⟩ = some (.int .u32 10) := cell_of_heap BA.out rfl
  have q3 : wA.cell? ⟨bl, 3, none⟩ = some (.int .u32 0) := cell_of_heap BA.out rfl
  have q4 : wA.cell? ⟨bl, 4, none⟩ = some (.int .u32 0) := cell_of_heap BA.out rfl
  have q5 : wA.cell? ⟨bl, 5, none⟩ = some (.int .u32 0) := cell_of_heap BA.out rfl
  have q6 : wA.cell? ⟨bl, 6, none⟩ = some (.int .i64 (-1)) := cell_of_heap BA.out rfl
  have q7 : wA.cell? ⟨bl, 7, none⟩ = some (.int .i64 32) := cell_of_heap BA.out rfl
  have q8 : wA.cell? ⟨bl, 8, none⟩ = some (.int .u32 2) := cell_of_heap BA.out rfl
  have q9 : wA.cell? ⟨bl, 9, none⟩ = some (.int .u32 0) := cell_of_heap BA.out rfl
  have q10 : wA.cell? ⟨bl, 10, none⟩ = some (.int .u32 0) := cell_of_heap BA.out rfl
  have q11 : wA.cell? ⟨bl, 11, none⟩ = some (.int .u32 0) := cell_of_heap BA.out rfl
  have q12 : wA.cell? ⟨bl, 12, none⟩ = some (.int .i64 5) := cell_of_heap BA.out rfl
  have q13 : wA.cell? ⟨bl, 13, none⟩ = some (.int .i64 0) := cell_of_heap BA.out rfl
  have q14 : wA.cell? ⟨bl, 14, none⟩ = some (.int .u32 0) := cell_of_heap BA.out rfl
  have q15 : wA.cell? ⟨bl, 15, none⟩ = some (.int .u32 0) := cell_of_heap BA.out rfl
  have q16 : wA.cell? ⟨bl, 16, none⟩ = some (.int .u32 0) := cell_of_heap BA.out rfl
  have q17 : wA.cell? ⟨bl, 17, none⟩ = some (.int .u32 0) := cell_of_heap BA.out rfl
  have q18 : wA.cell? ⟨bl, 18, none⟩ = some (.int .i64 6) := cell_of_heap BA.out rfl
  have q19 : wA.cell? ⟨bl, 19, none⟩ = some (.int .i64 0) := cell_of_heap BA.out rfl
  have q20 : wA.cell? ⟨bl, 20, none⟩ = some (.int .u32 0) := cell_of_heap BA.out rfl
  have q21 : wA.cell? ⟨bl, 21, none⟩ = some (.int .u32 0) := cell_of_heap BA.out rfl
  have q22 : wA.cell? ⟨bl, 22, none⟩ = some (.int .u32 0) := cell_of_heap BA.out rfl
  have q23 : wA.cell? ⟨bl, 23, none⟩ = some (.int .u32 0) := cell_of_heap BA.out rfl
  have q24 : wA.cell? ⟨bl, 24, none⟩ = some (.int .i64 (-1)) := cell_of_heap BA.out rfl
  have q25 : wA.cell? ⟨bl, 25, none⟩ = some (.int .i64 32) := cell_of_heap BA.out rfl
  have q26 : wA.cell? ⟨bl, 26, none⟩ = some (.int .u32 0) := cell_of_heap BA.out rfl
  have q27 : wA.cell? ⟨bl, 27, none⟩ = some (.int .u32 0) := cell_of_heap BA.out rfl
  have q28 : wA.cell? ⟨bl, 28, none⟩ = some (.int .u32 0) := cell_of_heap BA.out rfl
  have q29 : wA.cell? ⟨bl, 29, none⟩ = some (.int .u32 0) := cell_of_heap BA.out rfl
  go_quiet (fail)
  go_wp2_with fail
  have hd : New wA (wA.drewN nq) := below_drewN (Below.refl _ _) nq
  have BB := (hd.block bl pA).trans BA.out
  have SB := Lib.hid (SA.out.new hd)
  have NB := Lib.hid (NA.out.trans (hd.mono NA.out.size))
  generalize wA.drewN nq = wB at *
  clear hd
  clear q12
  clear q13
  clear q14
  clear q15
  clear q16
  clear q17
  clear q18
  clear q19
  clear q20
  clear q21
  clear q22
  clear q23
  clear q0
  clear q1
  clear q2
  clear q3
  clear q4
  clear q5
  clear q6
  clear q7
  clear q8
  clear q9
  clear q10
  clear q11
  clear q24
  clear q25
  clear q26
  clear q27
  clear q28
  clear q29
  have q0 : wB.cell? ⟨bl, 0, none⟩ = some (.int .i64 (-1)) := cell_of_heap BB rfl
  have q1 : wB.cell? ⟨bl, 1, none⟩ = some (.int .i64 32) := cell_of_heap BB rfl
  have q2 : wB.cell? ⟨bl, 2, none⟩ = some (.int .u32 10) := cell_of_heap BB rfl
  have q3 : wB.cell? ⟨bl, 3, none⟩ = some (.int .u32 0) := cell_of_heap BB rfl
  have q4 : wB.cell? ⟨bl, 4, none⟩ = some (.int .u32 0) := cell_of_heap BB rfl
  have q5 : wB.cell? ⟨bl, 5, none⟩ = some (.int .u32 0) := cell_of_heap BB rfl
  have q6 : wB.cell? ⟨bl, 6, none⟩ = some (.int .i64 (-1)) := cell_of_heap BB rfl
  have q7 : wB.cell? ⟨bl, 7, none⟩ = some (.int .i64 32) := cell_of_heap BB rfl
  have q8 : wB.cell? ⟨bl, 8, none⟩ = some (.int .u32 2) := cell_of_heap BB rfl
  have q9 : wB.cell? ⟨bl, 9, none⟩ = some (.int .u32 0) := cell_of_heap BB rfl
  have q10 : wB.cell? ⟨bl, 10, none⟩ = some (.int .u32 0) := cell_of_heap BB rfl
  have q11 : wB.cell? ⟨bl, 11, none⟩ = some (.int .u32 0) := cell_of_heap BB rfl
  have q12 : wB.cell? ⟨bl, 12, none⟩ = some (.int .i64 5) := cell_of_heap BB rfl
  have q13 : wB.cell? ⟨bl, 13, none⟩ = some (.int .i64 0) := cell_of_heap BB rfl
  have q14 : wB.cell? ⟨bl, 14, none⟩ = some (.int .u32 0) := cell_of_heap BB rfl
  have q15 : wB.cell? ⟨bl, 15, none⟩ = some (.int .u32 0) := cell_of_heap BB rfl
  have q16 : wB.cell? ⟨bl, 16, none⟩ = some (.int .u32 0) := cell_of_heap BB rfl
  have q17 : wB.cell? ⟨bl, 17, none⟩ = some (.int .u32 0) := cell_of_heap BB rfl
  have q18 : wB.cell? ⟨bl, 18, none⟩ = some (.int .i64 6) := cell_of_heap BB rfl
  have q19 : wB.cell? ⟨bl, 19, none⟩ = some (.int .i64 0) := cell_of_heap BB rfl
  have q20 : wB.cell? ⟨bl, 20, none⟩ = some (.int .u32 0) := cell_of_heap BB rfl
  have q21 : wB.cell? ⟨bl, 21, none⟩ = some (.int .u32 0) := cell_of_heap BB rfl
  have q22 : wB.cell? ⟨bl, 22, none⟩ = some (.int .u32 0) := cell_of_heap BB rfl
  have q23 : wB.cell? ⟨bl, 23, none⟩ = some (.int .u32 0) := cell_of_heap BB rfl
  have q24 : wB.cell? ⟨bl, 24, none⟩ = some (.int .i64 (-1)) := cell_of_heap BB rfl
  have q25 : wB.cell? ⟨bl, 25, none⟩ = some (.int .i64 32) := cell_of_heap BB rfl
  have q26 : wB.cell? ⟨bl, 26, none⟩ = some (.int .u32 0) := cell_of_heap BB rfl
  have q27 : wB.cell? ⟨bl, 27, none⟩ = some (.int .u32 0) := cell_of_heap BB rfl
  have q28 : wB.cell? ⟨bl, 28, none⟩ = some (.int .u32 0) := cell_of_heap BB rfl
  have q29 : wB.cell? ⟨bl, 29, none⟩ = some (.int .u32 0) := cell_of_heap BB rfl
  have pB : bl < wB.heap.size := lt_of_heap BB
  clear pA
  go_still_tail 16, (by kernel_rfl)
  change wpList _ _ _ _ _ wB.drew
  have hd : New wB wB.drew := (Below.refl _ _).drew
  have SC := Lib.hid (SB.out.new hd)
  have NC := Lib.hid (NB.out.trans (hd.mono NB.out.size))
  clear hd BB
  clear q0 q1 q2 q3 q4 q5 q6 q7 q8 q9 q10 q11 q12 q13 q14 q15 q16 q17 q18 q19 q20 q21 q22 q23 q24 q25 q26 q27 q28 q29
  generalize wB.drew = wC at *
  go_wp2_with fail
  refine (simplified_sub w.heap.size bs (.slice none 0 0) 9 [] 10 (tmpA 5) (tmpA 6) _ SC.out (by decide) (by decide) (by decide)).mono ?_
  rintro e wD hp
  obtain ⟨v1, rfl, h1, h2, h3⟩ := hp
  have h1' := h1
  obtain ⟨⟨xs, hs, he⟩, hl⟩ := h1
  have c0 : wD.cell? ⟨bs, 0, none⟩ = some v1 := cell_of_heap hs.heap rfl
  have hD := hs.lt
  have X := Lib.hid (show SanePost w (.returned (.tuple #[v1, .bool true])) wD from ⟨v1, rfl, ⟨bs, xs, hs.own, he⟩, kp_new NC.out rfl hbs (by simp [Value.ownBlock]) h2⟩)
  clear h2 h3 h1' hl hs he
  go_wp2
  exact bodyPost_ret (v := .tuple #[v1, .bool true]) (by simp [results, Try.results13, go_sem]) rfl X.out
end Go.Proofs.Ytmkjgkldbonpnaa
