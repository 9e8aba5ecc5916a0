/- Contracts of the simplifier's add, bin, is, fixed. -/
import Derived.Test.YtmkjgkldbonpnaaRows
import Derived.Test.YtmkjgkldbonpnaaKitMap
import Derived.Deep.AppendLies
import Derived.OneCell
namespace Go.Proofs.Ytmkjgkldbonpnaa
open Go Go.RowKit Go.Cd
set_option linter.unusedVariables false

/-- All but block bs and a row is as it was. -/
structure Kp (bs : Nat) (row : Option Nat) (w w' : World) : Prop where
  os : w'.os = w.os
  tape : w'.tape = w.tape
  output : w'.output = w.output
  size : w.heap.size ≤ w'.heap.size
  block : ∀ k, k < w.heap.size → k ≠ bs → some k ≠ row → w'.heap[k]? = w.heap[k]?

/-- A world that is another but for one block's cells. -/
structure Only (r : Nat) (w w' : World) : Prop where
  size : w'.heap.size = w.heap.size
  os : w'.os = w.os
  tape : w'.tape = w.tape
  output : w'.output = w.output
  block : ∀ k, k ≠ r → w'.heap[k]? = w.heap[k]?
theorem Kp.sets {bs r : Nat} {row : Option Nat} {a b c : World} (h : Kp bs row a b) (k : Only r b c) (hr : a.heap.size ≤ r := by omega) : Kp bs row a c :=
  ⟨k.os.trans h.os, k.tape.trans h.tape, k.output.trans h.output, by rw [k.size]; exact h.size, fun x hx h1 h2 => (k.block x (by omega)).trans (h.block x hx h1 h2)⟩
theorem heap3_old (w : World) (A B C : Obj) (k : Nat) (hk : k < w.heap.size) : (((w.alloc A).alloc B).alloc C).heap[k]? = w.heap[k]? := by
  rw [(MapKept.heap_alloc _ _).2 k (by simp; omega), (MapKept.heap_alloc _ _).2 k (by simp; omega), (MapKept.heap_alloc _ _).2 k hk]
theorem heap3_mid (w : World) (A B C : Obj) : (((w.alloc A).alloc B).alloc C).heap[w.heap.size + 1]? = some B := by
  rw [(MapKept.heap_alloc _ _).2 _ (by simp)]
  exact heap_alloc_at _ _ _ (by simp)
theorem cell_of_heap {w : World} {b i : Nat} {c : Array Value} {t : TypeId} {v : Value} (h : w.heap[b]? = some (.cells c t)) (hc : c[i]? = some v) : w.cell? ⟨b, i, none⟩ = some v := by
  simp [World.cell?, h, hc]
theorem frozen_of_heap {w : World} {b i : Nat} {c : Array Value} {t : TypeId} (h : w.heap[b]? = some (.cells c t)) : w.frozen? ⟨b, i, none⟩ = false := by
  simp [World.frozen?, h]
theorem infoE : (Try.prog.info? 64).map (fun i => (i.zero, i.size, i.bytes)) = some (some (.agg #[.int .i64 0, .int .i64 0, .int .i64 0, .int .i64 0, .slice none 0 0]), 5, 56) := by kernel_rfl
/-- What adding an expression leaves. -/
def AddPost (base bs n : Nat) (v : Value) (xs new : List Value) (tmp : Int) (w : World) (e : Ending) (w' : World) : Prop :=
  ∃ g cap, e = .returned (.agg #[.int .i64 (tmp + n), .int .i64 0, .int .u32 0, .int .u32 0, .int .u32 0, .int .u32 0]) ∧
    w'.heap[bs]? = some (.cells #[.slice (some ⟨g, 0, none⟩) (n + 1) cap, .int .i64 tmp] 76) ∧
    w'.ownsRow base 64 5 (.slice (some ⟨g, 0, none⟩) (n + 1) cap) (n + 1) (xs ++ new) ∧ (v.ownBlock = some g ∨ w.heap.size ≤ g) ∧ Kp bs v.ownBlock w w'
theorem heap_setCell_ne (w : World) (a : Addr) (u : Value) (k : Nat) (h : k ≠ a.block) : (w.setCell a u).heap[k]? = w.heap[k]? := Below.heap_setCell w a u k h
theorem heap_setCell_0 {w : World} {b : Nat} {x y u : Value} {t : TypeId} (h : w.heap[b]? = some (.cells #[x, y] t)) : (w.setCell ⟨b, 0, none⟩ u).heap[b]? = some (.cells #[u, y] t) := by
  simp [World.setCell, Array.getElem?_modify, h]
theorem os_drew (w : World) : w.drew.os = w.os := by unfold World.drew; rfl
theorem tape_drew (w : World) : w.drew.tape = w.tape := by unfold World.drew; rfl
theorem output_drew (w : World) : w.drew.output = w.output := by unfold World.drew; rfl
theorem os_setCell (w : World) (a : Addr) (v : Value) : (w.setCell a v).os = w.os := by unfold World.setCell; rfl
theorem tape_setCell (w : World) (a : Addr) (v : Value) : (w.setCell a v).tape = w.tape := by unfold World.setCell; rfl
theorem output_setCell (w : World) (a : Addr) (v : Value) : (w.setCell a v).output = w.output := by unfold World.setCell; rfl
theorem heap_drew (w : World) : w.drew.heap = w.heap := rfl
theorem ownsRow_drew {w : World} {base : Nat} {e : TypeId} {size : Nat} {v : Value} {n : Nat} {xs : List Value} (h : w.ownsRow base e size v n xs) : w.drew.ownsRow base e size v n xs := h
theorem heap_set_at {w : World} {b : Nat} {c : Array Value} {t : TypeId} (h : w.heap[b]? = some (.cells c t)) (i : Nat) (u : Value) : (w.setCell ⟨b, i, none⟩ u).heap[b]? = some (.cells (c.setIfInBounds i u) t) := by
  simp [World.setCell, Array.getElem?_modify, h]
attribute [local go_sem ↓] Go.wp_at_zero Go.wp_at_succ
set_option maxRecDepth 100000 in
set_option maxHeartbeats 1000000 in
theorem add_c (base bs n : Nat) (v lv : Value) (xs : List Value) (tmp k ty op off : Int) (w : World) (hs : w.heap[bs]? = some (.cells #[v, .int .i64 tmp] 76)) (hown : w.ownsRow base 64 5 v n xs) (hbase : base ≤ w.heap.size) (hv : v.ownBlock ≠ some bs) (hn : n ≤ 1000) (ht0 : 0 ≤ tmp) (ht1 : tmp ≤ 10000) (hl : ∃ a b c, lv = .slice a b c) :
    Calls Try.prog 69 #[.pointer (some ⟨bs, 0, none⟩), .agg #[.int .i64 k, .int .i64 ty, .int .i64 op, .int .i64 off, lv]] w fun e w' => AddPost base bs n v xs [.int .i64 k, .int .i64 ty, .int .i64 op, .int .i64 off, lv] tmp w e w' := by
  obtain ⟨i0, hi, hz0, hz1, hz2⟩ := info_parts infoE
  have hc0 : w.cell? ⟨bs, 0, none⟩ = some v := by simp [World.cell?, hs]
  have hc1 : w.cell? ⟨bs, 1, none⟩ = some (.int .i64 tmp) := by simp [World.cell?, hs]
  have hf0 : w.frozen? ⟨bs, 0, none⟩ = false := by simp [World.frozen?, hs]
  obtain ⟨la, lb, lc, rfl⟩ := hl
  have hbw : bs < w.heap.size := by
    rcases Nat.lt_or_ge bs w.heap.size with h | h
    · exact h
    · rw [Array.getElem?_eq_none h] at hs; cases hs
  have hbw1 : bs < w.heap.size + 1 := by omega
  have hbw2 : bs < w.heap.size + 1 + 1 := by omega
  have hbw3 : bs < w.heap.size + 1 + 1 + 1 := by omega
  have Hs := Lib.hid hs
  clear hs
  go_enter Try.func69, Try.ntmps69
  go_wp2_with fail
  go_region_law (refine step_append_lies _ (by rfl) _ _ _ (by rfl) base 64 i0 (.agg #[.int .i64 0, .int .i64 0, .int .i64 0, .int .i64 0, .slice none 0 0]) 5 56 Try.underlying24 hi hz0 hz1 hz2 rfl (by omega) v n xs (by rfl) ?hown ⟨w.heap.size + 2, 0, none⟩ 1 1 [.int .i64 k, .int .i64 ty, .int .i64 op, .int .i64 off, .slice la lb lc] (by rfl) (by rfl) ?hnews ?h1 (by omega) ?h63 ?hbytes ?hbase (w.heap.size + 3) ?hH ?_; (case hown => exact ((hown.alloc _).alloc _).alloc _); (case hnews => exact World.news_of_block (heap_alloc_at _ _ _ (by simp))); (case h1 => (intro u hu; simp at hu; rcases hu with rfl | rfl | rfl | rfl | rfl <;> rfl)); (case h63 => (unfold maxLen; omega)); (case hbytes => omega); (case hbase => (simp; omega)); (case hH => simp); intro g cap w1 hown1 hgrow hat hlt; (have b0 := (hgrow.block bs (by simp; omega) (fun q => hv q.symm)).trans ((heap3_old w _ _ _ bs hbw).trans Hs.out)); (have b1 := (hgrow.block (w.heap.size + 1) (by simp) (fun q => by have := (hown.lt _ q.symm).2; omega)).trans (heap3_mid w _ _ _)); (have c0 : w1.cell? ⟨bs, 0, none⟩ = some v := cell_of_heap b0 rfl); (have c1 : w1.cell? ⟨bs, 1, none⟩ = some (.int .i64 tmp) := cell_of_heap b0 rfl); (have f0 := frozen_of_heap (i := 0) b0); (have d0 : w1.cell? ⟨w.heap.size + 1, 0, none⟩ = some (.int .i64 0) := cell_of_heap b1 rfl); (have df : ∀ i, w1.frozen? ⟨w.heap.size + 1, i, none⟩ = false := fun i => frozen_of_heap b1); (have d1 : w1.cell? ⟨w.heap.size + 1, 1, none⟩ = some (.int .i64 0) := cell_of_heap b1 rfl); (have d2 : w1.cell? ⟨w.heap.size + 1, 2, none⟩ = some (.int .u32 0) := cell_of_heap b1 rfl); (have d3 : w1.cell? ⟨w.heap.size + 1, 3, none⟩ = some (.int .u32 0) := cell_of_heap b1 rfl); (have d4 : w1.cell? ⟨w.heap.size + 1, 4, none⟩ = some (.int .u32 0) := cell_of_heap b1 rfl); (have d5 : w1.cell? ⟨w.heap.size + 1, 5, none⟩ = some (.int .u32 0) := cell_of_heap b1 rfl); (have B0 := Lib.hid b0); (have B1 := Lib.hid b1); clear b0 b1)
  all_goals
    have hbne : bs ≠ w.heap.size + 1 := by omega
    have hat' : v.ownBlock = some g ∨ w.heap.size ≤ g := by
      rcases hat with h | h
      · exact .inl h
      · exact .inr (by omega)
    have hg : g ≠ bs := fun q => by
      rcases hat with h | h
      · exact hv (q ▸ h)
      · omega
    have e0 := World.cell?_setCell_same w1 ⟨bs, 0, none⟩ (.slice (some ⟨g, 0, none⟩) (n + 1) cap) c0
    have e1 : (w1.setCell ⟨bs, 0, none⟩ (.slice (some ⟨g, 0, none⟩) (n + 1) cap)).cell? ⟨bs, 1, none⟩ = some (.int .i64 tmp) := (World.cell?_setCell_other w1 ⟨bs, 0, none⟩ ⟨bs, 1, none⟩ _ (by simp)).trans c1
    have DB := Lib.hid ((heap_setCell_ne w1 ⟨bs, 0, none⟩ (.slice (some ⟨g, 0, none⟩) (n + 1) cap) (w.heap.size + 1) (by simp; omega)).trans B1.out)
    have EB := Lib.hid (heap_setCell_0 (u := .slice (some ⟨g, 0, none⟩) (n + 1) cap) B0.out)
    have HO := Lib.hid (ownsRow_setCell_other hown1 (a := ⟨bs, 0, none⟩) (by simpa [Value.ownBlock] using hg) (.slice (some ⟨g, 0, none⟩) (n + 1) cap))
    have hsz2 : w.heap.size + 1 + 1 + 1 ≤ w1.heap.size := by have := hgrow.size; simpa using this
    have HK : Kp bs v.ownBlock w (w1.setCell ⟨bs, 0, none⟩ (.slice (some ⟨g, 0, none⟩) (n + 1) cap)) :=
      ⟨hgrow.os, hgrow.tape, hgrow.output, by simp; omega, fun k hk hkb hkr => by
        rw [heap_setCell_ne _ _ _ _ (by simpa using hkb)]
        exact (hgrow.block k (by simp; omega) hkr).trans (heap3_old w _ _ _ k hk)⟩
    have D0 := (World.cell?_setCell_other w1 ⟨bs, 0, none⟩ ⟨w.heap.size + 1, 0, none⟩ (.slice (some ⟨g, 0, none⟩) (n + 1) cap) (by intro q; injection q with q; omega)).trans d0
    have D1 := (World.cell?_setCell_other w1 ⟨bs, 0, none⟩ ⟨w.heap.size + 1, 1, none⟩ (.slice (some ⟨g, 0, none⟩) (n + 1) cap) (by simp)).trans d1
    have D2 := (World.cell?_setCell_other w1 ⟨bs, 0, none⟩ ⟨w.heap.size + 1, 2, none⟩ (.slice (some ⟨g, 0, none⟩) (n + 1) cap) (by simp)).trans d2
    have D3 := (World.cell?_setCell_other w1 ⟨bs, 0, none⟩ ⟨w.heap.size + 1, 3, none⟩ (.slice (some ⟨g, 0, none⟩) (n + 1) cap) (by simp)).trans d3
    have D4 := (World.cell?_setCell_other w1 ⟨bs, 0, none⟩ ⟨w.heap.size + 1, 4, none⟩ (.slice (some ⟨g, 0, none⟩) (n + 1) cap) (by simp)).trans d4
    have D5 := (World.cell?_setCell_other w1 ⟨bs, 0, none⟩ ⟨w.heap.size + 1, 5, none⟩ (.slice (some ⟨g, 0, none⟩) (n + 1) cap) (by simp)).trans d5
    have DF : ∀ i, (w1.setCell ⟨bs, 0, none⟩ (.slice (some ⟨g, 0, none⟩) (n + 1) cap)).frozen? ⟨w.heap.size + 1, i, none⟩ = false := fun i => (World.frozen?_setCell _ _ _ _).trans (df i)
    clear c0 c1 f0 d0 d1 d2 d3 d4 d5 df B0 B1 hown1 hgrow
    generalize w1.setCell ⟨bs, 0, none⟩ (.slice (some ⟨g, 0, none⟩) (n + 1) cap) = w2 at *
    go_wp2_with fail
    go_region
    go_wp2
    have hx : tmp + ((n : Int) + 1) - 1 = tmp + n := by omega
    rw [hx]
    have HH : ∀ (W : World) (x0 x1 x2 x3 x4 x5 : Value) (k : Nat), k ≠ w.heap.size + 1 → ((((((W.setCell ⟨w.heap.size + 1, 0, none⟩ x0).setCell ⟨w.heap.size + 1, 1, none⟩ x1).setCell ⟨w.heap.size + 1, 2, none⟩ x2).setCell ⟨w.heap.size + 1, 3, none⟩ x3).setCell ⟨w.heap.size + 1, 4, none⟩ x4).setCell ⟨w.heap.size + 1, 5, none⟩ x5).heap[k]? = W.heap[k]? := by
      intro W x0 x1 x2 x3 x4 x5 k hk
      rw [heap_setCell_ne _ _ _ _ hk, heap_setCell_ne _ _ _ _ hk, heap_setCell_ne _ _ _ _ hk, heap_setCell_ne _ _ _ _ hk, heap_setCell_ne _ _ _ _ hk, heap_setCell_ne _ _ _ _ hk]
    generalize hW : ((((((w2.setCell ⟨w.heap.size + 1, 0, none⟩ (.int .i64 (tmp + n))).setCell ⟨w.heap.size + 1, 1, none⟩ (.int .i64 0)).setCell ⟨w.heap.size + 1, 2, none⟩ (.int .u32 0)).setCell ⟨w.heap.size + 1, 3, none⟩ (.int .u32 0)).setCell ⟨w.heap.size + 1, 4, none⟩ (.int .u32 0)).setCell ⟨w.heap.size + 1, 5, none⟩ (.int .u32 0)) = w3
    have HO3 : Only (w.heap.size + 1) w2 w3.drew := by
      subst hW
      refine ⟨by simp [heap_drew], ?_, ?_, ?_, fun k hk => by rw [heap_drew, HH _ _ _ _ _ _ _ k hk]⟩
      · simp only [os_drew, os_setCell]
      · simp only [tape_drew, tape_setCell]
      · simp only [output_drew, output_setCell]
    have HR : w3.drew.heap[w.heap.size + 1]? = some (.cells #[.int .i64 (tmp + n), .int .i64 0, .int .u32 0, .int .u32 0, .int .u32 0, .int .u32 0] 59) := by
      subst hW
      rw [heap_drew]
      exact heap_set_at (heap_set_at (heap_set_at (heap_set_at (heap_set_at (heap_set_at DB.out 0 _) 1 _) 2 _) 3 _) 4 _) 5 _
    have HW3 : w3.drew.ownsRow base 64 5 (.slice (some ⟨g, 0, none⟩) (n + 1) cap) (n + 1) (xs ++ [.int .i64 k, .int .i64 ty, .int .i64 op, .int .i64 off, .slice la lb lc]) := by
      subst hW
      have hne : Value.ownBlock (.slice (some ⟨g, 0, none⟩) (n + 1) cap) ≠ some (w.heap.size + 1) := by
        simp only [Value.ownBlock, ne_eq, Option.some.injEq]
        rcases hat with h | h
        · have := (hown.lt _ h).2; omega
        · omega
      exact ownsRow_drew (ownsRow_setCell_other (ownsRow_setCell_other (ownsRow_setCell_other (ownsRow_setCell_other (ownsRow_setCell_other (ownsRow_setCell_other HO.out hne _) hne _) hne _) hne _) hne _) hne _)
    clear hW HH D0 D1 D2 D3 D4 D5 DF
    generalize w3.drew = w4 at *
    refine bodyPost_ret (v := .agg #[.int .i64 (tmp + n), .int .i64 0, .int .u32 0, .int .u32 0, .int .u32 0, .int .u32 0]) ?_ rfl ?_
    · exact results_cell_row Try.results69 _ _ (w.heap.size + 1) 59 _ (0, 0) _ rfl HR Try.underlying59 rfl (by kernel_rfl)
    · exact ⟨g, cap, rfl, (HO3.block bs hbne).trans EB.out, HW3, hat', HK.sets HO3 (Nat.le_succ _)⟩
end Go.Proofs.Ytmkjgkldbonpnaa
