/- Parts of the proof: WCmpB, WCmpX, WCmpOut, KitArr. -/
import Derived.Test.YtmkjgkldbonpnaaZ10
import Derived.Test.YtmkjgkldbonpnaaZ0
import Derived.Test.YtmkjgkldbonpnaaZ3
import Derived.Test.YtmkjgkldbonpnaaZ8
import Derived.Laws.IdiomArrays
/- What the main walk of ThunkCompares knows in its later loops. -/
namespace Go.Proofs.Ytmkjgkldbonpnaa
open Go Go.RowKit Go.Cd Go.MapKept
set_option linter.unusedVariables false

/-- Expressions in the blocks from lo on, below hi. -/
structure RowsIn (w : World) (g lo hi : Nat) (es : List IExpr) : Prop where
  glo : lo ≤ g
  ghi : g < hi
  hiw : hi ≤ w.heap.size
  row : ∀ i e, es[i]? = some e → ∃ bl, EAt w g i e bl ∧ lo ≤ bl ∧ bl < hi
theorem Elems.los {w : World} {lo bs : Nat} {row : Option Nat} {es : List IExpr} {xs : List Value} (h : Elems w lo bs row es xs) :
    ∀ i e, es[i]? = some e → ∃ bl, (∀ j u, (exprC e.kind e.ty e.op e.off (.slice (some ⟨bl, 0, none⟩) e.l.length e.l.length))[j]? = some u → xs[i * 5 + j]? = some u) ∧ w.heap[bl]? = some (.cells (atomsC e.l) 59) ∧ lo ≤ bl := by
  induction h with
  | nil => exact fun i e h => by simp at h
  | @snoc es xs e bl he hb h1 h2 h3 ih =>
    have hl := he.get.1
    refine fun i e' he' => ?_
    by_cases hi : i < es.length
    · rw [List.getElem?_append_left hi] at he'
      obtain ⟨b', k1, k2⟩ := ih i e' he'
      refine ⟨b', fun j u hu => ?_, k2⟩
      have hj : j < 5 := by
        have := (List.getElem?_eq_some_iff.1 hu).1
        simpa [exprC] using this
      rw [List.getElem?_append_left (by omega)]
      exact k1 j u hu
    · have hi' : i = es.length := by
        have := (List.getElem?_eq_some_iff.1 he').1
        simp at this; omega
      subst hi'
      have : e' = e := by simpa using he'.symm
      subst this
      refine ⟨bl, fun j u hu => ?_, hb, h1⟩
      rw [List.getElem?_append_right (by omega), hl, show es.length * 5 + j - es.length * 5 = j by omega]
      exact hu
theorem ExprsAt.rowsIn {w : World} {lo : Nat} {v : Value} {es : List IExpr} (h : ExprsAt w lo v es) (hne : es ≠ []) : ∃ g cap, v = .slice (some ⟨g, 0, none⟩) es.length cap ∧ RowsIn w g lo w.heap.size es := by
  obtain ⟨bs, xs, hown, he⟩ := h
  have hg := he.los
  have hc := fun g (hg : v.ownBlock = some g) => hown.cells hg
  have hlt := hown.lt
  rcases hown.2 with ⟨rfl, h0⟩ | ⟨g, cap, cur, rfl, hb, hh, _⟩
  · exact absurd (List.eq_nil_of_length_eq_zero h0) hne
  · refine ⟨g, cap, rfl, hb, lt_of_heap hh, Nat.le_refl _, fun i e hi => ?_⟩
    obtain ⟨bl, h1, h2, h3⟩ := hg i e hi
    refine ⟨bl, ⟨fun j u hu => ?_, (hlt g rfl).2, h2⟩, h3, lt_of_heap h2⟩
    have := hc g rfl (i * 5 + j) u (h1 j u hu)
    rwa [Addr.add_mid, Nat.zero_add] at this
theorem RowsIn.same {w w' : World} {g lo hi : Nat} {es : List IExpr} (h : RowsIn w g lo hi es) (hs : w.heap.size ≤ w'.heap.size) (hb : ∀ b, lo ≤ b → b < hi → w'.heap[b]? = w.heap[b]?) : RowsIn w' g lo hi es := by
  refine ⟨h.glo, h.ghi, Nat.le_trans h.hiw hs, fun i e hi' => ?_⟩
  obtain ⟨bl, ⟨h1, h2, h3⟩, h4, h5⟩ := h.row i e hi'
  have hg := hb g h.glo h.ghi
  refine ⟨bl, ⟨fun j u hu => ?_, Nat.lt_of_lt_of_le h2 hs, (hb bl h4 h5).trans h3⟩, h4, h5⟩
  have := h1 j u hu
  simpa only [World.cell?, hg] using this
/-- The types of the temporaries; the first ones are known. -/
def Tmps (w : World) (bt n lim : Nat) (t : Int → Int) : Prop := ∀ j : Nat, j < n → w.frozen? ⟨bt, j, none⟩ = false ∧ ∃ v, w.cell? ⟨bt, j, none⟩ = some (.int .i64 v) ∧ (j < lim → v = t j)
theorem Tmps.same {w w' : World} {bt n lim : Nat} {t : Int → Int} (h : Tmps w bt n lim t) (hb : w'.heap[bt]? = w.heap[bt]?) : Tmps w' bt n lim t := fun j hj => by
  have h1 := h j hj
  simpa only [World.cell?, World.frozen?, hb] using h1
theorem Tmps.less {w : World} {bt n lim lim' : Nat} {t t' : Int → Int} (h : Tmps w bt n lim t) (hl : lim' ≤ lim) (ht : ∀ j : Nat, j < lim' → t j = t' j) : Tmps w bt n lim' t' := fun j hj => by
  obtain ⟨h1, v, h2, h3⟩ := h j hj
  exact ⟨h1, v, h2, fun q => (h3 (Nat.lt_of_lt_of_le q hl)).trans (ht j q)⟩
/-- A store of what belongs there. -/
theorem Tmps.put {w : World} {bt n lim : Nat} {t : Int → Int} (h : Tmps w bt n lim t) (k : Nat) (hk : k < n) (lim' : Nat) (hl : lim' ≤ lim ∨ (lim = k ∧ lim' = k + 1)) (v : Int) (hv : v = t k) : Tmps (w.setCell ⟨bt, k, none⟩ (.int .i64 v)) bt n lim' t := fun j hj => by
  obtain ⟨h1, u, h2, h3⟩ := h j hj
  rw [World.frozen?_setCell]
  refine ⟨h1, ?_⟩
  by_cases hjk : j = k
  · subst hjk
    exact ⟨v, World.cell?_setCell_same _ _ _ h2, fun _ => hv⟩
  · refine ⟨u, ?_, fun q => h3 (by omega)⟩
    rw [World.cell?_setCell_other _ _ _ _ (addr_ne bt (Ne.symm hjk))]
    exact h2
/-- .. of a new type. -/
theorem Tmps.turn {w : World} {bt n : Nat} {t t' : Int → Int} (h : Tmps w bt n n t) (k : Nat) (v : Int) (hv : v = t' k) (hs : ∀ j : Nat, j ≠ k → t j = t' j) : Tmps (w.setCell ⟨bt, k, none⟩ (.int .i64 v)) bt n n t' := fun j hj => by
  obtain ⟨h1, u, h2, h3⟩ := h j hj
  rw [World.frozen?_setCell]
  refine ⟨h1, ?_⟩
  by_cases hjk : j = k
  · subst hjk
    exact ⟨v, World.cell?_setCell_same _ _ _ h2, fun _ => hv⟩
  · refine ⟨u, ?_, fun q => (h3 q).trans (hs j hjk)⟩
    rw [World.cell?_setCell_other _ _ _ _ (addr_ne bt (Ne.symm hjk))]
    exact h2
/-- What the third loop knows. -/
structure Cmp3 (w : World) (g lo bi bt n lim : Nat) (L : List IExpr) (m : Int → Option Int) (f : Nat → Int) (t : Int → Int) (wr : World) : Prop where
  new : New w wr
  bil : w.heap.size ≤ bi
  lol : bi + 2 < lo
  lob : lo ≤ bt
  lt : bt < wr.heap.size
  ins : Ins wr bi f
  kn : KnowsM wr (bi + 2) (bi + 1) m
  rows : RowsIn wr g lo bt L
  tmps : Tmps wr bt n lim t
theorem Cmp3.grow {w : World} {g lo bi bt n lim : Nat} {L : List IExpr} {m : Int → Option Int} {f : Nat → Int} {t : Int → Int} {wr w' : World} (h : Cmp3 w g lo bi bt n lim L m f t wr) (hn : New wr w') : Cmp3 w g lo bi bt n lim L m f t w' := by
  have h1 := h.bil
  have h2 := h.lol
  have h3 := h.lob
  have h4 := h.lt
  exact ⟨h.new.trans (hn.mono h.new.size), h1, h2, h3, Nat.lt_of_lt_of_le h4 hn.size, h.ins.new (by omega) hn, h.kn.new hn, h.rows.same hn.size (fun b _ hb => hn.block b (by omega)), h.tmps.same (hn.block _ h4)⟩
/-- A store into the types. -/
theorem Cmp3.put {w : World} {g lo bi bt n lim : Nat} {L : List IExpr} {m : Int → Option Int} {f : Nat → Int} {t : Int → Int} {wr : World} (h : Cmp3 w g lo bi bt n lim L m f t wr) (k : Nat) (v : Value) (lim' : Nat) (t' : Int → Int)
    (ht : Tmps (wr.setCell ⟨bt, k, none⟩ v) bt n lim' t') : Cmp3 w g lo bi bt n lim' L m f t' (wr.setCell ⟨bt, k, none⟩ v) := by
  have h1 := h.bil
  have h2 := h.lol
  have h3 := h.lob
  have h4 := h.lt
  have ho := only_setCell wr bt k v
  have h5 := h.kn.lt
  obtain ⟨es, c, e1, e2⟩ := h.kn.map
  exact ⟨new_only h.new ho (by omega), h1, h2, h3, by rw [ho.size]; exact h4, ⟨fun j hj => (ho.cell (by omega)).trans (h.ins.cell j hj), fun j => (ho.frozen (by omega)).trans (h.ins.free j)⟩, ⟨by rw [ho.size]; exact h5, (ho.cell (by omega)).trans h.kn.cell, ⟨es, c, (ho.block _ (by omega)).trans e1, e2⟩⟩,
    h.rows.same (by rw [ho.size]; exact Nat.le_refl _) (fun b _ hb => ho.block b (by omega)), ht⟩
/-- A new temporary in the map. -/
theorem Cmp3.set {w : World} {g lo bi bt n lim : Nat} {L : List IExpr} {m : Int → Option Int} {f : Nat → Int} {t : Int → Int} {wr : World} (h : Cmp3 w g lo bi bt n lim L m f t wr) (es : Array MapEntry) (c : Nat) (he : EsOf es m) (u v : Int) (hu : m u = none) :
    Cmp3 w g lo bi bt n lim L (fun x => if x = u then some v else m x) f t (wr.putObj (bi + 1) (.map (es.push { key := .int .i64 u, val := .int .u32 v, born := c }) (c + 1))) := by
  have h1 := h.bil
  have h2 := h.lol
  have h3 := h.lob
  have h4 := h.lt
  have ho := only_putObj wr (bi + 1) (.map (es.push { key := .int .i64 u, val := .int .u32 v, born := c }) (c + 1))
  have h5 := h.kn.lt
  exact ⟨new_only h.new ho (by omega), h1, h2, h3, by rw [ho.size]; exact h4, ⟨fun j hj => (ho.cell (by omega)).trans (h.ins.cell j hj), fun j => (ho.frozen (by omega)).trans (h.ins.free j)⟩, ⟨by rw [ho.size]; exact h5, (ho.cell (by omega)).trans h.kn.cell, ⟨_, _, World.putObj_heap_same (by omega), he.push u v c hu⟩⟩,
    h.rows.same (by rw [ho.size]; exact Nat.le_refl _) (fun b hb _ => ho.block b (by omega)), h.tmps.same (ho.block _ (by omega))⟩
theorem tmps_made {w : World} {base bt n : Nat} {e : TypeId} (h : w.ownsRow base e 1 (.slice (some ⟨bt, 0, none⟩) n n) n (madeCells #[.int .i64 0] n).toList) (t : Int → Int) : Tmps w bt n 0 t := fun j hj => by
  refine ⟨h.frozenAt j, 0, ?_, fun q => by omega⟩
  rw [h.cellAt j (by omega), toList_madeCells_one]
  simp [hj]
def lastX (xs : List Int) (k : Nat) : Int := if k = 0 then 0 else xs.getD (k - 1) 0
theorem Tmps.start {w : World} {bt n T : Nat} {L : List IExpr} (h : Tmps w bt (T + n) (T + n) (fun _ => 32)) : Tmps w bt (T + n) (T + 0) (tyX T (L.take 0)) := h.less (by omega) fun j hj => by
  unfold tyX
  rw [if_pos (by omega)]
theorem Cmp3.re {w : World} {g lo bi bt n lim lim' : Nat} {L : List IExpr} {m m' : Int → Option Int} {f : Nat → Int} {t t' : Int → Int} {wr : World} (h : Cmp3 w g lo bi bt n lim L m f t wr) (hm : m' = m) (ht : Tmps wr bt n lim' t') : Cmp3 w g lo bi bt n lim' L m' f t' wr := by
  subst hm
  exact ⟨h.new, h.bil, h.lol, h.lob, h.lt, h.ins, h.kn, h.rows, ht⟩
end Go.Proofs.Ytmkjgkldbonpnaa
/- The main walk of ThunkCompares: it answers true where it goes on to the end. -/
namespace Go.Proofs.Ytmkjgkldbonpnaa
open Go Go.RowKit Go.Cd Go.ChangeShapes Go.WideShapes Go.ChangeAt
set_option linter.unusedVariables false
attribute [local go_sem ↓] Go.wp_at_zero Go.wp_at_succ 
set_option maxRecDepth 100000 in
set_option maxHeartbeats 4000000 in
theorem cmp_main (b off cap : Nat) (l : List Atom) (tmp : Nat) (v0 v1 v2 v3 v4 : Int) (w : World) (hc : AtomsIn w b off l) (hb : b < w.heap.size) (hok : ∀ a ∈ l, a.ok) (hl : l.length = 5) (ht0 : 100 ≤ tmp) (ht1 : tmp ≤ 3000)
    (hvs : ∀ v ∈ [v0, v1, v2, v3, v4], 0 ≤ v ∧ v < 4294967296) :
    Calls Try.prog 11 #[.slice (some ⟨b, off, none⟩) 5 cap, .int .i64 tmp, .agg #[.int .u32 v0, .int .u32 v1, .int .u32 v2, .int .u32 v3, .int .u32 v4]] w fun e w' => e = .returned (.bool true) ∧ New w w' := by
  have hmm := @run_makeMap Try.prog
  obtain ⟨vs, hvv⟩ : ∃ vs, [v0, v1, v2, v3, v4] = vs := ⟨_, rfl⟩
  have HVL := Lib.hid (show vs.length = 5 by rw [← hvv]; rfl)
  rw [hvv] at hvs
  have HVV := Lib.hid hvv
  have HVS := Lib.hid hvs
  have HC := Lib.hid hc
  have HOK := Lib.hid hok
  have HL := Lib.hid hl
  clear hc hok hl hvv hvs
  go_enter Try.func11, Try.ntmps11
  go_wp2_with fail
  refine (sane_c _).mono ?_
  rintro e w1 ⟨rfl, hb1⟩
  have hbx : w1.heap[w.heap.size]? = some (.cells #[.int .u32 v0, .int .u32 v1, .int .u32 v2, .int .u32 v3, .int .u32 v4] 54) := (hb1.block _ (by simp)).trans (heap_alloc_at _ _ _ rfl)
  have BX := Lib.hid hbx
  have hz1 := hb1.size
  rw [World.size_alloc] at hz1
  have N1 := Lib.hid (show New w w1 from Below.trans (by go_grown) (hb1.mono (by simp)))
  clear hb1 hbx
  go_wp2_with fail
  go_loopw [43] (fun i wr => ∃ k f, k ≤ 5 ∧ i = .int .i64 (k : Nat) ∧ Cmp1 w l vs w1.heap.size k (hadZ ((l.zip vs).take k)) f wr) (fun i _ => 5 - (intOf i).toNat)
  case atStart => exact ⟨0, _, by omega, rfl, cmp1_start N1.out hz1 (HVV.out ▸ valsIn_five BX.out)⟩
  case round =>
    obtain ⟨k, f, hk, rfl, hC⟩ := hrel
    have HR := Lib.hid hC
    clear hC
    by_cases hlt : k < 5
    · obtain ⟨x, hx⟩ : ∃ x, l[k]? = some x := ⟨_, List.getElem?_eq_getElem (by rw [HL.out]; exact hlt)⟩
      obtain ⟨v, hv⟩ : ∃ v, vs[k]? = some v := ⟨_, List.getElem?_eq_getElem (by rw [HVL.out]; exact hlt)⟩
      have hcx := (HC.out.new hb HR.out.new) k x hx
      have HX := Lib.hid hx
      have HV := Lib.hid hv
      clear hx hv
      obtain ⟨x0, x1, x2, x3, x4, x5⟩ := x
      have q0 : wr.cell? ⟨b, off + k * 6, none⟩ = some (.int .i64 x0) := by have := hcx 0 _ rfl; simpa using this
      have q1 : wr.cell? ⟨b, off + k * 6 + 1, none⟩ = some (.int .i64 x1) := by have := hcx 1 _ rfl; simpa using this
      have q2 : wr.cell? ⟨b, off + k * 6 + 2, none⟩ = some (.int .u32 x2) := by have := hcx 2 _ rfl; simpa using this
      have q3 : wr.cell? ⟨b, off + k * 6 + 3, none⟩ = some (.int .u32 x3) := by have := hcx 3 _ rfl; simpa using this
      have q4 : wr.cell? ⟨b, off + k * 6 + 4, none⟩ = some (.int .u32 x4) := by have := hcx 4 _ rfl; simpa using this
      have q5 : wr.cell? ⟨b, off + k * 6 + 5, none⟩ = some (.int .u32 x5) := by have := hcx 5 _ rfl; simpa using this
      clear hcx
      have hlb := Nat.lt_of_lt_of_le hb HR.out.new.size
      have hsz := HR.out.size
      by_cases hbig : 100 ≤ x0
      · go_wp2
        go_ret
        exact ⟨rfl, HR.out.new.trans (by go_grown)⟩
      · go_upto_region 12 with (fail)
        have HA := Lib.hid (HR.out.grow ((New.refl wr).alloc (Nat.le_refl _) (.cells #[.int .i64 x0, .int .i64 x1, .int .u32 x2, .int .u32 x3, .int .u32 x4, .int .u32 x5] 59)))
        have hbA : (wr.alloc (.cells #[.int .i64 x0, .int .i64 x1, .int .u32 x2, .int .u32 x3, .int .u32 x4, .int .u32 x5] 59)).heap[wr.heap.size]? = some (.cells #[.int .i64 x0, .int .i64 x1, .int .u32 x2, .int .u32 x3, .int .u32 x4, .int .u32 x5] 59) := heap_alloc_at _ _ _ rfl
        generalize (wr.alloc (.cells #[.int .i64 x0, .int .i64 x1, .int .u32 x2, .int .u32 x3, .int .u32 x4, .int .u32 x5] 59)) = wa at *
        have p0 := cell_of_heap hbA (i := 0) rfl
        have p2 := cell_of_heap hbA (i := 2) rfl
        have hla := lt_of_heap hbA
        have e0 := HA.out.ins.cell k hlt
        have e1 := HA.out.ins.free k
        clear hbA
        have hnx : (l.zip vs).take (k + 1) = (l.zip vs).take k ++ [(⟨x0, x1, x2, x3, x4, x5⟩, v)] := by
          rw [List.take_add_one, List.getElem?_zip_eq_some (z := (⟨x0, x1, x2, x3, x4, x5⟩, v)) |>.2 ⟨HX.out, HV.out⟩]; rfl
        have hst : hadZ ((l.zip vs).take (k + 1)) = stepM (hadZ ((l.zip vs).take k)) ⟨x0, x1, x2, x3, x4, x5⟩ v := by rw [hnx, hadZ_snoc]
        have HST := Lib.hid hst
        clear hnx hst
        have HF := Lib.hid (HOK.out _ (List.mem_of_getElem? HX.out))
        have HVW := Lib.hid (HVS.out _ (List.mem_of_getElem? HV.out))
        generalize hadZ ((l.zip vs).take k) = m at *
        by_cases hneg : x0 < 0
        · go_wp2_with fail
          go_roundw
          case rel =>
            refine ⟨k + 1, (fun j => if j = k then x2 else f j), by omega, by simp, ?_⟩
            have e : stepM m ⟨x0, x1, x2, x3, x4, x5⟩ v = m := by unfold stepM; rw [if_neg (fun q => by have := q.1; dsimp only at this; omega)]
            rw [HST.out, e]
            exact (HA.out.put hlt x2).next HX.out (by dsimp only; omega) (by unfold rdA; rw [if_neg (by dsimp only; omega), if_pos rfl]) (by rw [if_pos rfl]; exact HF.out)
          case measure => simp [intOf]; omega
        · have hneg' : 0 ≤ x0 := by omega
          go_upto_region 14 with (fail)
          have HB := Lib.hid (HA.out.put hlt x2)
          have ho := only_setCell wa w1.heap.size k (.int .u32 x2)
          have hlx := HR.out.size
          replace p0 := (ho.cell (b := wr.heap.size) (o := 0) (by omega)).trans p0
          have hlb := ho.size
          have f1 : ((if k = k then x2 else f k : Int)) = x2 := if_pos rfl
          clear ho e0 e1 p2
          generalize (fun j => if j = k then x2 else f j) = f' at *
          generalize wa.setCell ⟨w1.heap.size, k, none⟩ (.int .u32 x2) = wb at *
          have e8 := HB.out.kn.cell
          obtain ⟨es, c, h1, h2⟩ := HB.out.kn.map
          have HM := Lib.hid h1
          have HE := Lib.hid h2
          have s8 := HB.out.size
          clear h1 h2
          by_cases hm : m x0 = none
          · have hg := run_mapMiss (P := Try.prog) (T := 55) Try.underlying55 Try.underlying3 es c x0 (.int .u32 0) wb (w1.heap.size + 1) HM.out (by kernel_rfl) ((HE.out x0).1 hm) true
            have HMN := Lib.hid hm
            clear hm
            go_upto_region 16 with (fail)
            have ev := HB.out.vals k v HV.out
            have slv : w.heap.size < wb.heap.size := by have := HB.out.lt; omega
            have HD := Lib.hid (HB.out.grow ((New.refl wb).drew))
            have p0d : wb.drew.cell? ⟨wr.heap.size, 0, none⟩ = some (.int .i64 x0) := p0
            clear hg
            go_still_tail 6, (by kernel_rfl)
            change wpList _ _ _ _ _ wb.drew
            have HMd : Hid (wb.drew.heap[w1.heap.size + 1]? = some (.map es c)) := HM
            clear ev p0 e8 HM HB
            generalize wb.drew = wd at *
            have hs := run_mapSet (P := Try.prog) (T := 55) Try.underlying55 Try.underlying3 es c x0 (.int .u32 v) wd (w1.heap.size + 1) HMd.out ((HE.out x0).1 HMN.out)
            go_upto_region 17 with (fail)
            have hlo := only_putObj wd (w1.heap.size + 1) (.map (es.push { key := .int .i64 x0, val := .int .u32 v, born := c }) (c + 1))
            have HG := Lib.hid (HD.out.ins_map es c ⟨x0, x1, x2, x3, x4, x5⟩ v hneg' HMN.out HVW.out HE.out)
            have PW := Lib.hid ((hlo.cell (b := wr.heap.size) (o := 0) (by omega)).trans p0d)
            have slw := hlo.size
            clear hs hlo p0d HD HMd
            dsimp only at HG
            generalize wd.putObj (w1.heap.size + 1) (.map (es.push { key := .int .i64 x0, val := .int .u32 v, born := c }) (c + 1)) = we at *
            have p0w : we.cell? ⟨wr.heap.size, 0, none⟩ = some (.int .i64 x0) := PW.out
            have e8 := HG.out.kn.cell
            obtain ⟨es', c', h1, h2⟩ := HG.out.kn.map
            obtain ⟨y, hy⟩ := stepM_has m ⟨x0, x1, x2, x3, x4, x5⟩ v hneg'
            have hyw := HG.out.word _ _ hy
            obtain ⟨i', hf'⟩ := (h2 x0).2 y hy
            have hg2 := run_mapGet (P := Try.prog) (T := 55) Try.underlying55 Try.underlying3 es' c' x0 i' (.int .u32 y) we (w1.heap.size + 1) h1 hf' false
            have HY := Lib.hid hy
            have e0 := HG.out.ins.cell k hlt
            have e1 := HG.out.ins.free k
            have sg := HG.out.size
            clear h1 h2 hf' hy
            go_wp2_with fail
            go_roundw
            case rel =>
              refine ⟨k + 1, (fun j => if j = k then y else f' j), by omega, by simp, ?_⟩
              rw [HST.out]
              refine (HG.out.put hlt y).next HX.out (by dsimp only; omega) ?_ ?_
              · unfold rdA; rw [if_pos (show (0 : Int) ≤ (⟨x0, x1, x2, x3, x4, x5⟩ : Atom).tmp from hneg'), if_pos rfl]; exact HY.out
              · rw [if_pos rfl]; exact hyw
            case measure => simp [intOf]; omega
          · obtain ⟨y0, hy0⟩ : ∃ y0, m x0 = some y0 := by
              cases h : m x0 with
              | none => exact absurd h hm
              | some y => exact ⟨y, rfl⟩
            obtain ⟨i0, hf0⟩ := (HE.out x0).2 y0 hy0
            have hg := run_mapGet (P := Try.prog) (T := 55) Try.underlying55 Try.underlying3 es c x0 i0 (.int .u32 y0) wb (w1.heap.size + 1) HM.out hf0 true
            have e : stepM m ⟨x0, x1, x2, x3, x4, x5⟩ v = m := by unfold stepM; rw [if_neg (fun q => hm q.2)]
            have HG : Hid (Cmp1 w l vs w1.heap.size k (stepM m ⟨x0, x1, x2, x3, x4, x5⟩ v) f' wb) := by rw [e]; exact HB
            clear hf0 hy0 hm e
            go_upto_region 17 with (fail)
            have PW := Lib.hid p0
            clear hg p0 e8 HB HM HE
            have hwe : ∃ we, we = wb := ⟨_, rfl⟩
            obtain ⟨we, rfl⟩ := hwe
            have p0w : we.cell? ⟨wr.heap.size, 0, none⟩ = some (.int .i64 x0) := PW.out
            have e8 := HG.out.kn.cell
            obtain ⟨es', c', h1, h2⟩ := HG.out.kn.map
            obtain ⟨y, hy⟩ := stepM_has m ⟨x0, x1, x2, x3, x4, x5⟩ v hneg'
            have hyw := HG.out.word _ _ hy
            obtain ⟨i', hf'⟩ := (h2 x0).2 y hy
            have hg2 := run_mapGet (P := Try.prog) (T := 55) Try.underlying55 Try.underlying3 es' c' x0 i' (.int .u32 y) we (w1.heap.size + 1) h1 hf' false
            have HY := Lib.hid hy
            have e0 := HG.out.ins.cell k hlt
            have e1 := HG.out.ins.free k
            have sg := HG.out.size
            clear h1 h2 hf' hy
            go_wp2_with fail
            go_roundw
            case rel =>
              refine ⟨k + 1, (fun j => if j = k then y else f' j), by omega, by simp, ?_⟩
              rw [HST.out]
              refine (HG.out.put hlt y).next HX.out (by dsimp only; omega) ?_ ?_
              · unfold rdA; rw [if_pos (show (0 : Int) ≤ (⟨x0, x1, x2, x3, x4, x5⟩ : Atom).tmp from hneg'), if_pos rfl]; exact HY.out
              · rw [if_pos rfl]; exact hyw
            case measure => simp [intOf]; omega
    · obtain rfl : k = 5 := by omega
      have ht5 : (l.zip vs).take 5 = l.zip vs := List.take_of_length_le (by rw [List.length_zip, HL.out, HVL.out]; decide)
      rw [ht5] at HR
      generalize hmz : hadZ (l.zip vs) = m at *
      have HMZ := Lib.hid hmz
      clear hmz ht5
      have hlt5 : ¬ (5 : Int) < 5 := by decide
      have hAt : AtomsAt wr (some ⟨b, off, none⟩) l := ⟨.inr ⟨b, off, rfl, Nat.lt_of_lt_of_le hb HR.out.new.size, HC.out.new hb HR.out.new⟩, HOK.out⟩
      have hsf := simplify_c (some ⟨b, off, none⟩) cap l (tmp : Int) wr hAt
      rw [HL.out] at hsf
      have CS := Lib.hid hsf
      clear hsf hAt
      obtain ⟨L, hLL⟩ : ∃ L, simpF l (tmp : Int) = L := ⟨_, rfl⟩
      rw [hLL] at CS
      have HLL := Lib.hid hLL
      clear hLL
      obtain ⟨L, bo⟩ := L
      go_wp2_with fail
      refine CS.out.mono ?_
      rintro e w2 ⟨v, rfl, hE, hN, hb2⟩
      dsimp only at hE hN
      cases bo with
      | false =>
        obtain rfl := hN rfl
        clear hE
        go_wp2_with fail
        go_ret
        exact ⟨rfl, HR.out.new.trans (hb2.mono HR.out.new.size)⟩
      | true =>
        have hgood := cmp_good HL.out (tmp := (tmp : Int)) (by omega) HR.out.val (by rw [HLL.out])
        rw [HLL.out] at hgood
        dsimp only at hgood
        obtain ⟨xs, hruns, hlast, eL, heL, hty⟩ := hgood
        have hokE := okE_simpF l tmp HOK.out
        have hshort := short_simpF l tmp
        rw [HLL.out] at hokE hshort
        dsimp only at hokE hshort
        have hne : L ≠ [] := fun q => by rw [q] at heL; cases heL
        obtain ⟨g, capL, rfl, hrows⟩ := (hE rfl).rowsIn hne
        have hn1 : 0 < L.length := List.length_pos_iff.2 hne
        have HRU := Lib.hid hruns
        have HOE := Lib.hid hokE
        have HLA := Lib.hid hlast
        have HEL := Lib.hid heL
        have HTY := Lib.hid hty
        have HRO := Lib.hid hrows
        have HB2 := Lib.hid hb2
        have HIN := Lib.hid (HR.out.ins.new (by have := HR.out.size; omega) hb2)
        have HKN := Lib.hid (HR.out.kn.new hb2)
        have HNW := Lib.hid (HR.out.new.trans (hb2.mono HR.out.new.size))
        have HWD := Lib.hid HR.out.word
        have HML := Lib.hid (show ∀ t v, m t = some v → t < (tmp : Int) from fun t v h => by
          have h1 := hadZ_lt (l.zip vs) 100 (fun p hp => by
            obtain ⟨j, hj⟩ := List.mem_iff_getElem?.1 hp
            have h2 := (List.getElem?_zip_eq_some.1 hj).1
            have h3 : j < l.length := (List.getElem?_eq_some_iff.1 h2).1
            rw [HL.out] at h3
            exact (HR.out.val j h3 _ h2).1) t v (by rw [HMZ.out]; exact h)
          omega)
        have HFW := Lib.hid (show ∀ j, j < 5 → 0 ≤ f j ∧ f j < 4294967296 from fun j hj => (HR.out.val j hj _ (List.getElem?_eq_getElem (by rw [HL.out]; exact hj))).2.2)
        have HRV := Lib.hid (HRU.out.words HR.out.word HOE.out)
        have hsr := HR.out.size
        have hsb := hb2.size
        have hbl := HR.out.lt
        obtain ⟨n, hn⟩ : ∃ n, L.length = n := ⟨_, rfl⟩
        have HLN := Lib.hid hn
        rw [hn] at hshort hn1 ⊢
        clear hE hN hruns hlast heL hty hokE hne hrows hb2 hn
        obtain ⟨i0, hi, hz0, hz1, hz2⟩ := info_parts infoInt
        have hn0 : ((n : Int) == 0) = false := by simp; omega
        have hn20 : ¬ 20 < (n : Int) := by omega
        go_wp2_with (at_make; refine wpList_make_full _ rfl _ _ 61 rfl w2.heap.size 3 i0 (.int .i64 0) 1 Try.underlying61 hi hz0 hz1 .i64 .i64 _ _ (tmp + n) rfl rfl (by simp) (by simp) (by rw [hz2]; omega) (by unfold maxLen; omega) (Nat.le_refl _) ?_)
        intro w3 hown hgrow
        have n3 : New w2 w3 := (New.refl w2).grown hgrow (Nat.le_refl _) (fun k h => by cases h)
        have hz3 : w2.heap.size < w3.heap.size := (hown.lt _ rfl).2
        have H3 := Lib.hid (show Cmp3 w g wr.heap.size w1.heap.size w2.heap.size (tmp + n) 0 L m f (fun _ => 32) w3 from
          ⟨HNW.out.trans (n3.mono HNW.out.size), by omega, hsr, hsb, hz3, HIN.out.new (by omega) n3, HKN.out.new n3, HRO.out.same n3.size (fun b _ hb => n3.block b hb), tmps_made hown _⟩)
        clear hown hgrow n3 HNW HIN HKN HRO HB2 HR CS
        generalize wr.heap.size = lo at *
        generalize w1.heap.size = bi at *
        generalize w2.heap.size = bt at *
        clear hsr hsb hbl N1 hz1
        go_wp2_with fail
        go_loopw [107] (fun i wr => ∃ k, k ≤ tmp + n ∧ i = .int .i64 (k : Nat) ∧ Cmp3 w g lo bi bt (tmp + n) k L m f (fun _ => 32) wr) (fun i _ => tmp + n - (intOf i).toNat)
        case atStart => exact ⟨0, Nat.zero_le _, rfl, H3.out⟩
        case round =>
          obtain ⟨k, hk, rfl, hC⟩ := hrel
          have HA := Lib.hid hC
          clear hC H3
          by_cases hlt : k < tmp + n
          · obtain ⟨e1, u, e0, -⟩ := HA.out.tmps k hlt
            go_wp2_with fail
            go_roundw
            case rel => exact ⟨k + 1, by omega, by simp, HA.out.put k _ _ _ (HA.out.tmps.put k hlt _ (.inr ⟨rfl, rfl⟩) _ rfl)⟩
            case measure => simp [intOf]; omega
          · have HA2 : Hid (Cmp3 w g lo bi bt (tmp + n) (tmp + n) L m f (fun _ => 32) wr) := by
              have e : k = tmp + n := by omega
              rw [← e]
              rw [← e] at HA
              exact HA
            clear HA
            have hge : ¬ (k : Int) < (tmp : Int) + (n : Int) := by omega
            go_wp2_with fail
            obtain ⟨wB, hwB⟩ : ∃ wB, wB = wr := ⟨_, rfl⟩
            subst hwB
            have h30 := Lib.hid (HA2.out.re (hadX_nil HML.out xs) (HA2.out.tmps.start (L := L)))
            clear HA2
            go_loopw [117, 18] (fun i la wr => ∃ k, k ≤ n ∧ i = .int .i64 (k : Nat) ∧ la = .int .u32 (lastX xs k) ∧ Cmp3 w g lo bi bt (tmp + n) (tmp + k) L (hadX m tmp (xs.take k)) f (tyX tmp (L.take k)) wr) (fun i _ _ => n - (intOf i).toNat)
            case atStart => exact ⟨0, Nat.zero_le _, rfl, rfl, h30.out⟩
            case round =>
              obtain ⟨k, hk, rfl, rfl, hC⟩ := hrel
              have HA := Lib.hid hC
              clear hC h30
              by_cases hlt : k < n
              · obtain ⟨e, he⟩ : ∃ e, L[k]? = some e := ⟨_, List.getElem?_eq_getElem (by rw [HLN.out]; exact hlt)⟩
                obtain ⟨v, hv, hd⟩ := HRU.out.at k e he
                have hek := HOE.out e (List.mem_of_getElem? he)
                have HTX := Lib.hid (tyX_next (tmp := (tmp : Int)) k e he (by omega))
                have HHX := Lib.hid (hadX_next (had := m) (tmp := (tmp : Int)) k v hv (by omega))
                have hvw := HRV.out v (List.mem_of_getElem? hv)
                obtain ⟨bl, ⟨hrow, hgl, hblk⟩, hbl1, hbl2⟩ := HA.out.rows.row k e he
                obtain ⟨ek, ety, eop, eoff, el⟩ := e
                dsimp only at hrow hblk hek
                have r0 : wr.cell? ⟨g, k * 5, none⟩ = some (.int .i64 ek) := by have := hrow 0 _ rfl; simpa using this
                have r1 : wr.cell? ⟨g, k * 5 + 1, none⟩ = some (.int .i64 ety) := by have := hrow 1 _ rfl; simpa using this
                have r2 : wr.cell? ⟨g, k * 5 + 2, none⟩ = some (.int .i64 eop) := by have := hrow 2 _ rfl; simpa using this
                have r3 : wr.cell? ⟨g, k * 5 + 3, none⟩ = some (.int .i64 eoff) := by have := hrow 3 _ rfl; simpa using this
                have r4 : wr.cell? ⟨g, k * 5 + 4, none⟩ = some (.slice (some ⟨bl, 0, none⟩) el.length el.length) := by have := hrow 4 _ rfl; simpa using this
                have hbt := HA.out.lt
                have HD := Lib.hid hd
                have HEK := Lib.hid hek
                have HV := Lib.hid hv
                have HK := Lib.hid hblk
                clear hrow hd hek hv he hblk
                go_upto_region 35 with (fail)
                have HKA := Lib.hid (((New.refl wr).alloc (Nat.le_refl _) (.cells #[.int .i64 ek, .int .i64 ety, .int .i64 eop, .int .i64 eoff, .slice (some ⟨bl, 0, none⟩) el.length el.length] 64)).block bl (by omega) |>.trans HK.out)
                clear HK
                have HB := Lib.hid (HA.out.grow ((New.refl wr).alloc (Nat.le_refl _) (.cells #[.int .i64 ek, .int .i64 ety, .int .i64 eop, .int .i64 eoff, .slice (some ⟨bl, 0, none⟩) el.length el.length] 64)))
                have hbx : (wr.alloc (.cells #[.int .i64 ek, .int .i64 ety, .int .i64 eop, .int .i64 eoff, .slice (some ⟨bl, 0, none⟩) el.length el.length] 64)).heap[wr.heap.size]? = some (.cells #[.int .i64 ek, .int .i64 ety, .int .i64 eop, .int .i64 eoff, .slice (some ⟨bl, 0, none⟩) el.length el.length] 64) := heap_alloc_at _ _ _ rfl
                have HBX := Lib.hid hbx
                clear hbx r0 r1 r2 r3 r4
                generalize wr.alloc (.cells #[.int .i64 ek, .int .i64 ety, .int .i64 eop, .int .i64 eoff, .slice (some ⟨bl, 0, none⟩) el.length el.length] 64) = wa at *
                clear HA
                generalize wr.heap.size = bx at *
                go_wp2_with fail
                go_loopw [21] (fun i w' => ∃ j, k ≤ j ∧ j ≤ n ∧ i = .int .i64 (j : Nat) ∧ Cmp3 w g lo bi bt (tmp + n) (tmp + j) L (hadX m tmp (xs.take k)) f (tyX tmp (L.take k)) w' ∧ w'.heap[bx]? = some (.cells #[.int .i64 ek, .int .i64 ety, .int .i64 eop, .int .i64 eoff, .slice (some ⟨bl, 0, none⟩) el.length el.length] 64) ∧ w'.heap[bl]? = some (.cells (atomsC el) 59)) (fun i _ => n - (intOf i).toNat)
                case atStart => exact ⟨k, Nat.le_refl _, by omega, rfl, HB.out, HBX.out, HKA.out⟩
                case round =>
                  obtain ⟨j, hkj, hj, rfl, hC, hX, hY⟩ := hrel
                  have HC2 := Lib.hid hC
                  have HX2 := Lib.hid hX
                  have HY2 := Lib.hid hY
                  clear hC hX hY
                  by_cases hltj : j < n
                  · obtain ⟨e1, u, e0, -⟩ := HC2.out.tmps (tmp + j) (by omega)
                    go_wp2_with fail
                    go_roundw
                    case rel => exact ⟨j + 1, by omega, by omega, by simp, HC2.out.put (tmp + j) _ (tmp + (j + 1)) _ (HC2.out.tmps.put (tmp + j) (by omega) _ (.inr ⟨rfl, by omega⟩) 0 (tyX_past k _ (by omega)).symm), ((only_setCell _ _ _ _).block bx (by omega)).trans HX2.out, ((only_setCell _ _ _ _).block bl (by omega)).trans HY2.out⟩
                    case measure => simp [intOf]; omega
                  · obtain rfl : n = j := by omega
                    obtain ⟨wC, hwC⟩ : ∃ wC, wC = wr := ⟨_, rfl⟩
                    subst hwC
                    clear HB HBX hltj
                    have q0 := cell_of_heap HX2.out (i := 0) rfl
                    have q1 := cell_of_heap HX2.out (i := 1) rfl
                    have q2 := cell_of_heap HX2.out (i := 2) rfl
                    have q3 := cell_of_heap HX2.out (i := 3) rfl
                    have q4 := cell_of_heap HX2.out (i := 4) rfl
                    have hlx := lt_of_heap HX2.out
                    have hlbl := lt_of_heap HY2.out
                    have hAI : AtomsIn wC bl 0 el := fun k a hk j u hu => by
                      have := atoms_cell HY2.out hk j u hu
                      simpa using this
                    have HAI := Lib.hid hAI
                    clear hAI
                    have hWX := hadX_words (had := m) (tmp := (tmp : Int)) HWD.out (fun x hx => HRV.out x (List.mem_of_mem_take (i := k) hx))
                    have HWX := Lib.hid hWX
                    have CV := Lib.hid (show Calls Try.prog 34 #[.agg #[.int .i64 ek, .int .i64 ety, .int .i64 eop, .int .i64 eoff, .slice (some ⟨bl, 0, none⟩) el.length el.length], .func (.func 33) #[] #[.pointer (some ⟨bi + 1 + 1, 0, none⟩)]] wC _ from value_v bl (bi + 2) (bi + 1) _ _ ⟨ek, ety, eop, eoff, el⟩ v wC HD.out HAI.out hlbl HC2.out.kn HWX.out HEK.out)
                    clear hWX
                    go_wp2_with fail
                    refine CV.out.mono ?_
                    rintro e w4 ⟨rfl, hb4⟩
                    have HC4 := Lib.hid (HC2.out.grow hb4)
                    have HX4 := Lib.hid ((hb4.block _ hlx).trans HX2.out)
                    have HA4 := Lib.hid (HAI.out.new hlbl hb4)
                    have hlbl4 := Nat.lt_of_lt_of_le hlbl hb4.size
                    have hcl := Lib.hid (show ∀ t : Int, 0 ≤ t → tyX tmp (L.take k) t = 1 ∨ tyX tmp (L.take k) t = 32 → t < (tmp + n : Nat) ∧ w4.cell? ⟨bt, 0 + t.toNat, none⟩ = some (.int .i64 (tyX tmp (L.take k) t)) from fun t ht0 ht => by
                      have hlt' : t < tmp + k := by
                        refine Classical.byContradiction fun hh => ?_
                        rw [tyX_past k t (by omega)] at ht
                        omega
                      obtain ⟨-, u, hu, hu2⟩ := HC4.out.tmps t.toNat (by omega)
                      have := hu2 (by omega)
                      rw [show ((t.toNat : Nat) : Int) = t by omega] at this
                      rw [this] at hu
                      rw [Nat.zero_add]
                      exact ⟨by omega, hu⟩)
                    have C1 := Lib.hid (show ∀ u, New w4 u → Calls Try.prog 35 #[.slice (some ⟨bt, 0, none⟩) (tmp + n) (tmp + n), .agg #[.int .i64 ek, .int .i64 ety, .int .i64 eop, .int .i64 eoff, .slice (some ⟨bl, 0, none⟩) el.length el.length]] u fun r w' => r = .returned (.int .i64 ety) ∧ New u w' from fun u hu =>
                      exprtype_v bl bt 0 (tmp + n) (tmp + n) _ _ ⟨ek, ety, eop, eoff, el⟩ v u HD.out (HA4.out.new hlbl4 hu) (Nat.lt_of_lt_of_le hlbl4 hu.size) (Nat.lt_of_lt_of_le HC4.out.lt hu.size) (by omega) HEK.out (fun t h0 h1 => ⟨(hcl.out t h0 h1).1, (hu.cell (p := ⟨bt, 0 + t.toNat, none⟩) HC4.out.lt).trans (hcl.out t h0 h1).2⟩))
                    have hvt := vd_ty HD.out
                    dsimp only at hvt
                    clear q0 q1 q2 q3 q4 hlx hlbl CV HC2 HX2 HAI hb4 HY2 HKA hbt
                    go_upto_region 40 with (fail)
                    go_cut [117, 159] (fun i c w' => i = .int .i64 (k : Nat) ∧ c = .bool false ∧ New w4 w')
                    case first =>
                      have ql := lt_of_heap HX4.out
                      have q0 := cell_of_heap HX4.out (i := 0) rfl
                      have q1 := cell_of_heap HX4.out (i := 1) rfl
                      have q2 := cell_of_heap HX4.out (i := 2) rfl
                      have q3 := cell_of_heap HX4.out (i := 3) rfl
                      have q4 := cell_of_heap HX4.out (i := 4) rfl
                      rcases hvt with rfl | rfl
                      · (first | (go_region_with (first | (go_at_call 35; (with_reducible refine (C1.out _ (by first | exact New.refl _ | exact (New.refl _).drew)).mono ?_); rintro e u1 ⟨rfl, hb1⟩; have hb1' : New w4 u1 := (by first | exact hb1 | exact Below.trans ((New.refl w4).drew) hb1); have e1_q0 := (hb1'.cell (p := ⟨bx, 0, none⟩) ql).trans q0; have e1_q1 := (hb1'.cell (p := ⟨bx, 1, none⟩) ql).trans q1; have ql1 := Nat.lt_of_lt_of_le ql hb1'.size; have HB1 := Lib.hid hb1'; clear hb1 hb1'))) | fail)
                        all_goals
                          go_wp2_with fail
                          go_meet
                          case rel => exact ⟨rfl, rfl, by assumption⟩
                      · go_region_held3 (fun w' => w'.cell? ⟨bx, 0, none⟩ = some (.int .i64 ek) ∧ w'.cell? ⟨bx, 1, none⟩ = some (.int .i64 32) ∧ w'.cell? ⟨bx, 2, none⟩ = some (.int .i64 eop) ∧ w'.cell? ⟨bx, 3, none⟩ = some (.int .i64 eoff) ∧ w'.cell? ⟨bx, 4, none⟩ = some (.slice (some ⟨bl, 0, none⟩) el.length el.length) ∧ New w4 w') (((try dsimp only); (repeat' apply And.intro) <;> (first | assumption | (go_keep; done) | (exact Below.alloc (by assumption) (by omega) _) | (exact Below.alloc (by assumption) (Nat.le_refl _) _) | (go_grown; done))))
                          (first | (go_at_call 35; (with_reducible refine (C1.out _ (‹_ ∧ _ ∧ _ ∧ _ ∧ _ ∧ _›).2.2.2.2.2).mono ?_); rintro e u1 ⟨rfl, hb1⟩; have hH1 := ‹_ ∧ _ ∧ _ ∧ _ ∧ _ ∧ _›; have e1_q0 := (hb1.cell (p := ⟨bx, 0, none⟩) (Nat.lt_of_lt_of_le ql hH1.2.2.2.2.2.size)).trans hH1.1; have e1_q1 := (hb1.cell (p := ⟨bx, 1, none⟩) (Nat.lt_of_lt_of_le ql hH1.2.2.2.2.2.size)).trans hH1.2.1; have e1_q2 := (hb1.cell (p := ⟨bx, 2, none⟩) (Nat.lt_of_lt_of_le ql hH1.2.2.2.2.2.size)).trans hH1.2.2.1; have e1_q3 := (hb1.cell (p := ⟨bx, 3, none⟩) (Nat.lt_of_lt_of_le ql hH1.2.2.2.2.2.size)).trans hH1.2.2.2.1; have e1_q4 := (hb1.cell (p := ⟨bx, 4, none⟩) (Nat.lt_of_lt_of_le ql hH1.2.2.2.2.2.size)).trans hH1.2.2.2.2.1; have hn1 := hH1.2.2.2.2.2.trans (hb1.mono hH1.2.2.2.2.2.size); have s1 := hn1.size; have HB1 := Lib.hid hb1; clear hH1 hb1))
                        go_wp2_with fail
                        go_meet
                        case rel => exact ⟨rfl, rfl, by assumption⟩
                    case rest =>
                      obtain ⟨rfl, rfl, hNc⟩ := hcut
                      obtain ⟨w5, hw5⟩ : ∃ w5, w5 = wc := ⟨_, rfl⟩
                      subst hw5
                      have HC5 := Lib.hid (HC4.out.grow hNc)
                      have HX5 := Lib.hid ((hNc.block _ (lt_of_heap HX4.out)).trans HX4.out)
                      clear hNc C1 hcl HA4 HX4 HC4 hlbl4
                      go_upto_region 42 with (fail)
                      have q1 := cell_of_heap HX5.out (i := 1) rfl
                      have hlx := lt_of_heap HX5.out
                      have e8 := HC5.out.kn.cell
                      have s8 := HC5.out.kn.lt
                      have lol := HC5.out.lol
                      have lob := HC5.out.lob
                      have hltt := HC5.out.lt
                      have HD5 := Lib.hid (HC5.out.grow ((New.refl w5).drew))
                      obtain ⟨f1, u, f0, -⟩ := HC5.out.tmps (tmp + k) (by omega)
                      have ht6 := HD5.out.tmps.turn (t' := tyX tmp (L.take (k + 1))) (tmp + k) ety (by rw [HTX.out, if_pos (by omega)]) (fun j hj => by rw [HTX.out, if_neg (by omega)])
                      have H7 := Lib.hid (HD5.out.put (tmp + k) _ _ _ ht6)
                      clear ht6
                      have hmn : hadX m tmp (xs.take k) (tmp + k) = none := hadX_new k (by rw [HRU.out.len, HLN.out]; exact hlt)
                      obtain ⟨es, c, h1, h2⟩ := H7.out.kn.map
                      have hsa := run_mapSet (P := Try.prog) (T := 55) Try.underlying55 Try.underlying3 es c (tmp + k) (.int .u32 v) (w5.drew.setCell ⟨bt, tmp + k, none⟩ (.int .i64 ety)) (bi + 1) h1 ((h2 _).1 hmn)
                      have hsb := run_mapSet (P := Try.prog) (T := 55) Try.underlying55 Try.underlying3 es c (tmp + k) (.int .u32 v) ((w5.setCell ⟨bt, tmp + k, none⟩ (.int .i64 ety)).drew) (bi + 1) h1 ((h2 _).1 hmn)
                      have H8 := Lib.hid ((H7.out.set es c h2 (tmp + k) v hmn).re HHX.out (H7.out.set es c h2 (tmp + k) v hmn).tmps)
                      clear HC5 HX5 h1 h2 hmn
                      have g1 : (0 : Int) ≤ (tmp : Int) + (k : Int) := by omega
                      have g2 : (tmp : Int) + (k : Int) < (tmp : Int) + (n : Int) := by omega
                      have g3 : ((tmp : Int) + (k : Int)).toNat = tmp + k := by omega
                      have g4 : IntKind.i64.wrap ((tmp : Int) + (k : Int)) = (tmp : Int) + (k : Int) := IntWalk.i64_in _ (by omega)
                      go_cut [117, 18] (fun i la w' => i = .int .i64 (k : Nat) ∧ la = .int .u32 v ∧ Cmp3 w g lo bi bt (tmp + n) (tmp + n) L (hadX m tmp (xs.take (k + 1))) f (tyX tmp (L.take (k + 1))) w')
                      case first =>
                        go_region_with (fail)
                        all_goals
                          go_wp2_with fail
                          go_meet
                          case rel => exact ⟨rfl, rfl, H8.out⟩
                      case rest =>
                        obtain ⟨rfl, rfl, hC6⟩ := hcut
                        obtain ⟨w6, hw6⟩ : ∃ w6, w6 = wc := ⟨_, rfl⟩
                        subst hw6
                        have H9 := Lib.hid hC6
                        clear hC6 H7 H8 HD5 hsa hsb q1 e8 hlx s8 lol lob hltt f1 f0 g4 g1 g2 g3
                        go_wp2_with fail
                        go_loopw [24] (fun i w' => ∃ j, k + 1 ≤ j ∧ j ≤ n ∧ i = .int .i64 (j : Nat) ∧ Cmp3 w g lo bi bt (tmp + n) (tmp + n) L (hadX m tmp (xs.take (k + 1))) f (tyX tmp (L.take (k + 1))) w') (fun i _ => n - (intOf i).toNat)
                        case atStart => exact ⟨k + 1, Nat.le_refl _, by omega, by simp, H9.out⟩
                        case round =>
                          obtain ⟨j, hkj, hj, rfl, hC⟩ := hrel
                          have HC2 := Lib.hid hC
                          clear hC H9
                          by_cases hltj : j < n
                          · obtain ⟨e1, u, e0, -⟩ := HC2.out.tmps (tmp + j) (by omega)
                            go_wp2_with fail
                            go_roundw
                            case rel => exact ⟨j + 1, by omega, by omega, by simp, HC2.out.put (tmp + j) _ (tmp + n) _ (HC2.out.tmps.put (tmp + j) (by omega) _ (.inl (Nat.le_refl _)) 0 (tyX_past (k + 1) _ (by omega)).symm)⟩
                            case measure => simp [intOf]; omega
                          · obtain rfl : n = j := by omega
                            go_wp2_with fail
                            go_roundw
                            case rel => exact ⟨k + 1, by omega, by simp, by unfold lastX; rw [if_neg (by omega), Nat.add_sub_cancel, List.getD_eq_getElem?_getD, HV.out]; rfl, HC2.out.re rfl (HC2.out.tmps.less (by omega) (fun _ _ => rfl))⟩
                            case measure => simp [intOf]; omega
              · obtain rfl : n = k := by omega
                obtain ⟨wD, hwD⟩ : ∃ wD, wD = wr := ⟨_, rfl⟩
                subst hwD
                have i0 := HA.out.ins.cell 0 (by decide)
                have i1 := HA.out.ins.cell 1 (by decide)
                have i2 := HA.out.ins.cell 2 (by decide)
                have i3 := HA.out.ins.cell 3 (by decide)
                have i4 := HA.out.ins.cell 4 (by decide)
                have hf0 := HFW.out 0 (by decide)
                have hf1 := HFW.out 1 (by decide)
                have hf2 := HFW.out 2 (by decide)
                have hf3 := HFW.out 3 (by decide)
                have hf4 := HFW.out 4 (by decide)
                have hxl : xs.length = n := by rw [HRU.out.len, HLN.out]
                have hlx : lastX xs n = tru (wantB (f 0) (f 1) (f 2) (f 3) (f 4)) := by
                  unfold lastX
                  rw [if_neg (by omega), List.getD_eq_getElem?_getD, ← hxl, ← List.getLast?_eq_getElem?, HLA.out]
                  rfl
                have hel : L[n - 1]? = some eL := by rw [← HLN.out, ← List.getLast?_eq_getElem?]; exact HEL.out
                obtain ⟨bl, ⟨hrow, hgl, -⟩, -, -⟩ := HA.out.rows.row (n - 1) eL hel
                have r1 := hrow 1 _ rfl
                rw [HTY.out] at r1
                obtain ⟨n, rfl⟩ : ∃ m, n = m + 1 := ⟨n - 1, by omega⟩
                rw [Nat.add_sub_cancel] at r1
                clear hrow hel hxl
                rcases Int.lt_or_le (f 0) 16 with hc | hc
                · have hwb : wantB (f 0) (f 1) (f 2) (f 3) (f 4) = condF (f 0) (f 1) (f 2) (f 3) (f 4) := by unfold wantB; rw [if_pos hc]
                  rw [hwb] at hlx
                  have CC := Lib.hid (cond_c (f 0) (f 1) (f 2) (f 3) (f 4) wD hf1.1 hf1.2 hf2.1 hf2.2 hf3.1 hf3.2 hf4.1 hf4.2)
                  clear hwb
                  cases hbb : condF (f 0) (f 1) (f 2) (f 3) (f 4) with
                  | false =>
                    rw [hbb] at CC hlx
                    clear hbb
                    rw [show lastX xs (n + 1) = 0 from hlx]
                    clear hlx
                    go_wp2_with (go_at_call 16; (with_reducible refine (CC.out).mono ?_); rintro e w7 ⟨rfl, hb7⟩; have r1' := (hb7.cell (p := ⟨g, n * 5 + 1, none⟩) hgl).trans r1; have HB7 := Lib.hid hb7; clear hb7)
                    go_ret
                    exact ⟨rfl, HA.out.new.trans (HB7.out.mono HA.out.new.size)⟩
                  | true =>
                    rw [hbb] at CC hlx
                    clear hbb
                    rw [show lastX xs (n + 1) = 1 from hlx]
                    clear hlx
                    go_wp2_with (go_at_call 16; (with_reducible refine (CC.out).mono ?_); rintro e w7 ⟨rfl, hb7⟩; have r1' := (hb7.cell (p := ⟨g, n * 5 + 1, none⟩) hgl).trans r1; have HB7 := Lib.hid hb7; clear hb7)
                    go_ret
                    exact ⟨rfl, HA.out.new.trans (HB7.out.mono HA.out.new.size)⟩
                · have hwb : wantB (f 0) (f 1) (f 2) (f 3) (f 4) = condF 16 (f 1) (f 2) (f 3) (f 4) := by unfold wantB; rw [if_neg (by omega)]
                  rw [hwb] at hlx
                  have CC := Lib.hid (cond_c 16 (f 1) (f 2) (f 3) (f 4) wD hf1.1 hf1.2 hf2.1 hf2.2 hf3.1 hf3.2 hf4.1 hf4.2)
                  clear hwb
                  cases hbb : condF 16 (f 1) (f 2) (f 3) (f 4) with
                  | false =>
                    rw [hbb] at CC hlx
                    clear hbb
                    rw [show lastX xs (n + 1) = 0 from hlx]
                    clear hlx
                    go_wp2_with (go_at_call 16; (with_reducible refine (CC.out).mono ?_); rintro e w7 ⟨rfl, hb7⟩; have r1' := (hb7.cell (p := ⟨g, n * 5 + 1, none⟩) hgl).trans r1; have HB7 := Lib.hid hb7; clear hb7)
                    go_ret
                    exact ⟨rfl, HA.out.new.trans (HB7.out.mono HA.out.new.size)⟩
                  | true =>
                    rw [hbb] at CC hlx
                    clear hbb
                    rw [show lastX xs (n + 1) = 1 from hlx]
                    clear hlx
                    go_wp2_with (go_at_call 16; (with_reducible refine (CC.out).mono ?_); rintro e w7 ⟨rfl, hb7⟩; have r1' := (hb7.cell (p := ⟨g, n * 5 + 1, none⟩) hgl).trans r1; have HB7 := Lib.hid hb7; clear hb7)
                    go_ret
                    exact ⟨rfl, HA.out.new.trans (HB7.out.mono HA.out.new.size)⟩
end Go.Proofs.Ytmkjgkldbonpnaa
/- The walk of ThunkCompares: the inputs that are let go. -/
namespace Go.Proofs.Ytmkjgkldbonpnaa
open Go Go.RowKit Go.Cd Go.ChangeShapes Go.WideShapes Go.ChangeAt
set_option linter.unusedVariables false
attribute [local go_sem ↓] Go.wp_at_zero Go.wp_at_succ 
set_option maxRecDepth 100000 in
set_option maxHeartbeats 4000000 in
theorem cmp_out (p : Option Addr) (cap : Nat) (l : List Atom) (tmp : Int) (v0 v1 v2 v3 v4 : Int) (w : World) (h : l.length ≠ 5 ∨ tmp < 100 ∨ 3000 < tmp) :
    Calls Try.prog 11 #[.slice p l.length cap, .int .i64 tmp, .agg #[.int .u32 v0, .int .u32 v1, .int .u32 v2, .int .u32 v3, .int .u32 v4]] w fun e w' => e = .returned (.bool true) ∧ New w w' := by
  generalize l.length = n at *
  by_cases h5 : n = 5
  · subst h5
    have h' : tmp < 100 ∨ 3000 < tmp := by omega
    rcases h' with h' | h'
    · go_enter Try.func11, Try.ntmps11
      go_wp2_with fail
      refine (sane_c _).mono ?_
      rintro e w1 ⟨rfl, hb1⟩
      have N1 := Lib.hid hb1
      clear hb1
      go_wp2
      go_ret
      exact ⟨rfl, Below.trans (by go_grown) (N1.out.mono (by simp))⟩
    · have h'' : ¬ tmp < 100 := by omega
      go_enter Try.func11, Try.ntmps11
      go_wp2_with fail
      refine (sane_c _).mono ?_
      rintro e w1 ⟨rfl, hb1⟩
      have N1 := Lib.hid hb1
      clear hb1
      go_wp2
      go_ret
      exact ⟨rfl, Below.trans (by go_grown) (N1.out.mono (by simp))⟩
  · have h5' : ¬ (n : Int) = 5 := by omega
    go_enter Try.func11, Try.ntmps11
    go_wp2_with fail
    refine (sane_c _).mono ?_
    rintro e w1 ⟨rfl, hb1⟩
    have N1 := Lib.hid hb1
    clear hb1
    go_wp2
    go_ret
    exact ⟨rfl, Below.trans (by go_grown) (N1.out.mono (by simp))⟩
end Go.Proofs.Ytmkjgkldbonpnaa
/- Arrays of whole numbers that came in by value. -/
namespace Go.Cd
open Go Go.ChangeShapes Go.WideShapes Go.ChangeAt Go.RowKit
section
variable {H : Type} {enc : TypeId × Value → H} {P : Program} {w : World} {base : Nat} {spare : Nat → Bool} {held : Bool}
theorem okWide_array {r : Reach} {b0 n : Nat} {t e : TypeId} {v : Value} (ht : P.underlying t = some (.array n e)) (h : Value.okWide P w r b0 t v) : ∃ cs, v = .agg cs ∧ cs.size = P.cellsOf t := by
  unfold Value.okWide at h
  rw [ht] at h
  obtain ⟨cs, h1, h2, _⟩ := h
  exact ⟨cs, h1, h2⟩
/-- The cells of an array of whole numbers. -/
theorem trod_ints_arr {n fuel : Nat} {t e : TypeId} {k : IntKind} {cs : List Value} {x : DataW H × List MemPlace} (ht : P.underlying t = some (.array n e)) (he : P.underlying e = some (.int k)) (hce : P.cellsOf e = 1) (hct : P.cellsOf t = n)
    (h : DataW.trod enc P w base spare held fuel t cs = some x) : ∃ l : List Int, cs = l.map (Value.int k) ∧ l.length = n ∧ ∀ z ∈ l, (Lit.int k z).wf = true := by
  obtain ⟨xs, m, _, _, hlen, hxl, hf⟩ := DataW.trod_array ht h
  rw [hct] at hlen
  have key : ∀ i, i < n → ∃ z : Int, cs[i]? = some (.int k z) ∧ (Lit.int k z).wf = true := fun i hi => by
    have h1 := hf i hi
    rw [List.getElem?_eq_getElem (by omega), hce, Nat.mul_one] at h1
    obtain ⟨z, hz, _, hw⟩ := DataW.trod_int he h1
    refine ⟨z, ?_, hw⟩
    have h2 : ((cs.drop i).take 1)[0]? = some (.int k z) := by rw [hz]; rfl
    rw [List.getElem?_take_of_lt (by decide), List.getElem?_drop] at h2
    simpa using h2
  have all : ∀ v ∈ cs, v = .int k (intOf v) ∧ (Lit.int k (intOf v)).wf = true := fun v hv => by
    obtain ⟨i, hi⟩ := List.mem_iff_getElem?.1 hv
    have hi' : i < n := by have := (List.getElem?_eq_some_iff.1 hi).1; omega
    obtain ⟨z, h1, h2⟩ := key i hi'
    rw [hi] at h1
    rw [Option.some.inj h1]
    exact ⟨rfl, h2⟩
  refine ⟨cs.map intOf, ?_, by simpa using hlen, fun z hz => ?_⟩
  · rw [List.map_map]
    conv => lhs; rw [← List.map_id cs]
    exact List.map_congr_left fun v hv => (all v hv).1
  · obtain ⟨v, hv, rfl⟩ := List.mem_map.1 hz
    exact (all v hv).2
theorem open_ints_arr {r : Reach} {b0 n : Nat} {t e : TypeId} {k : IntKind} {v : Value} {d : DataW H} {p : List MemPlace} (ht : P.underlying t = some (.array n e)) (he : P.underlying e = some (.int k)) (hce : P.cellsOf e = 1) (hct : P.cellsOf t = n)
    (hv : Value.okWide P w r b0 t v) (h : DataW.Trod enc P w base spare held t v d p) : ∃ l : List Int, v = .agg (l.map (Value.int k)).toArray ∧ l.length = n ∧ ∀ z ∈ l, (Lit.int k z).wf = true := by
  obtain ⟨cs, rfl, hsz⟩ := okWide_array ht hv
  obtain ⟨fuel, hf⟩ := h
  obtain ⟨l, h1, h2, h3⟩ := trod_ints_arr ht he hce hct hf
  refine ⟨l, ?_, h2, h3⟩
  have : cs.toList = l.map (Value.int k) := by simpa [Value.cells] using h1
  rw [← this]
end
end Go.Cd
