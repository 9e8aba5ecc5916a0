/- The operations on symbolic values: places, numbers, tuples, functions. -/
import Derived.Test.YtpooghnemlnopaaSx4
namespace Go.Sx
set_option linter.unusedSimpArgs false
set_option linter.unusedVariables false
open Go Go.RowKit Go.Cd Go.Proofs.Ytpooghnemlnopaa
section
variable {P : Program} {ρ : Env} {X : Nat → Prop} {w0 w : World} {look : Look} {fresh : Nat → Prop} {id : Nat} {r : SV × List Upd × List Nat}

def rep : Nat → List SV → List SV
  | 0, _ => []
  | n + 1, l => l ++ rep n l
theorem rep_length [Val] (l : List SV) : ∀ n, (rep n l).length = n * l.length
  | 0 => by simp [rep]
  | n + 1 => by rw [rep, List.length_append, rep_length l n, Nat.add_mul]; omega
theorem rep_get [Val] (l : List SV) : ∀ (n i : Nat), i < n * l.length → (rep n l)[i]? = l[i % l.length]?
  | 0, i, h => by simp at h
  | n + 1, i, h => by
    rw [rep, List.getElem?_append]
    by_cases hi : i < l.length
    · rw [if_pos hi, Nat.mod_eq_of_lt hi]
    · rw [if_neg hi, rep_get l n (i - l.length) (by rw [Nat.add_mul] at h; omega), ← Nat.mod_eq_sub_mod (by omega)]
theorem rep_den [Val] {zs : List SV} {z : Array Value} (h : SV.DenL ρ zs z.toList) (n : Nat) : SV.DenL ρ (rep n zs) ((Array.range (n * z.size)).map (z[· % z.size]!)).toList := by
  have hl := denL_length h
  simp at hl
  refine denL_of_get (by simp [rep_length, hl]) fun i s e => ?_
  have hi := (List.getElem?_eq_some_iff.1 e).1
  rw [rep_length] at hi
  rw [rep_get _ _ _ hi] at e
  obtain ⟨v, hv, hs⟩ := denL_get h e
  refine ⟨v, ?_, hs⟩
  have hlt : i % z.size < z.size := by
    have := (List.getElem?_eq_some_iff.1 hv).1
    rw [← hl] at this; simpa using this
  have e2 : z[i % z.size]! = v := by
    rw [getElem!_pos z _ hlt]
    rw [← hl, Array.getElem?_toList, Array.getElem?_eq_getElem hlt] at hv
    injection hv
  simp only [Array.toList_map, Array.toList_range, List.getElem?_map]
  rw [List.getElem?_range (by rw [hl]; exact hi)]
  simp [e2]
def sBuildSlice (P : Program) (id : Nat) (t : TypeId) (len : Nat) (parts : List (Nat × SV)) : R :=
  match tyOf P t with
  | none => none
  | some ti => match ti.desc with
    | .slice elem => match tyOf P elem with
      | none => none
      | some te => match te.zero with
        | none => none
        | some z => match Nat.beq z.cells.length te.size with
          | false => none
          | true => match Nat.ble 1 (len * te.size), Nat.ble (len * te.size) 16777216 with
            | true, true => match fillS (fun i => some (i * te.size, te.size)) (rep len z.cells) parts with
              | some l => some (.sl id (.lit 0) (.lit len) (.lit len), [.ins id (.cells l elem)], [])
              | none => none
            | _, _ => none
    | _ => none
theorem sBuildSlice_ok [Val] {t : TypeId} {len : Nat} {ps : List (Nat × SV)} {qs : Array (Nat × Value)} (d : DenH ρ X w0 look fresh w) (hid : fresh id) (hp : DenPs ρ ps qs.toList) (h : sBuildSlice P id t len ps = some r) :
    Good P ρ X w0 look fresh id r (do pure (.value (← Instr.buildSlice t len qs))) w := by
  unfold sBuildSlice at h
  split at h <;> try cases h
  rename_i ti hti
  obtain ⟨i, hi, hu, hsz, _, _⟩ := tyOf_spec hti
  split at h <;> try cases h
  rename_i elem hdesc
  split at h <;> try cases h
  rename_i te hte
  obtain ⟨j, hj, _, hsj, _, hz⟩ := tyOf_spec hte
  split at h <;> try cases h
  rename_i s hs
  obtain ⟨z, hz1, hz2⟩ := hz s hs
  have hc : SV.DenL ρ s.cells z.cells.toList := cells_den hz2
  split at h <;> try cases h
  rename_i hbq
  have hbq := Nat.eq_of_beq_eq_true hbq
  split at h <;> try cases h
  rename_i h1 h2
  have h1 := Nat.le_of_ble_eq_true h1
  have h2 := Nat.le_of_ble_eq_true h2
  split at h <;> try cases h
  rename_i l hl
  have hcl := denL_length hc
  have hzs : z.cells.size = te.size := by simp at hcl; omega
  have hrep := rep_den hc len
  rw [hzs] at hrep
  obtain ⟨c', f1, f2, _⟩ := fillS_den hl hp hrep
  rw [hdesc] at hu
  have hrun : (Instr.buildSlice t len qs).run P w = .ok (.slice (some ⟨w.heap.size, 0, none⟩) len len) (w.alloc (.cells c' elem)) := by
    simp only [Instr.buildSlice, Sem.run_bind, zeroValue, typeInfo, hj, hz1, run_program, Result.andThen_ok, Sem.run_pure, run_underlying hu, run_sizeOf' hte]
    rw [if_neg (by omega), if_neg (by omega)]
    simp only [Sem.run_bind, zeroValue, typeInfo, hj, hz1, run_program, Result.andThen_ok, Sem.run_pure, hzs, f1]
    simp [newRow]
  refine Good.new d hid rfl hrun ⟨c'.toList, f2, by simp⟩ ?_
  simp only [SV.Den]
  exact ⟨_, 0, len, len, Env.put_same _ _ _, rfl, rfl, rfl, Nat.le_refl _, rfl⟩

/-! Places. -/
def offAdd : SOff → Nat → SOff
  | .lit m, n => .lit (m + n)
  | .idx b s l i, n => .idx (b + n) s l i
  | .any, _ => .any
theorem offAdd_den [Val] {o : SOff} {m : Nat} (n : Nat) (h : o.Den m) : (offAdd o n).Den (m + n) := by
  cases o with
  | lit k => simp only [SOff.Den] at h; subst h; rfl
  | idx b s l i => obtain ⟨rfl, h⟩ := h; exact ⟨by omega, h⟩
  | any => trivial
def sNilCheck : SV → R
  | .ptr h o => some (.ptr h o, [], [])
  | .fn (.func f) xs ys => some (.fn (.func f) xs ys, [], [])
  | _ => none
def sFieldAddr (P : Program) (t : TypeId) (x : SV) (f : Nat) : R :=
  match x with
  | .ptr h o => match tyOf P t with
    | none => none
    | some ti => match ti.desc with
      | .struct fields => match fields[f]? with
        | none => none
        | some fl => match tyOf P fl.type with
          | none => none
          | some tf => match Nat.ble 1 tf.size with
            | true => some (.ptr h (offAdd o fl.offset), [], [])
            | false => none
      | _ => none
  | _ => none
theorem add_mk [Val] (b m n : Nat) : (⟨b, m, none⟩ : Addr).add n = ⟨b, m + n, none⟩ := Addr.add_mid b m n
theorem sFieldAddr_ok [Val] {t : TypeId} {x : SV} {xv : Value} {f : Nat} (d : DenH ρ X w0 look fresh w) (hx : x.Den ρ xv) (h : sFieldAddr P t x f = some r) : Good P ρ X w0 look fresh id r (do pure (.value (← Instr.fieldAt t xv f))) w := by
  unfold sFieldAddr at h
  split at h <;> try cases h
  rename_i hh o
  split at h <;> try cases h
  rename_i ti hti
  obtain ⟨i, hi, hu, hsz, _, _⟩ := tyOf_spec hti
  split at h <;> try cases h
  rename_i fields hdesc
  split at h <;> try cases h
  rename_i fl hfl
  split at h <;> try cases h
  rename_i tf htf
  split at h <;> try cases h
  rename_i hb1
  have hb1 := Nat.le_of_ble_eq_true hb1
  simp only [SV.Den] at hx
  obtain ⟨b, m, hb, hm, rfl⟩ := hx
  rw [hdesc] at hu
  refine Good.value d (val := .pointer (some ⟨b, m + fl.offset, none⟩)) ?_ (by simp only [SV.Den]; exact ⟨b, _, hb, offAdd_den _ hm, rfl⟩)
  simp only [Instr.fieldAt, Sem.run_bind, run_underlying hu, Result.andThen_ok, hfl, Instr.sureAddr, Sem.run_pure, fieldPlace, run_sizeOf' htf]
  rw [if_neg (by omega)]
  simp [add_mk]
def sField (P : Program) (t : TypeId) (x : SV) (f : Nat) : R :=
  match x with
  | .agg l => match tyOf P t with
    | none => none
    | some ti => match ti.desc with
      | .struct fields => match fields[f]? with
        | none => none
        | some fl => match tyOf P fl.type with
          | none => none
          | some tf => match tf.desc.isRow with
            | true => match takeN tf.size (dropN fl.offset l) with
              | some xs => some (.agg xs, [], [])
              | none => none
            | false => match nth l fl.offset with
              | some y => some (y, [], [])
              | none => none
      | _ => none
  | _ => none
theorem run_isAgg [Val] {t : TypeId} {ti : TyI} (h : tyOf P t = some ti) (w : World) : (isAgg t).run P w = .ok ti.desc.isRow w := by
  obtain ⟨i, _, hu, _, _, _⟩ := tyOf_spec h
  unfold isAgg
  rw [Sem.run_bind, run_underlying hu w]
  cases ti.desc <;> simp [TypeDesc.isRow]
theorem run_part_row [Val] {t : TypeId} {ti : TyI} (h : tyOf P t = some ti) (hr : ti.desc.isRow = true) (vs : List Value) (o : Nat) (w : World) : (part t vs.toArray o).run P w = .ok (.agg ((vs.drop o).take ti.size).toArray) w := by
  simp only [part, Sem.run_bind, run_isAgg h, Result.andThen_ok, hr, if_true, run_sizeOf' h, Sem.run_pure]
  simp
theorem run_part_cell [Val] {t : TypeId} {ti : TyI} (h : tyOf P t = some ti) (hr : ti.desc.isRow = false) {vs : List Value} {o : Nat} {v : Value} (hv : vs[o]? = some v) (w : World) : (part t vs.toArray o).run P w = .ok v w := by
  simp only [part, Sem.run_bind, run_isAgg h, Result.andThen_ok, hr]
  simp [hv]
theorem sField_ok [Val] {t : TypeId} {x : SV} {xv : Value} {f : Nat} (d : DenH ρ X w0 look fresh w) (hx : x.Den ρ xv) (h : sField P t x f = some r) : Good P ρ X w0 look fresh id r (do pure (.value (← Instr.field t xv f))) w := by
  unfold sField at h
  split at h <;> try cases h
  rename_i l
  split at h <;> try cases h
  rename_i ti hti
  obtain ⟨i, hi, hu, hsz, _, _⟩ := tyOf_spec hti
  split at h <;> try cases h
  rename_i fields hdesc
  split at h <;> try cases h
  rename_i fl hfl
  split at h <;> try cases h
  rename_i tf htf
  rw [hdesc] at hu
  simp only [SV.Den] at hx
  obtain ⟨vs, hvs, rfl⟩ := hx
  split at h
  · rename_i hrow
    split at h <;> try cases h
    rename_i xs hxs
    obtain ⟨e1, e2⟩ := takeN_eq hxs
    rw [dropN_eq] at e1 e2
    have hys := denL_take tf.size (denL_drop fl.offset hvs)
    rw [← e1] at hys
    refine Good.value d ?_ (by simp only [SV.Den]; exact ⟨_, hys, rfl⟩)
    simp only [Instr.field, Sem.run_bind, run_underlying hu, Result.andThen_ok, hfl, asAgg, Sem.run_pure, run_part_row htf hrow]
  · rename_i hrow
    split at h <;> try cases h
    rename_i y hy
    rw [nth_eq] at hy
    obtain ⟨v, hv, hyv⟩ := denL_get hvs hy
    refine Good.value d ?_ hyv
    simp only [Instr.field, Sem.run_bind, run_underlying hu, Result.andThen_ok, hfl, asAgg, Sem.run_pure, run_part_cell htf hrow hv]
/-- The place of an element: i known, or open with 0 ≤ i < n (then the whole row lies behind a known place). -/
def elemOff (o : SOff) (sz n : Nat) (i : SI) : Option SOff :=
  match i with
  | .lit (.ofNat k) => match Nat.blt k n with
    | true => some (offAdd o (k * sz))
    | false => none
  | .lit _ => none
  | .sym t => match o, t.within 0 (n - 1) with
    | .lit m, true => some (.idx m sz n t)
    | _, _ => none
def sIndexAddr (P : Program) (t : TypeId) (x i : SV) : R :=
  match i with
  | .int _ ix => match tyOf P t with
    | none => none
    | some ti => match ti.desc, x with
      | .array n elem, .ptr h o => match tyOf P elem with
        | none => none
        | some te => match elemOff o te.size n ix with
          | some o' => some (.ptr h o', [], [])
          | none => none
      | .slice elem, .sl h o (.lit n) _ => match tyOf P elem with
        | none => none
        | some te => match elemOff o te.size n ix with
          | some o' => some (.ptr h o', [], [])
          | none => none
      | _, _ => none
  | _ => none
theorem elemOff_den [Val] {o o' : SOff} {sz n m : Nat} {i : SI} (h : elemOff o sz n i = some o') (hm : o.Den m) : 0 ≤ i.v ∧ i.v < n ∧ o'.Den (m + i.v.toNat * sz) := by
  unfold elemOff at h
  split at h <;> try (cases h; done)
  · rename_i k
    split at h <;> try cases h
    rename_i hb
    have hb : k < n := Nat.le_of_ble_eq_true hb
    simp only [SI.v]
    exact ⟨by simp, by simpa using hb, by simpa using offAdd_den _ hm⟩
  · rename_i t
    split at h <;> cases h
    rename_i q hw
    obtain ⟨h1, h2⟩ := Tm.within_ok hw
    simp only [SOff.Den] at hm; subst hm
    simp only [SI.v, SOff.Den]
    refine ⟨h1, by omega, by rw [Nat.mul_comm], h1, by omega⟩
theorem sIndexAddr_ok [Val] {t : TypeId} {x i : SV} {xv iv : Value} (d : DenH ρ X w0 look fresh w) (hx : x.Den ρ xv) (hi : i.Den ρ iv) (h : sIndexAddr P t x i = some r) : Good P ρ X w0 look fresh id r (do pure (.value (← Instr.indexAt t xv iv))) w := by
  unfold sIndexAddr at h
  split at h <;> try cases h
  rename_i k ix
  simp only [SV.Den] at hi; subst hi
  split at h <;> try cases h
  rename_i ti hti
  obtain ⟨_, _, hu, _, _, _⟩ := tyOf_spec hti
  split at h <;> try cases h
  · rename_i n elem hh o hdesc
    split at h <;> try cases h
    rename_i te hte
    split at h <;> try cases h
    rename_i o' ho'
    rw [hdesc] at hu
    simp only [SV.Den] at hx
    obtain ⟨b, m, hb, hm, rfl⟩ := hx
    obtain ⟨h0, h1, h2⟩ := elemOff_den ho' hm
    refine Good.value d (val := .pointer (some ⟨b, m + ix.v.toNat * te.size, none⟩)) ?_ (by simp only [SV.Den]; exact ⟨b, _, hb, h2, rfl⟩)
    simp only [Instr.indexAt, asIntOf, Sem.run_bind, Sem.run_pure, Result.andThen_ok, run_underlying hu, Instr.sureAddr]
    rw [if_pos ⟨h0, h1⟩]
    simp only [Sem.run_bind, Sem.run_pure, Result.andThen_ok, run_sizeOf' hte, add_mk]
  · rename_i elem hh o n c hdesc
    split at h <;> try cases h
    rename_i te hte
    split at h <;> try cases h
    rename_i o' ho'
    rw [hdesc] at hu
    simp only [SV.Den, SN.Den] at hx
    obtain ⟨b, m, n', cc, hb, hm, rfl, hc, _, rfl⟩ := hx
    obtain ⟨h0, h1, h2⟩ := elemOff_den ho' hm
    refine Good.value d (val := .pointer (some ⟨b, m + ix.v.toNat * te.size, none⟩)) ?_ (by simp only [SV.Den]; exact ⟨b, _, hb, h2, rfl⟩)
    simp only [Instr.indexAt, asIntOf, Sem.run_bind, Sem.run_pure, Result.andThen_ok, run_underlying hu]
    rw [if_pos ⟨h0, h1⟩]
    simp only [Sem.run_bind, Sem.run_pure, Result.andThen_ok, run_sizeOf' hte, add_mk]
def sIndex (P : Program) (t : TypeId) (x i : SV) : R :=
  match i with
  | .int _ (.lit (.ofNat k)) => match tyOf P t with
    | none => none
    | some ti => match ti.desc, x with
      | .array n elem, .agg l => match tyOf P elem with
        | none => none
        | some te => match Nat.blt k n with
          | false => none
          | true => match te.desc.isRow with
            | true => match takeN te.size (dropN (k * te.size) l) with
              | some xs => some (.agg xs, [], [])
              | none => none
            | false => match Nat.beq te.size 1 with
              | false => none
              | true => match nth l k with
                | some y => some (y, [], [])
                | none => none
      | .string, .str s => match s[k]? with
        | some b => some (.int .u8 (.lit b.toNat), [], [])
        | none => none
      | _, _ => none
  | _ => none
theorem sIndex_ok [Val] {t : TypeId} {x i : SV} {xv iv : Value} (d : DenH ρ X w0 look fresh w) (hx : x.Den ρ xv) (hi : i.Den ρ iv) (h : sIndex P t x i = some r) : Good P ρ X w0 look fresh id r (do pure (.value (← Instr.index t xv iv))) w := by
  unfold sIndex at h
  split at h <;> try cases h
  rename_i kk k
  simp only [SV.Den, SI.v] at hi; subst hi
  split at h <;> try cases h
  rename_i ti hti
  obtain ⟨_, _, hu, _, _, _⟩ := tyOf_spec hti
  split at h <;> try cases h
  · rename_i n elem l hdesc
    split at h <;> try cases h
    rename_i te hte
    split at h <;> try cases h
    rename_i hb
    have hb : k < n := Nat.le_of_ble_eq_true hb
    rw [hdesc] at hu
    simp only [SV.Den] at hx
    obtain ⟨vs, hvs, rfl⟩ := hx
    have hpos : (0 : Int) ≤ Int.ofNat k ∧ Int.ofNat k < (n : Int) := ⟨by simp, by simpa using hb⟩
    split at h
    · rename_i hrow
      split at h <;> try cases h
      rename_i xs hxs
      obtain ⟨e1, e2⟩ := takeN_eq hxs
      rw [dropN_eq] at e1 e2
      have hys := denL_take te.size (denL_drop (k * te.size) hvs)
      rw [← e1] at hys
      refine Good.value d ?_ (by simp only [SV.Den]; exact ⟨_, hys, rfl⟩)
      simp only [Instr.index, asIntOf, Sem.run_bind, Sem.run_pure, Result.andThen_ok, run_underlying hu]
      rw [if_pos hpos]
      simp only [Sem.run_bind, Result.andThen_ok, run_sizeOf' hte, run_part_row hte hrow]
      rfl
    · rename_i hrow
      split at h <;> try cases h
      rename_i hb1
      have hb1 := Nat.eq_of_beq_eq_true hb1
      split at h <;> try cases h
      rename_i y hy
      rw [nth_eq] at hy
      obtain ⟨v, hv, hyv⟩ := denL_get hvs hy
      refine Good.value d ?_ hyv
      simp only [Instr.index, asIntOf, Sem.run_bind, Sem.run_pure, Result.andThen_ok, run_underlying hu]
      rw [if_pos hpos]
      simp only [Sem.run_bind, Result.andThen_ok, run_sizeOf' hte]
      rw [run_part_cell hte hrow (v := v) (by simpa [hb1] using hv)]
  · rename_i s hdesc
    split at h <;> try cases h
    rename_i b hb
    rw [hdesc] at hu
    simp only [SV.Den] at hx; subst hx
    refine Good.value d (val := .int .u8 b.toNat) ?_ (by simp [SV.Den, SI.v])
    simp only [Instr.index, asIntOf, Sem.run_bind, Sem.run_pure, Result.andThen_ok, run_underlying hu]
    have e : (if (0 : Int) ≤ Int.ofNat k then s[(Int.ofNat k).toNat]? else none) = some b := by
      rw [if_pos (by simp)]; simpa using hb
    rw [e]
    simp
def sExtract (x : SV) (i : Nat) : R :=
  match x with
  | .tup l => match nth l i with
    | some y => some (y, [], [])
    | none => none
  | _ => none
theorem sExtract_ok [Val] {x : SV} {xv : Value} {i : Nat} (d : DenH ρ X w0 look fresh w) (hx : x.Den ρ xv) (h : sExtract x i = some r) : Good P ρ X w0 look fresh id r (do pure (.value (← Instr.extract xv i))) w := by
  unfold sExtract at h
  split at h <;> try cases h
  rename_i l
  split at h <;> try cases h
  rename_i y hy
  rw [nth_eq] at hy
  simp only [SV.Den] at hx
  obtain ⟨vs, hvs, rfl⟩ := hx
  obtain ⟨v, hv, hyv⟩ := denL_get hvs hy
  refine Good.value d ?_ hyv
  simp [Instr.extract, hv]
end
end Go.Sx
