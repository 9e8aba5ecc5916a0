/- Parts of the proof: Sx5, KitEq, Sx6, Sx7. -/
import Derived.Test.YtnoiijjkjcklpaaGreatZ2
import Derived.Laws.StructEq
import Derived.ChangeKeysEq
/- The operations on symbolic values: places, numbers, tuples, functions. -/
namespace Go.Sx
set_option linter.unusedSimpArgs false
set_option linter.unusedVariables false
open Go Go.RowKit Go.Cd Go.Proofs.YtnoiijjkjcklpaaGreat
section
variable {P : Program} {ρ : Env} {X : Nat → Prop} {w0 w : World} {look : Look} {fresh : Nat → Prop} {id : Nat} {r : SV × List Upd × List Nat}

def rep : Nat → List SV → List SV
  | 0, _ => []
  | n + 1, l => l ++ rep n l
theorem rep_length [Val] (l : List SV) : ∀ n, (rep n l).length = n * l.length
  | 0 => by simp [rep]
  | n + 1 => by rw [rep, List.length_append, rep_length l n, Nat.add_mul]; omega
theorem rep_get [Val] (l : List SV) : ∀ (n i : Nat), i < n * l.length → (rep n l)[i]? = l[i % l.length]?
  | 0, i, h => by simp at h
  | n + 1, i, h => by
    rw [rep, List.getElem?_append]
    by_cases hi : i < l.length
    · rw [if_pos hi, Nat.mod_eq_of_lt hi]
    · rw [if_neg hi, rep_get l n (i - l.length) (by rw [Nat.add_mul] at h; omega), ← Nat.mod_eq_sub_mod (by omega)]
theorem rep_den [Val] {zs : List SV} {z : Array Value} (h : SV.DenL ρ zs z.toList) (n : Nat) : SV.DenL ρ (rep n zs) ((Array.range (n * z.size)).map (z[· % z.size]!)).toList := by
  have hl := denL_length h
  simp at hl
  refine denL_of_get (by simp [rep_length, hl]) fun i s e => ?_
  have hi := (List.getElem?_eq_some_iff.1 e).1
  rw [rep_length] at hi
  rw [rep_get _ _ _ hi] at e
  obtain ⟨v, hv, hs⟩ := denL_get h e
  refine ⟨v, ?_, hs⟩
  have hlt : i % z.size < z.size := by
    have := (List.getElem?_eq_some_iff.1 hv).1
    rw [← hl] at this; simpa using this
  have e2 : z[i % z.size]! = v := by
    rw [getElem!_pos z _ hlt]
    rw [← hl, Array.getElem?_toList, Array.getElem?_eq_getElem hlt] at hv
    injection hv
  simp only [Array.toList_map, Array.toList_range, List.getElem?_map]
  rw [List.getElem?_range (by rw [hl]; exact hi)]
  simp [e2]
def sBuildSlice (P : Program) (id : Nat) (t : TypeId) (len : Nat) (parts : List (Nat × SV)) : R :=
  match tyOf P t with
  | none => none
  | some ti => match ti.desc with
    | .slice elem => match tyOf P elem with
      | none => none
      | some te => match te.zero with
        | none => none
        | some z => match Nat.beq z.cells.length te.size with
          | false => none
          | true => match Nat.ble 1 (len * te.size), Nat.ble (len * te.size) 16777216 with
            | true, true => match fillS (fun i => some (i * te.size, te.size)) (rep len z.cells) parts with
              | some l => some (.sl id (.lit 0) (.lit len) (.lit len), [.ins id (.cells l elem)], [])
              | none => none
            | _, _ => none
    | _ => none
theorem sBuildSlice_ok [Val] {t : TypeId} {len : Nat} {ps : List (Nat × SV)} {qs : Array (Nat × Value)} (d : DenH ρ X w0 look fresh w) (hid : fresh id) (hp : DenPs ρ ps qs.toList) (h : sBuildSlice P id t len ps = some r) :
    Good P ρ X w0 look fresh id r (do pure (.value (← Instr.buildSlice t len qs))) w := by
  unfold sBuildSlice at h
  split at h <;> try cases h
  rename_i ti hti
  obtain ⟨i, hi, hu, hsz, _, _⟩ := tyOf_spec hti
  split at h <;> try cases h
  rename_i elem hdesc
  split at h <;> try cases h
  rename_i te hte
  obtain ⟨j, hj, _, hsj, _, hz⟩ := tyOf_spec hte
  split at h <;> try cases h
  rename_i s hs
  obtain ⟨z, hz1, hz2⟩ := hz s hs
  have hc : SV.DenL ρ s.cells z.cells.toList := cells_den hz2
  split at h <;> try cases h
  rename_i hbq
  have hbq := Nat.eq_of_beq_eq_true hbq
  split at h <;> try cases h
  rename_i h1 h2
  have h1 := Nat.le_of_ble_eq_true h1
  have h2 := Nat.le_of_ble_eq_true h2
  split at h <;> try cases h
  rename_i l hl
  have hcl := denL_length hc
  have hzs : z.cells.size = te.size := by simp at hcl; omega
  have hrep := rep_den hc len
  rw [hzs] at hrep
  obtain ⟨c', f1, f2, _⟩ := fillS_den hl hp hrep
  rw [hdesc] at hu
  have hrun : (Instr.buildSlice t len qs).run P w = .ok (.slice (some ⟨w.heap.size, 0, none⟩) len len) (w.alloc (.cells c' elem)) := by
    simp only [Instr.buildSlice, Sem.run_bind, zeroValue, typeInfo, hj, hz1, run_program, Result.andThen_ok, Sem.run_pure, run_underlying hu, run_sizeOf' hte]
    rw [if_neg (by omega), if_neg (by omega)]
    simp only [Sem.run_bind, zeroValue, typeInfo, hj, hz1, run_program, Result.andThen_ok, Sem.run_pure, hzs, f1]
    simp [newRow]
  refine Good.new d hid rfl hrun ⟨c'.toList, f2, by simp⟩ ?_
  simp only [SV.Den]
  exact ⟨_, 0, len, len, Env.put_same _ _ _, rfl, rfl, rfl, Nat.le_refl _, rfl⟩

def offAdd : SOff → Nat → SOff
  | .lit m, n => .lit (m + n)
  | .idx b s l i, n => .idx (b + n) s l i
  | .raw b s l j i, n => .raw (b + n) s l j i
  | .any, _ => .any
theorem offAdd_den [Val] {o : SOff} {m : Nat} (n : Nat) (h : o.Den m) : (offAdd o n).Den (m + n) := by
  cases o with
  | lit k => simp only [SOff.Den] at h; subst h; rfl
  | idx b s l i => obtain ⟨rfl, h⟩ := h; exact ⟨by omega, h⟩
  | raw b s l j i => obtain ⟨rfl, h⟩ := h; exact ⟨by omega, h⟩
  | any => trivial
def sNilCheck : SV → R
  | .ptr h o => some (.ptr h o, [], [])
  | .fn (.func f) xs ys => some (.fn (.func f) xs ys, [], [])
  | _ => none
def sFieldAddr (P : Program) (t : TypeId) (x : SV) (f : Nat) : R :=
  match x with
  | .ptr h o => match tyOf P t with
    | none => none
    | some ti => match ti.desc with
      | .struct fields => match fields[f]? with
        | none => none
        | some fl => match tyOf P fl.type with
          | none => none
          | some tf => match Nat.ble 1 tf.size with
            | true => some (.ptr h (offAdd o fl.offset), [], [])
            | false => none
      | _ => none
  | _ => none
theorem add_mk [Val] (b m n : Nat) : (⟨b, m, none⟩ : Addr).add n = ⟨b, m + n, none⟩ := Addr.add_mid b m n
theorem sFieldAddr_ok [Val] {t : TypeId} {x : SV} {xv : Value} {f : Nat} (d : DenH ρ X w0 look fresh w) (hx : x.Den ρ xv) (h : sFieldAddr P t x f = some r) : Good P ρ X w0 look fresh id r (do pure (.value (← Instr.fieldAt t xv f))) w := by
  unfold sFieldAddr at h
  split at h <;> try cases h
  rename_i hh o
  split at h <;> try cases h
  rename_i ti hti
  obtain ⟨i, hi, hu, hsz, _, _⟩ := tyOf_spec hti
  split at h <;> try cases h
  rename_i fields hdesc
  split at h <;> try cases h
  rename_i fl hfl
  split at h <;> try cases h
  rename_i tf htf
  split at h <;> try cases h
  rename_i hb1
  have hb1 := Nat.le_of_ble_eq_true hb1
  simp only [SV.Den] at hx
  obtain ⟨b, m, hb, hm, rfl⟩ := hx
  rw [hdesc] at hu
  refine Good.value d (val := .pointer (some ⟨b, m + fl.offset, none⟩)) ?_ (by simp only [SV.Den]; exact ⟨b, _, hb, offAdd_den _ hm, rfl⟩)
  simp only [Instr.fieldAt, Sem.run_bind, run_underlying hu, Result.andThen_ok, hfl, Instr.sureAddr, Sem.run_pure, fieldPlace, run_sizeOf' htf]
  rw [if_neg (by omega)]
  simp [add_mk]
def sField (P : Program) (t : TypeId) (x : SV) (f : Nat) : R :=
  match x with
  | .agg l => match tyOf P t with
    | none => none
    | some ti => match ti.desc with
      | .struct fields => match fields[f]? with
        | none => none
        | some fl => match tyOf P fl.type with
          | none => none
          | some tf => match tf.desc.isRow with
            | true => match takeN tf.size (dropN fl.offset l) with
              | some xs => some (.agg xs, [], [])
              | none => none
            | false => match nth l fl.offset with
              | some y => some (y, [], [])
              | none => none
      | _ => none
  | _ => none
theorem run_isAgg [Val] {t : TypeId} {ti : TyI} (h : tyOf P t = some ti) (w : World) : (isAgg t).run P w = .ok ti.desc.isRow w := by
  obtain ⟨i, _, hu, _, _, _⟩ := tyOf_spec h
  unfold isAgg
  rw [Sem.run_bind, run_underlying hu w]
  cases ti.desc <;> simp [TypeDesc.isRow]
theorem run_part_row [Val] {t : TypeId} {ti : TyI} (h : tyOf P t = some ti) (hr : ti.desc.isRow = true) (vs : List Value) (o : Nat) (w : World) : (part t vs.toArray o).run P w = .ok (.agg ((vs.drop o).take ti.size).toArray) w := by
  simp only [part, Sem.run_bind, run_isAgg h, Result.andThen_ok, hr, if_true, run_sizeOf' h, Sem.run_pure]
  simp
theorem run_part_cell [Val] {t : TypeId} {ti : TyI} (h : tyOf P t = some ti) (hr : ti.desc.isRow = false) {vs : List Value} {o : Nat} {v : Value} (hv : vs[o]? = some v) (w : World) : (part t vs.toArray o).run P w = .ok v w := by
  simp only [part, Sem.run_bind, run_isAgg h, Result.andThen_ok, hr]
  simp [hv]
theorem sField_ok [Val] {t : TypeId} {x : SV} {xv : Value} {f : Nat} (d : DenH ρ X w0 look fresh w) (hx : x.Den ρ xv) (h : sField P t x f = some r) : Good P ρ X w0 look fresh id r (do pure (.value (← Instr.field t xv f))) w := by
  unfold sField at h
  split at h <;> try cases h
  rename_i l
  split at h <;> try cases h
  rename_i ti hti
  obtain ⟨i, hi, hu, hsz, _, _⟩ := tyOf_spec hti
  split at h <;> try cases h
  rename_i fields hdesc
  split at h <;> try cases h
  rename_i fl hfl
  split at h <;> try cases h
  rename_i tf htf
  rw [hdesc] at hu
  simp only [SV.Den] at hx
  obtain ⟨vs, hvs, rfl⟩ := hx
  split at h
  · rename_i hrow
    split at h <;> try cases h
    rename_i xs hxs
    obtain ⟨e1, e2⟩ := takeN_eq hxs
    rw [dropN_eq] at e1 e2
    have hys := denL_take tf.size (denL_drop fl.offset hvs)
    rw [← e1] at hys
    refine Good.value d ?_ (by simp only [SV.Den]; exact ⟨_, hys, rfl⟩)
    simp only [Instr.field, Sem.run_bind, run_underlying hu, Result.andThen_ok, hfl, asAgg, Sem.run_pure, run_part_row htf hrow]
  · rename_i hrow
    split at h <;> try cases h
    rename_i y hy
    rw [nth_eq] at hy
    obtain ⟨v, hv, hyv⟩ := denL_get hvs hy
    refine Good.value d ?_ hyv
    simp only [Instr.field, Sem.run_bind, run_underlying hu, Result.andThen_ok, hfl, asAgg, Sem.run_pure, run_part_cell htf hrow hv]
def elemOff (o : SOff) (sz n : Nat) (i : SI) : Option SOff :=
  match i with
  | .lit (.ofNat k) => match Nat.blt k n with
    | true => some (offAdd o (k * sz))
    | false => none
  | .lit _ => none
  | .sym t => match o, t.within 0 (n - 1) with
    | .lit m, true => some (.idx m sz n t)
    | _, _ => none
def sIndexAddr (P : Program) (t : TypeId) (x i : SV) : R :=
  match i with
  | .int _ ix => match tyOf P t with
    | none => none
    | some ti => match ti.desc, x with
      | .array n elem, .ptr h o => match tyOf P elem with
        | none => none
        | some te => match elemOff o te.size n ix with
          | some o' => some (.ptr h o', [], [])
          | none => none
      | .slice elem, .sl h o (.lit n) _ => match tyOf P elem with
        | none => none
        | some te => match elemOff o te.size n ix with
          | some o' => some (.ptr h o', [], [])
          | none => none
      | _, _ => none
  | _ => none
theorem elemOff_den [Val] {o o' : SOff} {sz n m : Nat} {i : SI} (h : elemOff o sz n i = some o') (hm : o.Den m) : 0 ≤ i.v ∧ i.v < n ∧ o'.Den (m + i.v.toNat * sz) := by
  unfold elemOff at h
  split at h <;> try (cases h; done)
  · rename_i k
    split at h <;> try cases h
    rename_i hb
    have hb : k < n := Nat.le_of_ble_eq_true hb
    simp only [SI.v]
    exact ⟨by simp, by simpa using hb, by simpa using offAdd_den _ hm⟩
  · rename_i t
    split at h <;> cases h
    rename_i q hw
    obtain ⟨h1, h2⟩ := Tm.within_ok hw
    simp only [SOff.Den] at hm; subst hm
    simp only [SI.v, SOff.Den]
    refine ⟨h1, by omega, by rw [Nat.mul_comm], h1, by omega⟩
theorem sIndexAddr_ok [Val] {t : TypeId} {x i : SV} {xv iv : Value} (d : DenH ρ X w0 look fresh w) (hx : x.Den ρ xv) (hi : i.Den ρ iv) (h : sIndexAddr P t x i = some r) : Good P ρ X w0 look fresh id r (do pure (.value (← Instr.indexAt t xv iv))) w := by
  unfold sIndexAddr at h
  split at h <;> try cases h
  rename_i k ix
  simp only [SV.Den] at hi; subst hi
  split at h <;> try cases h
  rename_i ti hti
  obtain ⟨_, _, hu, _, _, _⟩ := tyOf_spec hti
  split at h <;> try cases h
  · rename_i n elem hh o hdesc
    split at h <;> try cases h
    rename_i te hte
    split at h <;> try cases h
    rename_i o' ho'
    rw [hdesc] at hu
    simp only [SV.Den] at hx
    obtain ⟨b, m, hb, hm, rfl⟩ := hx
    obtain ⟨h0, h1, h2⟩ := elemOff_den ho' hm
    refine Good.value d (val := .pointer (some ⟨b, m + ix.v.toNat * te.size, none⟩)) ?_ (by simp only [SV.Den]; exact ⟨b, _, hb, h2, rfl⟩)
    simp only [Instr.indexAt, asIntOf, Sem.run_bind, Sem.run_pure, Result.andThen_ok, run_underlying hu, Instr.sureAddr]
    rw [if_pos ⟨h0, h1⟩]
    simp only [Sem.run_bind, Sem.run_pure, Result.andThen_ok, run_sizeOf' hte, add_mk]
  · rename_i elem hh o n c hdesc
    split at h <;> try cases h
    rename_i te hte
    split at h <;> try cases h
    rename_i o' ho'
    rw [hdesc] at hu
    simp only [SV.Den, SN.Den] at hx
    obtain ⟨b, m, n', cc, hb, hm, rfl, hc, _, rfl⟩ := hx
    obtain ⟨h0, h1, h2⟩ := elemOff_den ho' hm
    refine Good.value d (val := .pointer (some ⟨b, m + ix.v.toNat * te.size, none⟩)) ?_ (by simp only [SV.Den]; exact ⟨b, _, hb, h2, rfl⟩)
    simp only [Instr.indexAt, asIntOf, Sem.run_bind, Sem.run_pure, Result.andThen_ok, run_underlying hu]
    rw [if_pos ⟨h0, h1⟩]
    simp only [Sem.run_bind, Sem.run_pure, Result.andThen_ok, run_sizeOf' hte, add_mk]
def sIndex (P : Program) (t : TypeId) (x i : SV) : R :=
  match i with
  | .int _ (.lit (.ofNat k)) => match tyOf P t with
    | none => none
    | some ti => match ti.desc, x with
      | .array n elem, .agg l => match tyOf P elem with
        | none => none
        | some te => match Nat.blt k n with
          | false => none
          | true => match te.desc.isRow with
            | true => match takeN te.size (dropN (k * te.size) l) with
              | some xs => some (.agg xs, [], [])
              | none => none
            | false => match Nat.beq te.size 1 with
              | false => none
              | true => match nth l k with
                | some y => some (y, [], [])
                | none => none
      | .string, .str s => match s[k]? with
        | some b => some (.int .u8 (.lit b.toNat), [], [])
        | none => none
      | _, _ => none
  | _ => none
theorem sIndex_ok [Val] {t : TypeId} {x i : SV} {xv iv : Value} (d : DenH ρ X w0 look fresh w) (hx : x.Den ρ xv) (hi : i.Den ρ iv) (h : sIndex P t x i = some r) : Good P ρ X w0 look fresh id r (do pure (.value (← Instr.index t xv iv))) w := by
  unfold sIndex at h
  split at h <;> try cases h
  rename_i kk k
  simp only [SV.Den, SI.v] at hi; subst hi
  split at h <;> try cases h
  rename_i ti hti
  obtain ⟨_, _, hu, _, _, _⟩ := tyOf_spec hti
  split at h <;> try cases h
  · rename_i n elem l hdesc
    split at h <;> try cases h
    rename_i te hte
    split at h <;> try cases h
    rename_i hb
    have hb : k < n := Nat.le_of_ble_eq_true hb
    rw [hdesc] at hu
    simp only [SV.Den] at hx
    obtain ⟨vs, hvs, rfl⟩ := hx
    have hpos : (0 : Int) ≤ Int.ofNat k ∧ Int.ofNat k < (n : Int) := ⟨by simp, by simpa using hb⟩
    split at h
    · rename_i hrow
      split at h <;> try cases h
      rename_i xs hxs
      obtain ⟨e1, e2⟩ := takeN_eq hxs
      rw [dropN_eq] at e1 e2
      have hys := denL_take te.size (denL_drop (k * te.size) hvs)
      rw [← e1] at hys
      refine Good.value d ?_ (by simp only [SV.Den]; exact ⟨_, hys, rfl⟩)
      simp only [Instr.index, asIntOf, Sem.run_bind, Sem.run_pure, Result.andThen_ok, run_underlying hu]
      rw [if_pos hpos]
      simp only [Sem.run_bind, Result.andThen_ok, run_sizeOf' hte, run_part_row hte hrow]
      rfl
    · rename_i hrow
      split at h <;> try cases h
      rename_i hb1
      have hb1 := Nat.eq_of_beq_eq_true hb1
      split at h <;> try cases h
      rename_i y hy
      rw [nth_eq] at hy
      obtain ⟨v, hv, hyv⟩ := denL_get hvs hy
      refine Good.value d ?_ hyv
      simp only [Instr.index, asIntOf, Sem.run_bind, Sem.run_pure, Result.andThen_ok, run_underlying hu]
      rw [if_pos hpos]
      simp only [Sem.run_bind, Result.andThen_ok, run_sizeOf' hte]
      rw [run_part_cell hte hrow (v := v) (by simpa [hb1] using hv)]
  · rename_i s hdesc
    split at h <;> try cases h
    rename_i b hb
    rw [hdesc] at hu
    simp only [SV.Den] at hx; subst hx
    refine Good.value d (val := .int .u8 b.toNat) ?_ (by simp [SV.Den, SI.v])
    simp only [Instr.index, asIntOf, Sem.run_bind, Sem.run_pure, Result.andThen_ok, run_underlying hu]
    have e : (if (0 : Int) ≤ Int.ofNat k then s[(Int.ofNat k).toNat]? else none) = some b := by
      rw [if_pos (by simp)]; simpa using hb
    rw [e]
    simp
def sExtract (x : SV) (i : Nat) : R :=
  match x with
  | .tup l => match nth l i with
    | some y => some (y, [], [])
    | none => none
  | _ => none
theorem sExtract_ok [Val] {x : SV} {xv : Value} {i : Nat} (d : DenH ρ X w0 look fresh w) (hx : x.Den ρ xv) (h : sExtract x i = some r) : Good P ρ X w0 look fresh id r (do pure (.value (← Instr.extract xv i))) w := by
  unfold sExtract at h
  split at h <;> try cases h
  rename_i l
  split at h <;> try cases h
  rename_i y hy
  rw [nth_eq] at hy
  simp only [SV.Den] at hx
  obtain ⟨vs, hvs, rfl⟩ := hx
  obtain ⟨v, hv, hyv⟩ := denL_get hvs hy
  refine Good.value d ?_ hyv
  simp [Instr.extract, hv]
end
end Go.Sx
/- Laws for '==' of structs and arrays, as one Bool. -/
namespace Go.Cd
open Go
section
variable {P : Program} {d : Nat} {xs ys : Array Value} {f : Field} {fs : List Field} {a b : Value} {r s : Bool} {w : World}
theorem eqF_nil : (Op.eqFields d xs ys []).run P w = .ok true w := by simp [Op.eqFields]
theorem eqF_cons (hn : f.name ≠ "_") (ha : (part f.type xs f.offset).run P w = .ok a w) (hb : (part f.type ys f.offset).run P w = .ok b w) (he : (Op.equalIn d f.type a b).run P w = .ok r w)
    (hr : (Op.eqFields d xs ys fs).run P w = .ok s w) : (Op.eqFields d xs ys (f :: fs)).run P w = .ok (r && s) w := by
  rw [Op.eqFields, if_pos hn]
  simp only [Sem.run_bind, ha, hb, he, Result.andThen_ok]
  cases r <;> simp [hr]
theorem eqI_nil {e n : Nat} : (Op.eqItems d e n xs ys []).run P w = .ok true w := by simp [Op.eqItems]
theorem eqI_cons {e n i : Nat} {is : List Nat} (ha : (part e xs (i * n)).run P w = .ok a w) (hb : (part e ys (i * n)).run P w = .ok b w) (he : (Op.equalIn d e a b).run P w = .ok r w)
    (hr : (Op.eqItems d e n xs ys is).run P w = .ok s w) : (Op.eqItems d e n xs ys (i :: is)).run P w = .ok (r && s) w := by
  rw [Op.eqItems]
  simp only [Sem.run_bind, ha, hb, he, Result.andThen_ok]
  cases r <;> simp [hr]
theorem eq_struct {t : TypeId} {F : Array Field} (hu : P.underlying t = some (.struct F)) (hp : P.stoodInHeld t = false) (h : (Op.eqFields d xs ys F.toList).run P w = .ok r w) : (Op.equalIn (d + 1) t (.agg xs) (.agg ys)).run P w = .ok r w := by
  have hF : P.fieldsOf t = F := by simp [Program.fieldsOf, hu]
  rw [run_equalIn_struct w d t xs ys (by rw [hF]; exact hu) hp, hF]
  exact h
end
end Go.Cd
/- The operations on symbolic values: numbers, truth, comparisons. -/
namespace Go.Sx
set_option linter.unusedSimpArgs false
set_option linter.unusedVariables false
open Go Go.RowKit Go.Cd Go.Proofs.YtnoiijjkjcklpaaGreat

@[simp] theorem SI.lit_v [Val] (n : Int) : (SI.lit n).v = n := rfl
@[simp] theorem SI.sym_v [Val] (n : Tm) : (SI.sym n).v = n.v := rfl
@[simp] theorem SB.lit_v [Val] (n : Bool) : (SB.lit n).v = n := rfl
@[simp] theorem SB.sym_v [Val] (n : Bm) : (SB.sym n).v = n.v := rfl
def SI.op (f : IOp) : SI → SI → SI
  | .lit a, .lit b => .lit (f.f a b)
  | a, b => SI.ofTm (mkOp f a.tm b.tm)
@[simp] theorem SI.op_v [Val] (f : IOp) (a b : SI) : (SI.op f a b).v = f.f a.v b.v := by
  cases a <;> cases b
  · rfl
  all_goals simp only [SI.op, SI.ofTm_v, mkOp_v, SI.tm_v]
def SB.not : SB → SB
  | .lit a => .lit (!a)
  | .sym (.not a) => .sym a
  | .sym a => .sym (.not a)
@[simp] theorem SB.not_v [Val] (a : SB) : (SB.not a).v = !a.v := by
  unfold SB.not
  split <;> simp [SB.v, Bm.v]
def mkCmp (f : COp) (a b : Tm) : SB :=
  match f with
  | .eq => match a with
    | .lit n => .sym (.cmp .eq b (.lit n))
    | a => .sym (.cmp .eq a b)
  | .ne => match a with
    | .lit n => .sym (.not (.cmp .eq b (.lit n)))
    | a => .sym (.not (.cmp .eq a b))
  | .lt => .sym (.cmp .lt a b)
  | .gt => .sym (.cmp .lt b a)
  | .le => .sym (.not (.cmp .lt b a))
  | .ge => .sym (.not (.cmp .lt a b))
@[simp] theorem mkCmp_v [Val] (f : COp) (a b : Tm) : (mkCmp f a b).v = f.f a.v b.v := by
  cases f <;> simp only [mkCmp]
  case eq => cases a <;> simp only [SB.v, Bm.v, COp.f] <;> first | rfl | (rw [Bool.eq_iff_iff]; simp only [beq_iff_eq]; exact eq_comm)
  case ne => cases a <;> simp only [SB.v, Bm.v, COp.f] <;> rw [Bool.eq_iff_iff] <;> simp only [Bool.not_eq_true', beq_eq_false_iff_ne, bne_iff_ne, ne_eq] <;> first | exact Iff.rfl | (rw [eq_comm])
  all_goals simp only [SB.v, Bm.v, COp.f] <;> first | rfl | (rw [Bool.eq_iff_iff]; simp; done) | (rw [Bool.eq_iff_iff]; simp; omega)
def cmpR (f : COp) : Rg → Rg → Option Bool
  | some (a, b), some (c, d) => match decide (b < c) with
    | true => some (f.f 0 1)
    | false => match decide (d < a) with
      | true => some (f.f 1 0)
      | false => match f with
        | .le => match decide (b ≤ c) with
          | true => some true
          | false => none
        | .gt => match decide (b ≤ c) with
          | true => some false
          | false => none
        | .ge => match decide (d ≤ a) with
          | true => some true
          | false => none
        | .lt => match decide (d ≤ a) with
          | true => some false
          | false => none
        | _ => none
  | _, _ => none
theorem cmpR_ok {f : COp} {r s : Rg} {b : Bool} {x y : Int} (h : cmpR f r s = some b) (hx : r.has x) (hy : s.has y) : f.f x y = b := by
  unfold cmpR at h
  split at h
  · rename_i a b' c d
    have h1 := hx a b' rfl
    have h2 := hy c d rfl
    split at h
    · rename_i q
      have q := of_decide_eq_true q
      cases h
      cases f <;> simp [COp.f] <;> omega
    · split at h
      · rename_i q
        have q := of_decide_eq_true q
        cases h
        cases f <;> simp [COp.f] <;> omega
      · split at h
        all_goals first
          | (cases h; done)
          | (split at h <;> cases h
             have q := of_decide_eq_true (by assumption)
             simp [COp.f]; omega)
  · cases h
def pickB (c : Bm) (p q : Bool) : SB :=
  match p, q with
  | true, true => .lit true
  | false, false => .lit false
  | true, false => .sym c
  | false, true => SB.not (.sym c)
theorem pickB_v [Val] (c : Bm) (p q : Bool) : (pickB c p q).v = if c.v then p else q := by
  cases p <;> cases q <;> cases h : c.v <;> simp [pickB, h]
def mkCmp2 (f : COp) (a b : Tm) : SB :=
  match a, b with
  | .ite c (.lit x) (.lit y), .lit z => pickB c (f.f x z) (f.f y z)
  | .lit z, .ite c (.lit x) (.lit y) => pickB c (f.f z x) (f.f z y)
  | a, b => mkCmp f a b
theorem mkCmp2_v [Val] (f : COp) (a b : Tm) : (mkCmp2 f a b).v = f.f a.v b.v := by
  unfold mkCmp2
  split
  · rw [pickB_v]; simp only [Tm.v]; split <;> rfl
  · rw [pickB_v]; simp only [Tm.v]; split <;> rfl
  · exact mkCmp_v _ _ _
def SI.cmp (f : COp) : SI → SI → SB
  | .lit a, .lit b => .lit (f.f a b)
  | .sym a, .sym b => match Tm.same a b with
    | true => .lit f.self
    | false => match cmpR f (a.rng 6) (b.rng 6) with
      | some x => .lit x
      | none => mkCmp2 f a b
  | a, b => match cmpR f (a.tm.rng 6) (b.tm.rng 6) with
    | some x => .lit x
    | none => mkCmp2 f a.tm b.tm
@[simp] theorem SI.cmp_v [Val] (f : COp) (a b : SI) : (SI.cmp f a b).v = f.f a.v b.v := by
  have key : ∀ a b : SI, (match cmpR f (a.tm.rng 6) (b.tm.rng 6) with
      | some x => SB.lit x
      | none => mkCmp2 f a.tm b.tm).v = f.f a.v b.v := fun a b => by
    split
    · rename_i h
      have := cmpR_ok h (Tm.rng_has 6 a.tm) (Tm.rng_has 6 b.tm)
      simp only [SI.tm_v] at this
      exact this.symm
    · rw [mkCmp2_v, SI.tm_v, SI.tm_v]
  cases a <;> cases b <;> simp only [SI.cmp]
  · rfl
  · exact key _ _
  · exact key _ _
  · split
    · rename_i h
      rw [Tm.same_eq h]
      exact (COp.self_f _ _).symm
    · exact key (.sym _) (.sym _)
def SI.ap (f : UOp) : SI → SI
  | .lit a => .lit (f.f a)
  | .sym a => match f with
    | .wrap k => SI.ofTm (mkWrap k a)
    | f => .sym (.un f a)
@[simp] theorem SI.ap_v [Val] (f : UOp) (a : SI) : (SI.ap f a).v = f.f a.v := by
  cases a with
  | lit n => rfl
  | sym t =>
    cases f with
    | wrap k =>
      simp only [SI.ap, SI.ofTm_v, mkWrap_v, SI.sym_v, UOp.f]
    | neg k => simp [SI.ap, SI.v, Tm.v]
    | not k => simp [SI.ap, SI.v, Tm.v]
def SI.within (a : SI) (l h : Int) : Bool :=
  match a with
  | .lit n => match decide (l ≤ n) with
    | true => decide (n ≤ h)
    | false => false
  | .sym t => t.within l h
theorem SI.within_ok [Val] {a : SI} {l h : Int} (e : a.within l h = true) : l ≤ a.v ∧ a.v ≤ h := by
  cases a with
  | lit n =>
    simp only [SI.within] at e
    split at e
    · rename_i h1
      exact ⟨of_decide_eq_true h1, of_decide_eq_true e⟩
    · cases e
  | sym t => exact Tm.within_ok e
def SI.nonzero (a : SI) : Bool :=
  match a with
  | .lit n => match decide (n = 0) with
    | true => false
    | false => true
  | .sym t => match Tm.rng 6 t with
    | some (l, h) => match decide (0 < l) with
      | true => true
      | false => decide (h < 0)
    | none => false
theorem SI.nonzero_ok [Val] {a : SI} (e : a.nonzero = true) : a.v ≠ 0 := by
  cases a with
  | lit n =>
    simp only [SI.nonzero] at e
    split at e
    · cases e
    · exact of_decide_eq_false (by assumption)
  | sym t =>
    simp only [SI.nonzero] at e
    split at e
    · rename_i l h hr
      obtain ⟨g1, g2⟩ := Tm.rng_has 6 t _ _ hr
      simp only [SI.v]
      split at e
      · rename_i q; have := of_decide_eq_true q; omega
      · have := of_decide_eq_true e; omega
    · cases e
def SB.op (f : LOp) (a b : SB) : SB :=
  match f, a, b with
  | f, .lit a, .lit b => .lit (f.f a b)
  | .and, .lit true, b => b
  | .and, .lit false, _ => .lit false
  | .and, a, .lit true => a
  | .and, _, .lit false => .lit false
  | .or, .lit false, b => b
  | .or, .lit true, _ => .lit true
  | .or, a, .lit false => a
  | .or, _, .lit true => .lit true
  | .eq, .lit true, b => b
  | .eq, .lit false, b => SB.not b
  | .eq, a, .lit true => a
  | .eq, a, .lit false => SB.not a
  | .eq, .sym a, .sym b => match Bm.same a b with
    | true => .lit true
    | false => .sym (.lop .eq a b)
  | f, .sym a, .sym b => .sym (.lop f a b)
@[simp] theorem SB.op_v [Val] (f : LOp) (a b : SB) : (SB.op f a b).v = f.f a.v b.v := by
  have hn : ∀ c : SB, (SB.not c).v = !c.v := SB.not_v
  unfold SB.op
  split
  all_goals first
    | (rw [hn]; show (!b.v) = (false == b.v); cases b.v <;> rfl)
    | (rw [hn]; show (!a.v) = (a.v == false); cases a.v <;> rfl)
    | (simp [LOp.f, SB.v, Bm.v]; done)
    | (split
       · rename_i h
         rw [Bm.same_eq h]; simp [LOp.f, SB.v]
       · simp [LOp.f, SB.v, Bm.v])
def SB.ite0 (t x y : Bm) : SB :=
  match Bm.same t x with
  | true => SB.op .or (.sym t) (.sym y)
  | false => match Bm.same t y with
    | true => SB.op .and (.sym t) (.sym x)
    | false => .sym (.ite t x y)
theorem SB.ite0_v [Val] (t x y : Bm) : (SB.ite0 t x y).v = if t.v then x.v else y.v := by
  unfold SB.ite0
  split
  · rename_i h
    have e := Bm.same_eq h; subst e
    rw [SB.op_v]; simp only [SB.sym_v, LOp.f]; cases t.v <;> simp
  · split
    · rename_i h
      have e := Bm.same_eq h; subst e
      rw [SB.op_v]; simp only [SB.sym_v, LOp.f]; cases t.v <;> simp
    · rfl
def SB.ite (t : Bm) (x y : SB) : SB :=
  match x, y with
  | .lit true, .lit false => .sym t
  | .lit false, .lit true => SB.not (.sym t)
  | .lit true, .lit true => .lit true
  | .lit false, .lit false => .lit false
  | .lit true, .sym y => SB.op .or (.sym t) (.sym y)
  | .lit false, .sym y => SB.op .and (SB.not (.sym t)) (.sym y)
  | .sym x, .lit false => SB.op .and (.sym t) (.sym x)
  | .sym x, .lit true => SB.op .or (SB.not (.sym t)) (.sym x)
  | .sym x, .sym y => SB.ite0 t x y
theorem SB.ite_v [Val] (t : Bm) (x y : SB) : (SB.ite t x y).v = if t.v then x.v else y.v := by
  have hn : ∀ c : SB, (SB.not c).v = !c.v := SB.not_v
  unfold SB.ite
  split <;> (try rw [SB.op_v]) <;> (try rw [SB.ite0_v]) <;> (try rw [hn]) <;> simp only [SB.sym_v, SB.lit_v, LOp.f, Bm.v] <;> cases t.v <;> simp
section
variable {P : Program} {ρ : Env} {X : Nat → Prop} {w0 w : World} {look : Look} {fresh : Nat → Prop} {id : Nat} {r : SV × List Upd × List Nat}

def sPart (P : Program) (t : TypeId) (l : List SV) (o : Nat) : Option SV :=
  match tyOf P t with
  | none => none
  | some ti => match ti.desc.isRow with
    | true => match takeN ti.size (dropN o l) with
      | some xs => some (.agg xs)
      | none => none
    | false => nth l o
theorem sPart_ok [Val] {t : TypeId} {l : List SV} {vs : List Value} {o : Nat} {s : SV} (hd : SV.DenL ρ l vs) (h : sPart P t l o = some s) (w : World) : ∃ v, (part t vs.toArray o).run P w = .ok v w ∧ s.Den ρ v := by
  unfold sPart at h
  split at h <;> try cases h
  rename_i ti hti
  split at h
  · rename_i hrow
    split at h <;> try cases h
    rename_i xs hxs
    obtain ⟨e1, e2⟩ := takeN_eq hxs
    rw [dropN_eq] at e1 e2
    have hys := denL_take ti.size (denL_drop o hd)
    rw [← e1] at hys
    exact ⟨_, run_part_row hti hrow vs o w, by simp only [SV.Den]; exact ⟨_, hys, rfl⟩⟩
  · rename_i hrow
    rw [nth_eq] at h
    obtain ⟨v, hv, hyv⟩ := denL_get hd h
    exact ⟨v, run_part_cell hti hrow hv w, hyv⟩

def eqFs (P : Program) (eq : TypeId → SV → SV → Option SB) : List Field → List SV → List SV → Option SB
  | [], _, _ => some (.lit true)
  | f :: fs, xs, ys => match decide (f.name = "_") with
    | true => none
    | false => match sPart P f.type xs f.offset, sPart P f.type ys f.offset with
      | some a, some b => match eq f.type a b with
        | some x => match eqFs P eq fs xs ys with
          | some y => some (SB.op .and x y)
          | none => none
        | none => none
      | _, _ => none
def eqIs (P : Program) (eq : TypeId → SV → SV → Option SB) (e : TypeId) (sz : Nat) : List Nat → List SV → List SV → Option SB
  | [], _, _ => some (.lit true)
  | i :: is, xs, ys => match sPart P e xs (i * sz), sPart P e ys (i * sz) with
    | some a, some b => match eq e a b with
      | some x => match eqIs P eq e sz is xs ys with
        | some y => some (SB.op .and x y)
        | none => none
      | none => none
    | _, _ => none
def eqS (P : Program) : Nat → TypeId → SV → SV → Option SB
  | 0, _, _, _ => none
  | d + 1, t, x, y => match tyOf P t with
    | none => none
    | some ti => match ti.desc, x, y with
      | .bool, .bool a, .bool b => some (SB.op .eq a b)
      | .int _, .int k a, .int k' b => match decide (k = k') with
        | true => some (SI.cmp .eq a b)
        | false => none
      | .struct fs, .agg xs, .agg ys => match P.stoodInHeld t with
        | true => none
        | false => eqFs P (eqS P d) fs.toList xs ys
      | .array n e, .agg xs, .agg ys => match tyOf P e with
        | none => none
        | some te => eqIs P (eqS P d) e te.size (List.range n) xs ys
      | _, _, _ => none
theorem eqS_ok [Val] : ∀ (d D : Nat) (t : TypeId) (x y : SV) (xv yv : Value) (s : SB) (w : World), d ≤ D → eqS P d t x y = some s → x.Den ρ xv → y.Den ρ yv → (Op.equalIn D t xv yv).run P w = .ok s.v w
  | 0, _, _, _, _, _, _, _, _, _, h, _, _ => by simp [eqS] at h
  | d + 1, 0, _, _, _, _, _, _, _, hD, _, _, _ => by omega
  | d + 1, D + 1, t, x, y, xv, yv, s, w, hD, h, hx, hy => by
    unfold eqS at h
    split at h <;> try cases h
    rename_i ti hti
    obtain ⟨i, hi, hu, _, _, _⟩ := tyOf_spec hti
    split at h <;> try cases h
    · rename_i a b hdesc
      rw [hdesc] at hu
      simp only [SV.Den] at hx hy; subst hx hy
      rw [run_equalIn_bool' _ _ _ _ _ hu]; simp [LOp.f]
    · rename_i k0 k a k' b hdesc
      rw [hdesc] at hu
      split at h <;> try cases h
      rename_i hk
      have hk := of_decide_eq_true hk; subst hk
      simp only [SV.Den] at hx hy; subst hx hy
      rw [run_equalIn_int _ _ _ _ _ _ _ hu]; simp [COp.f]
    · rename_i fs xs ys hdesc
      rw [hdesc] at hu
      split at h <;> try cases h
      rename_i hst
      simp only [SV.Den] at hx hy
      obtain ⟨vx, hvx, rfl⟩ := hx
      obtain ⟨vy, hvy, rfl⟩ := hy
      refine eq_struct hu hst ?_
      revert h
      generalize fs.toList = l
      intro h
      clear hu hdesc hti hi
      induction l generalizing s with
      | nil => simp only [eqFs, Option.some.injEq] at h; subst h; exact eqF_nil
      | cons f l ih =>
        unfold eqFs at h
        split at h <;> try cases h
        rename_i hn
        split at h <;> try cases h
        rename_i a b ha hb
        split at h <;> try cases h
        rename_i p hp
        split at h <;> try cases h
        rename_i q hq
        obtain ⟨av, ha1, ha2⟩ := sPart_ok hvx ha w
        obtain ⟨bv, hb1, hb2⟩ := sPart_ok hvy hb w
        rw [SB.op_v]
        exact eqF_cons (of_decide_eq_false hn) ha1 hb1 (eqS_ok d D _ _ _ _ _ _ w (by omega) hp ha2 hb2) (ih _ hq)
    · rename_i n e xs ys hdesc
      rw [hdesc] at hu
      split at h <;> try cases h
      rename_i te hte
      obtain ⟨j, hj, _, hsj, _, _⟩ := tyOf_spec hte
      simp only [SV.Den] at hx hy
      obtain ⟨vx, hvx, rfl⟩ := hx
      obtain ⟨vy, hvy, rfl⟩ := hy
      rw [run_equalIn_array w D _ _ hu hj]
      have hsz : P.cellsOf e = te.size := by simp [Program.cellsOf, hj, hsj]
      rw [hsz]
      revert h
      generalize List.range n = l
      intro h
      clear hu hdesc hti hi
      induction l generalizing s with
      | nil => simp only [eqIs, Option.some.injEq] at h; subst h; exact eqI_nil
      | cons f l ih =>
        unfold eqIs at h
        split at h <;> try cases h
        rename_i a b ha hb
        split at h <;> try cases h
        rename_i p hp
        split at h <;> try cases h
        rename_i q hq
        obtain ⟨av, ha1, ha2⟩ := sPart_ok hvx ha w
        obtain ⟨bv, hb1, hb2⟩ := sPart_ok hvy hb w
        rw [SB.op_v]
        exact eqI_cons ha1 hb1 (eqS_ok d D _ _ _ _ _ _ w (by omega) hp ha2 hb2) (ih _ hq)
def nilEq : SV → SV → Option Bool
  | .ptr _ _, .nilp => some false
  | .nilp, .ptr _ _ => some false
  | .nilp, .nilp => some true
  | .sl _ _ _ _, .nils => some false
  | .nils, .sl _ _ _ _ => some false
  | .nils, .nils => some true
  | .map _, .nilm => some false
  | .nilm, .map _ => some false
  | .nilm, .nilm => some true
  | .fn _ _ _, .nilf => some false
  | .nilf, .fn _ _ _ => some false
  | .nilf, .nilf => some true
  | .iface _ _, .nili => some false
  | .nili, .iface _ _ => some false
  | .nili, .nili => some true
  | _, _ => none
def nilKind : TypeDesc → SV → SV → Bool
  | .pointer _, .ptr _ _, _ => true
  | .pointer _, .nilp, _ => true
  | .slice _, .sl _ _ _ _, _ => true
  | .slice _, .nils, _ => true
  | .map _ _, .map _, _ => true
  | .map _ _, .nilm, _ => true
  | .func _ _ _, .fn _ _ _, _ => true
  | .func _ _ _, .nilf, _ => true
  | .interface _, .iface _ _, _ => true
  | .interface ms, .nili, .nili => ms.isEmpty
  | .interface _, .nili, _ => true
  | _, _, _ => false
theorem nilEq_ok [Val] {t : TypeId} {ti : TyI} {x y : SV} {xv yv : Value} {b : Bool} {D : Nat} (hti : tyOf P t = some ti) (hk : nilKind ti.desc x y = true) (h : nilEq x y = some b) (hx : x.Den ρ xv) (hy : y.Den ρ yv) (w : World) :
    (Op.equalIn (D + 1) t xv yv).run P w = .ok b w ∧ ∀ (op : BinOp) (xo yo : Operand), (eqGuard op t xo yo xv yv).run P w = .ok () w := by
  obtain ⟨i, hi, hu, _, _, _⟩ := tyOf_spec hti
  generalize ti.desc = dd at *
  unfold nilEq at h
  split at h <;> first
    | (cases h; done)
    | (injection h with h; subst h
       cases dd <;> simp [nilKind] at hk
       all_goals
         simp only [SV.Den, SFn.Den] at hx hy
         (try obtain ⟨b1, m1, _, _, rfl⟩ := hx)
         (try obtain ⟨b1, m1, n1, c1, _, _, _, _, _, rfl⟩ := hx)
         (try obtain ⟨b1, _, rfl⟩ := hx)
         (try obtain ⟨g1, a1, c1, _, _, _, rfl⟩ := hx)
         (try obtain ⟨y1, _, rfl⟩ := hx)
         (try obtain ⟨b2, m2, _, _, rfl⟩ := hy)
         (try obtain ⟨b2, m2, n2, c2, _, _, _, _, _, rfl⟩ := hy)
         (try obtain ⟨b2, _, rfl⟩ := hy)
         (try obtain ⟨g2, a2, c2, _, _, _, rfl⟩ := hy)
         (try obtain ⟨y2, _, rfl⟩ := hy)
         (try subst hx)
         (try subst hy)
         first
           | (refine ⟨by simp [Op.equalIn, run_underlying hu], fun op xo yo => ?_⟩
              cases op <;> simp [eqGuard]
              done)
           | (refine ⟨by simp [Op.equalIn, run_underlying hu], fun op xo yo => ?_⟩
              have e : ∀ D, (Op.eqGuardIn (D + 1) t .nilIface .nilIface).run P w = .ok false w := fun D => by
                simp [Op.eqGuardIn, run_underlying hu, hk]
              have e : (Op.eqGuardIn Op.maxDepth t .nilIface .nilIface).run P w = .ok false w := e 9999
              have e2 : ∀ u : Sem Unit, (do if ← Op.eqGuardIn Op.maxDepth t .nilIface .nilIface then u else pure () : Sem Unit).run P w = .ok () w := fun u => by
                rw [Sem.run_bind, e]; rfl
              unfold eqGuard
              cases op <;> first
                | rfl
                | (simp only [Bool.not_true, Bool.false_eq_true, if_false]
                   cases xo <;> cases yo <;> first | rfl | exact e2 _)))
end
end Go.Sx
/- The operations on symbolic values: two operands, one operand, conversions, interfaces, function values. -/
namespace Go.Sx
set_option linter.unusedSimpArgs false
set_option linter.unusedVariables false
open Go Go.RowKit Go.Cd Go.Proofs.YtnoiijjkjcklpaaGreat
section
variable {P : Program} {ρ : Env} {X : Nat → Prop} {w0 w : World} {look : Look} {fresh : Nat → Prop} {id : Nat} {r : SV × List Upd × List Nat}

def intBin (op : BinOp) (k : IntKind) (a b : SI) : Option SV :=
  match op with
  | .add => some (.int k (SI.op (.add k) a b))
  | .sub => some (.int k (SI.op (.sub k) a b))
  | .mul => some (.int k (SI.op (.mul k) a b))
  | .quo => match b.nonzero with
    | true => some (.int k (SI.op (.quo k) a b))
    | false => none
  | .rem => match b.nonzero with
    | true => some (.int k (SI.op .rem a b))
    | false => none
  | .and => some (.int k (SI.op (.and k) a b))
  | .or => some (.int k (SI.op (.or k) a b))
  | .xor => some (.int k (SI.op (.xor k) a b))
  | .andNot => some (.int k (SI.op (.andNot k) a b))
  | .eql => some (.bool (SI.cmp .eq a b))
  | .neq => some (.bool (SI.cmp .ne a b))
  | .lss => some (.bool (SI.cmp .lt a b))
  | .leq => some (.bool (SI.cmp .le a b))
  | .gtr => some (.bool (SI.cmp .gt a b))
  | .geq => some (.bool (SI.cmp .ge a b))
  | _ => none
def shiftBy (op : BinOp) (k : IntKind) (a : SI) (b : SI) : Option SV :=
  match op with
  | .shl => some (.int k (SI.op (.shl k) a b))
  | .shr => some (.int k (SI.op (.shr k) a b))
  | _ => none
def isShift : BinOp → Bool
  | .shl => true
  | .shr => true
  | _ => false
def isEq : BinOp → Option Bool
  | .eql => some true
  | .neq => some false
  | _ => none
def SB.flip (f : Bool) (b : SB) : SB := match f with
  | true => b
  | false => SB.not b
def sBin (P : Program) (op : BinOp) (t : TypeId) (x y : SV) : R :=
  match x, y with
  | .int k a, .int k' b => match isShift op with
    | true => match b.within 0 18446744073709551615 with
      | true => match shiftBy op k a b with
        | some v => some (v, [], [])
        | none => none
      | false => none
    | false => match decide (k = k') with
      | true => match intBin op k a b with
        | some v => some (v, [], [])
        | none => none
      | false => none
  | .bool a, .bool b => match isEq op with
    | some f => match tyOf P t with
      | some ti => match ti.desc with
        | .bool => some (.bool (SB.flip f (SB.op .eq a b)), [], [])
        | _ => none
      | none => none
    | none => none
  | .agg a, .agg b => match isEq op with
    | some f => match P.eqGuardType P.depth t with
      | true => none
      | false => match eqS P 8 t (.agg a) (.agg b) with
        | some s => some (.bool (SB.flip f s), [], [])
        | none => none
    | none => none
  | .str a, .str b => match isEq op with
    | some f => some (.bool (.lit (f == (a.data.toList == b.data.toList))), [], [])
    | none => none
  | x, y => match isEq op with
    | some f => match tyOf P t with
      | some ti => match nilKind ti.desc x y with
        | true => match nilEq x y with
          | some b => some (.bool (.lit (f == b)), [], [])
          | none => none
        | false => none
      | none => none
    | none => none
theorem isEq_cases [Val] {op : BinOp} {f : Bool} (h : isEq op = some f) : op = .eql ∧ f = true ∨ op = .neq ∧ f = false := by
  cases op <;> simp [isEq] at h <;> subst h <;> simp
theorem run_bin_eq [Val] {op : BinOp} {f : Bool} (h : isEq op = some f) {t : TypeId} {x y : Value} {xo yo : Operand} {b : Bool} (hg : (eqGuard op t xo yo x y).run P w = .ok () w)
    (hne : ∀ f, isEq op = some f → binOp op t x y = (Op.equal t x y >>= fun b => pure (.bool (if f then b else !b)))) (he : (Op.equal t x y).run P w = .ok b w) :
    (do eqGuard op t xo yo x y; binOp op t x y : Sem Value).run P w = .ok (.bool (f == b)) w := by
  rw [hne f h]
  simp only [Sem.run_bind, hg, Result.andThen_ok, he, Sem.run_pure]
  cases f <;> cases b <;> rfl
theorem sBin_ok [Val] {op : BinOp} {t : TypeId} {x y : SV} {xv yv : Value} (xo yo : Operand) (d : DenH ρ X w0 look fresh w) (hx : x.Den ρ xv) (hy : y.Den ρ yv) (h : sBin P op t x y = some r) :
    Good P ρ X w0 look fresh id r (do pure (.value (← (do eqGuard op t xo yo xv yv; binOp op t xv yv)))) w := by
  unfold sBin at h
  split at h
  · rename_i k a k' b
    simp only [SV.Den] at hx hy; subst hx hy
    split at h
    · rename_i hs
      split at h <;> try cases h
      rename_i hwi
      have hwi := (SI.within_ok hwi).1
      split at h <;> try cases h
      rename_i v hv
      have hn0 : ¬ (b.v < 0) := by omega
      cases op <;> simp [isShift] at hs <;> simp only [shiftBy, Option.some.injEq] at hv <;> subst hv
      · refine Good.value d (val := .int k (k.wrap (a.v * 2 ^ (min b.v.toNat k.bits)))) ?_ (by simp [SV.Den, IOp.f, COp.f, UOp.f, LOp.f])
        rw [eqGuard_shl, binOp_shl]; simp [Op.shift, hn0]
      · refine Good.value d (val := .int k (a.v.fdiv (2 ^ (min b.v.toNat k.bits)))) ?_ (by simp [SV.Den, IOp.f, COp.f, UOp.f, LOp.f])
        rw [eqGuard_shr, binOp_shr]; simp [Op.shift, hn0]
    · rename_i hs
      split at h <;> try cases h
      rename_i hk
      have hk := of_decide_eq_true hk; subst hk
      split at h <;> try cases h
      rename_i v hv
      have hg : eqGuard op t xo yo (.int k a.v) (.int k b.v) = pure () := eqGuard_at_int _ _ _ _ _ _ _
      rw [hg]
      cases op <;> simp [intBin] at hv <;> simp [isShift] at hs
      case quo =>
        split at hv <;> cases hv
        rename_i hy0
        have hy0 := SI.nonzero_ok hy0
        refine Good.value d (val := .int k (k.wrap (a.v.tdiv b.v))) ?_ (by simp [SV.Den, IOp.f, COp.f, UOp.f, LOp.f])
        simp [binOp_quo, Op.intDiv, hy0]
      case rem =>
        split at hv <;> cases hv
        rename_i hy0
        have hy0 := SI.nonzero_ok hy0
        refine Good.value d (val := .int k (a.v.tmod b.v)) ?_ (by simp [SV.Den, IOp.f, COp.f, UOp.f, LOp.f])
        simp [binOp_rem, Op.intDiv, hy0]
      all_goals
        subst hv
        first
          | (refine Good.value d (val := .int k (k.wrap (a.v + b.v))) ?_ (by simp [SV.Den, IOp.f, COp.f, UOp.f, LOp.f]); simp [binOp_add, Op.intArith]; done)
          | (refine Good.value d (val := .int k (k.wrap (a.v - b.v))) ?_ (by simp [SV.Den, IOp.f, COp.f, UOp.f, LOp.f]); simp [binOp_sub, Op.intArith]; done)
          | (refine Good.value d (val := .int k (k.wrap (a.v * b.v))) ?_ (by simp [SV.Den, IOp.f, COp.f, UOp.f, LOp.f]); simp [binOp_mul, Op.intArith]; done)
          | (refine Good.value d (val := .int k (bits .and k a.v b.v)) ?_ (by simp [SV.Den, IOp.f, COp.f, UOp.f, LOp.f]); simp [binOp_and, intBits_and]; done)
          | (refine Good.value d (val := .int k (bits .or k a.v b.v)) ?_ (by simp [SV.Den, IOp.f, COp.f, UOp.f, LOp.f]); simp [binOp_or, intBits_or]; done)
          | (refine Good.value d (val := .int k (bits .xor k a.v b.v)) ?_ (by simp [SV.Den, IOp.f, COp.f, UOp.f, LOp.f]); simp [binOp_xor, intBits_xor]; done)
          | (refine Good.value d (val := .int k (bits .andNot k a.v b.v)) ?_ (by simp [SV.Den, IOp.f, COp.f, UOp.f, LOp.f]); simp [binOp_andNot, intBits_andNot]; done)
          | (refine Good.value d (val := .bool (a.v == b.v)) ?_ (by simp [SV.Den, IOp.f, COp.f, UOp.f, LOp.f]); simp [binOp_eql]; done)
          | (refine Good.value d (val := .bool (a.v != b.v)) ?_ (by simp [SV.Den, IOp.f, COp.f, UOp.f, LOp.f]); simp [binOp_neq]; done)
          | (refine Good.value d (val := .bool (decide (a.v < b.v))) ?_ (by simp [SV.Den, IOp.f, COp.f, UOp.f, LOp.f]); simp [binOp_lss]; done)
          | (refine Good.value d (val := .bool (decide (a.v ≤ b.v))) ?_ (by simp [SV.Den, IOp.f, COp.f, UOp.f, LOp.f]); simp [binOp_leq]; done)
          | (refine Good.value d (val := .bool (decide (a.v > b.v))) ?_ (by simp [SV.Den, IOp.f, COp.f, UOp.f, LOp.f]); simp [binOp_gtr]; done)
          | (refine Good.value d (val := .bool (decide (a.v ≥ b.v))) ?_ (by simp [SV.Den, IOp.f, COp.f, UOp.f, LOp.f]); simp [binOp_geq]; done)
  · rename_i a b
    split at h <;> try cases h
    rename_i f hf
    split at h <;> try cases h
    rename_i ti hti
    obtain ⟨i, hi, hu, _, _, _⟩ := tyOf_spec hti
    split at h <;> try cases h
    rename_i hdesc
    rw [hdesc] at hu
    simp only [SV.Den] at hx hy; subst hx hy
    refine Good.value d (run_bin_eq hf (b := a.v == b.v) (by rw [eqGuard_at_bool]; rfl) (fun f hf => ?_) (run_equalIn_bool' _ _ _ _ _ hu)) ?_
    · rcases isEq_cases hf with ⟨rfl, rfl⟩ | ⟨rfl, rfl⟩ <;> simp [binOp]
    · simp only [SV.Den]
      cases f <;> simp [SB.flip, LOp.f]
  · rename_i a b
    split at h <;> try cases h
    rename_i f hf
    split at h <;> try cases h
    rename_i hg
    split at h <;> try cases h
    rename_i s hs
    have hx0 := hx
    have hy0 := hy
    simp only [SV.Den] at hx hy
    obtain ⟨va, hva, rfl⟩ := hx
    obtain ⟨vb, hvb, rfl⟩ := hy
    have he := eqS_ok 8 10000 t _ _ _ _ s w (by decide) hs hx0 hy0
    refine Good.value d (run_bin_eq hf (b := s.v) (run_eqGuard_agg _ _ _ _ _ _ _ hg) (fun f hf => ?_) he) ?_
    · rcases isEq_cases hf with ⟨rfl, rfl⟩ | ⟨rfl, rfl⟩ <;> simp [binOp]
    · simp only [SV.Den]
      cases f <;> simp [SB.flip, LOp.f]
  · rename_i a b
    split at h <;> try cases h
    rename_i f hf
    simp only [SV.Den] at hx hy; subst hx hy
    refine Good.value d (val := .bool (f == (a.data.toList == b.data.toList))) ?_ (by simp [SV.Den, IOp.f, COp.f, UOp.f, LOp.f])
    rw [eqGuard_at_string]
    rcases isEq_cases hf with ⟨rfl, rfl⟩ | ⟨rfl, rfl⟩ <;> simp only [binOp, Op.stringOp, ByteArray.toList_eq, Sem.run_bind, Sem.run_pure, Result.andThen_ok]
    · cases (a.data.toList == b.data.toList) <;> rfl
    · cases (a.data.toList == b.data.toList) <;> rfl
  · split at h <;> try cases h
    rename_i f hf
    split at h <;> try cases h
    rename_i ti hti
    split at h <;> try cases h
    rename_i hk
    split at h <;> try cases h
    rename_i b hb
    obtain ⟨he, hg⟩ := nilEq_ok (D := 9999) hti hk hb hx hy w
    refine Good.value d (run_bin_eq hf (b := b) (hg _ _ _) (fun f hf => ?_) he) (by simp [SV.Den, IOp.f, COp.f, UOp.f, LOp.f])
    unfold nilEq at hb
    split at hb <;> first
      | (cases hb; done)
      | (simp only [SV.Den] at hx hy
         (try obtain ⟨b1, m1, _, _, rfl⟩ := hx)
         (try obtain ⟨b1, m1, n1, c1, _, _, _, _, _, rfl⟩ := hx)
         (try obtain ⟨b1, _, rfl⟩ := hx)
         (try obtain ⟨g1, a1, c1, _, _, _, rfl⟩ := hx)
         (try obtain ⟨y1, _, rfl⟩ := hx)
         (try obtain ⟨b2, m2, _, _, rfl⟩ := hy)
         (try obtain ⟨b2, m2, n2, c2, _, _, _, _, _, rfl⟩ := hy)
         (try obtain ⟨b2, _, rfl⟩ := hy)
         (try obtain ⟨g2, a2, c2, _, _, _, rfl⟩ := hy)
         (try obtain ⟨y2, _, rfl⟩ := hy)
         (try subst hx)
         (try subst hy)
         rcases isEq_cases hf with ⟨rfl, rfl⟩ | ⟨rfl, rfl⟩ <;> simp [binOp])

def sUn (op : UnOp) (x : SV) : R :=
  match op, x with
  | .not, .bool b => some (.bool (SB.not b), [], [])
  | .neg, .int k n => some (.int k (SI.ap (.neg k) n), [], [])
  | .xor, .int k n => some (.int k (SI.ap (.not k) n), [], [])
  | _, _ => none
theorem sUn_ok [Val] {op : UnOp} {x : SV} {xv : Value} (d : DenH ρ X w0 look fresh w) (hx : x.Den ρ xv) (h : sUn op x = some r) : Good P ρ X w0 look fresh id r (do pure (.value (← Op.unary op xv))) w := by
  unfold sUn at h
  split at h <;> try cases h
  · rename_i b
    simp only [SV.Den] at hx; subst hx
    exact Good.value d (val := .bool (!b.v)) (by simp [Op.unary]) (by simp [SV.Den, IOp.f, COp.f, UOp.f, LOp.f])
  · rename_i k n
    simp only [SV.Den] at hx; subst hx
    exact Good.value d (val := .int k (k.wrap (0 - n.v))) (by simp [Op.unary, Op.intArith]) (by simp [SV.Den, IOp.f, COp.f, UOp.f, LOp.f])
  · rename_i k n
    simp only [SV.Den] at hx; subst hx
    refine Good.value d (val := .int k (bits .xor k (if k.signed then -1 else k.max) n.v)) ?_ (by simp [SV.Den, IOp.f, COp.f, UOp.f, LOp.f])
    simp only [Op.unary, intBits_xor, Sem.run_pure]
def sConv (P : Program) (src dst : TypeId) (x : SV) : R :=
  match tyOf P src, tyOf P dst, x with
  | some _, some td, .int _ n => match td.desc with
    | .int k => some (.int k (SI.ap (.wrap k) n), [], [])
    | _ => none
  | _, _, _ => none
theorem sConv_ok [Val] {src dst : TypeId} {x : SV} {xv : Value} (d : DenH ρ X w0 look fresh w) (hx : x.Den ρ xv) (h : sConv P src dst x = some r) : Good P ρ X w0 look fresh id r (do pure (.value (← convert src dst xv))) w := by
  unfold sConv at h
  split at h <;> try cases h
  rename_i ts td k0 n hts htd
  obtain ⟨_, _, hus, _, _, _⟩ := tyOf_spec hts
  obtain ⟨_, _, hud, _, _, _⟩ := tyOf_spec htd
  split at h <;> try cases h
  rename_i k hdesc
  rw [hdesc] at hud
  simp only [SV.Den] at hx; subst hx
  refine Good.value d (val := .int k (k.wrap n.v)) ?_ (by simp [SV.Den, IOp.f, COp.f, UOp.f, LOp.f])
  simp [convert, run_underlying hus, run_underlying hud, Conv.intToInt]
def isIface : TypeDesc → Bool
  | .interface _ => true
  | _ => false
def sIface (P : Program) (t : TypeId) (x : SV) : R :=
  match tyOf P t with
  | some ti => match isIface ti.desc with
    | false => some (.iface t x, [], [])
    | true => none
  | none => none
theorem sIface_ok [Val] {t : TypeId} {x : SV} {xv : Value} (d : DenH ρ X w0 look fresh w) (hx : x.Den ρ xv) (h : sIface P t x = some r) : Good P ρ X w0 look fresh id r (do pure (.value (← Instr.makeInterface t xv))) w := by
  unfold sIface at h
  split at h <;> try cases h
  rename_i ti hti
  obtain ⟨_, _, hu, _, _, _⟩ := tyOf_spec hti
  split at h <;> try cases h
  rename_i hd
  refine Good.value d (val := .iface t xv) ?_ (by simp only [SV.Den]; exact ⟨xv, hx, rfl⟩)
  generalize ti.desc = dd at *
  simp only [Instr.makeInterface, Sem.run_bind, run_underlying hu, Result.andThen_ok]
  cases dd <;> simp [isIface] at hd <;> rfl
def sAssert (P : Program) (x : SV) (t : TypeId) (ok : Bool) : R :=
  match tyOf P t with
  | some ti => match isIface ti.desc with
    | true => none
    | false => match x with
      | .iface u v => match Nat.beq u t with
        | true => match ok with
          | true => some (.tup [v, .bool (.lit true)], [], [])
          | false => some (v, [], [])
        | false => match ok, ti.zero with
          | true, some z => some (.tup [z, .bool (.lit false)], [], [])
          | _, _ => none
      | .nili => match ok, ti.zero with
        | true, some z => some (.tup [z, .bool (.lit false)], [], [])
        | _, _ => none
      | _ => none
  | none => none
theorem sAssert_ok [Val] {x : SV} {xv : Value} {xt t : TypeId} {ok : Bool} (d : DenH ρ X w0 look fresh w) (hx : x.Den ρ xv) (h : sAssert P x t ok = some r) : Good P ρ X w0 look fresh id r (do pure (.value (← Instr.typeAssert xv xt t ok))) w := by
  unfold sAssert at h
  split at h <;> try cases h
  rename_i ti hti
  obtain ⟨i, hi, hu, _, _, hz⟩ := tyOf_spec hti
  split at h <;> try cases h
  rename_i hd
  have tup : ∀ (a : Value) (s : SV) (b : Bool), s.Den ρ a → (SV.tup [s, .bool (.lit b)]).Den ρ (.tuple #[a, .bool b]) := fun a s b ha => by
    simp only [SV.Den]
    exact ⟨[a, .bool b], denL_cons'.2 ⟨ha, denL_cons'.2 ⟨by simp [SV.Den], by simp⟩⟩, by simp⟩
  split at h
  · rename_i u v
    simp only [SV.Den] at hx
    obtain ⟨y, hy, rfl⟩ := hx
    split at h
    · rename_i hb
      have hb := Nat.eq_of_beq_eq_true hb; subst hb
      have e : (Instr.typeAssert (.iface u y) xt u ok).run P w = .ok (if ok then .tuple #[y, .bool true] else y) w := by
        generalize ti.desc = dd at *
        simp only [Instr.typeAssert, Sem.run_bind, run_underlying hu, Result.andThen_ok]
        cases dd <;> simp [isIface] at hd <;> simp
      split at h <;> cases h
      · exact Good.value d e (tup _ _ _ hy)
      · exact Good.value d e hy
    · rename_i hb
      have hb := Nat.ne_of_beq_eq_false hb
      split at h <;> try cases h
      rename_i z hz0
      obtain ⟨zv, hz1, hz2⟩ := hz z hz0
      have e : (Instr.typeAssert (.iface u y) xt t true).run P w = .ok (.tuple #[zv, .bool false]) w := by
        generalize ti.desc = dd at *
        simp only [Instr.typeAssert, Sem.run_bind, run_underlying hu, Result.andThen_ok]
        cases dd <;> simp [isIface] at hd <;> simp [hb, zeroValue, typeInfo, hi, hz1]
      exact Good.value d e (tup _ _ _ (ofVal_den hz2))
  · simp only [SV.Den] at hx; subst hx
    split at h <;> try cases h
    rename_i z hz0
    obtain ⟨zv, hz1, hz2⟩ := hz z hz0
    have e : (Instr.typeAssert .nilIface xt t true).run P w = .ok (.tuple #[zv, .bool false]) w := by
      generalize ti.desc = dd at *
      simp only [Instr.typeAssert, Sem.run_bind, run_underlying hu, Result.andThen_ok]
      cases dd <;> simp [isIface] at hd <;> simp [zeroValue, typeInfo, hi, hz1]
    exact Good.value d e (tup _ _ _ (ofVal_den hz2))
  · cases h
end
end Go.Sx
