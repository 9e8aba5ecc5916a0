/- The operations on symbolic values: stores, new variables, structs and arrays by value, places. -/
import Derived.Test.YtpooghnemlnopaaSx3
namespace Go.Sx
set_option linter.unusedSimpArgs false
set_option linter.unusedVariables false
open Go Go.RowKit Go.Cd Go.Proofs.Ytpooghnemlnopaa
section
variable {P : Program} {ρ : Env} {X : Nat → Prop} {w0 w : World} {look : Look} {fresh : Nat → Prop} {id : Nat} {r : SV × List Upd × List Nat}

/-! A store. -/
/-- x at the i-th of the places o, o + s, ..: each of them is a whole number of the kind. -/
def scatter (k : IntKind) (x : SI) (i : Tm) (s : Nat) : Nat → Nat → Nat → List SV → Option (List SV)
  | 0, _, _, l => some l
  | n + 1, o, j, l => match nth l o with
    | some (.int k' y) => match decide (k' = k) with
      | true => scatter k x i s n (o + s) (j + 1) (setN l o (.int k (.sym (.ite (.cmp .eq i (.lit j)) x.tm y.tm))))
      | false => none
    | _ => none
theorem scatter_den [Val] {k : IntKind} {x : SI} {i : Tm} {s : Nat} (h0 : 0 ≤ i.v) : ∀ {n o j : Nat} {l l' : List SV} {vs : List Value}, scatter k x i s n o j l = some l' → SV.DenL ρ l vs →
    SV.DenL ρ l' (if j ≤ i.v.toNat ∧ i.v.toNat < j + n then vs.set (o + s * (i.v.toNat - j)) (.int k x.v) else vs) ∧ (j ≤ i.v.toNat → i.v.toNat < j + n → o + s * (i.v.toNat - j) < vs.length)
  | 0, o, j, l, l', vs, h, hd => by
    simp only [scatter, Option.some.injEq] at h; subst h
    rw [if_neg (by omega)]
    exact ⟨hd, by omega⟩
  | n + 1, o, j, l, l', vs, h, hd => by
    unfold scatter at h
    split at h <;> try cases h
    rename_i k' y hy
    split at h <;> try cases h
    rename_i hk
    have hk := of_decide_eq_true hk; subst hk
    rw [nth_eq] at hy
    obtain ⟨v, hv, hyv⟩ := denL_get hd hy
    simp only [SV.Den] at hyv; subst hyv
    have ho : o < vs.length := (List.getElem?_eq_some_iff.1 hv).1
    have hd1 : SV.DenL ρ (setN l o (.int k' (.sym (.ite (.cmp .eq i (.lit j)) x.tm y.tm)))) (vs.set o (.int k' (if i.v.toNat = j then x.v else y.v))) := by
      rw [setN_eq]; refine denL_set hd ?_ o
      simp only [SV.Den, SI.v, Tm.v, Bm.v, COp.f, SI.tm_v]
      by_cases e : i.v.toNat = j
      · have e2 : i.v = (j : Int) := by omega
        simp [e, e2]
      · have e2 : i.v ≠ (j : Int) := by omega
        simp [e, e2]
    obtain ⟨h1, h2⟩ := scatter_den h0 h hd1
    generalize i.v.toNat = q at *
    by_cases hij : q = j
    · subst hij
      rw [if_neg (by omega)] at h1
      rw [if_pos (by omega)]
      simp only [if_true] at h1
      exact ⟨by simpa using h1, fun _ _ => by simpa using ho⟩
    · have hset : vs.set o (.int k' y.v) = vs := by
        apply List.ext_getElem?
        intro m
        rw [List.getElem?_set]
        split
        · rename_i e; subst e; rw [hv]
        · rfl
      simp only [hij, if_false, hset] at h1 h2
      by_cases hc : j ≤ q ∧ q < j + (n + 1)
      · rw [if_pos (by omega)] at h1
        rw [if_pos hc]
        have e : o + s + s * (q - (j + 1)) = o + s * (q - j) := by
          have : q - j = (q - (j + 1)) + 1 := by omega
          rw [this, Nat.mul_add]; omega
        rw [e] at h1 h2
        exact ⟨h1, fun _ _ => h2 (by omega) (by omega)⟩
      · rw [if_neg (by omega)] at h1
        rw [if_neg hc]
        exact ⟨h1, fun _ _ => by omega⟩
/-- The object with a whole number at an open place. -/
def objScatter (o : SObj) (k : IntKind) (x : SI) (b s n : Nat) (i : Tm) : Option SObj :=
  match o with
  | .cells l T => match scatter k x i s n b 0 l with
    | some l' => some (.cells l' T)
    | none => none
  | .row l c e T => match scatter k x i s n b 0 l with
    | some l' => some (.row l' c e T)
    | none => none
  | _ => none
def sStore (P : Program) (look : Look) (t : TypeId) (p x : SV) : R :=
  match p with
  | .ptr h off => match tyOf P t with
    | none => none
    | some ti => match look h with
      | none => none
      | some o => match off with
        | .lit m => match cellsOf x with
          | none => none
          | some vs => match Nat.beq vs.length ti.size with
            | false => none
            | true => match objOver o m vs with
              | some o' => some (.tup [], [.set h o'], [h])
              | none => none
        | .idx b s n i => match x with
          | .int k v => match Nat.beq 1 ti.size with
            | false => none
            | true => match objScatter o k v b s n i with
              | some o' => some (.tup [], [.set h o'], [h])
              | none => none
          | _ => none
        | .any => none
  | _ => none
theorem storeVar_cells [Val] (t : TypeId) (a : Addr) (v : Value) : storeVar t a v = storeVar t a (.agg v.cells) := rfl
theorem set_spl [Val] (vs : List Value) (ex : List Value) (o : Nat) (v : Value) (h : o < vs.length) : spl (vs ++ ex).toArray o [v] = (vs.set o v ++ ex).toArray := by
  apply Array.ext_getElem?
  intro i
  rw [spl_get _ _ _ _ (by simp; omega), List.getElem?_toArray, List.getElem?_toArray, List.getElem?_append, List.getElem?_append, List.length_set, List.getElem?_set]
  by_cases hc : o ≤ i ∧ i < o + [v].length
  · have : i = o := by simp at hc; omega
    subst this
    simp [h]
  · rw [if_neg hc]
    have : o ≠ i := by simp at hc; omega
    simp [this]
theorem sStore_ok [Val] {t : TypeId} {p x : SV} {pv xv : Value} (d : DenH ρ X w0 look fresh w) (hp : p.Den ρ pv) (hx : x.Den ρ xv) (h : sStore P look t p x = some r) : Good P ρ X w0 look fresh id r (do Instr.storeAt t pv xv; pure .skip) w := by
  unfold sStore at h
  split at h <;> try cases h
  rename_i hh off
  split at h <;> try cases h
  rename_i ti hti
  obtain ⟨i, hi, hu, hsz, _, _⟩ := tyOf_spec hti
  split at h <;> try cases h
  rename_i o ho
  simp only [SV.Den] at hp
  obtain ⟨b, m, hb, hm, rfl⟩ := hp
  have run : ∀ (c : Array Value) (T : TypeId), w.heap[b]? = some (.cells c T) → m + xv.cells.size ≤ c.size → xv.cells.size = ti.size → (∀ v ∈ xv.cells.toList, v.oneCell' = true) →
      (Instr.storeAt t (.pointer (some ⟨b, m, none⟩)) xv).run P w = .ok () (w.setCells b m xv.cells.toList) := fun c T hc hle hs h1 => by
    simp only [Instr.storeAt, Instr.sureAddr, Sem.run_bind, Sem.run_pure, Result.andThen_ok]
    rw [storeVar_cells]
    exact run_storeVar_mid w b m t _ (there_at hc hle) (by rw [hi]; simp [hsz, hs]) (Array.all_eq_true_iff_forall_mem.2 fun v hv => h1 v (by simpa using hv))
  split at h
  · rename_i m'
    simp only [SOff.Den] at hm; subst hm
    split at h <;> try cases h
    rename_i vs hvs
    split at h <;> try cases h
    rename_i hbq
    have hbq := Nat.eq_of_beq_eq_true hbq
    split at h <;> try cases h
    rename_i o' ho'
    obtain ⟨ys, hys, hcs, hone⟩ := cellsOf_den hvs hx
    obtain ⟨b', obj, hb', hobj, hden⟩ := d.at ho (by cases o <;> first | rfl | cases ho')
    obtain rfl : b' = b := by rw [hb] at hb'; injection hb' with e; exact e.symm
    obtain ⟨a1, a2, c, T, rfl, hle, hnew⟩ := objOver_den ho' hden hys
    have hl := denL_length hys
    refine Good.put d ho a1 hb a2 (run c T hobj (by rw [hcs]; simpa using hle) (by rw [hcs]; simp; omega) (by rw [hcs]; simpa using hone)) (by rw [hcs]; exact setCells_at _ _ _ _ hobj) (only_setCells _ _ _ _) hnew
  · rename_i bb s n ii
    obtain ⟨rfl, h0i, hlt⟩ := hm
    split at h <;> try cases h
    rename_i k v
    simp only [SV.Den] at hx; subst hx
    split at h <;> try cases h
    rename_i hbq
    have hbq := Nat.eq_of_beq_eq_true hbq
    split at h <;> try cases h
    rename_i o' ho'
    have fin : ∀ (l l' : List SV) (vs ex : List Value) (T : TypeId), o.isAbs = false → o'.isAbs = false → ObjDen ρ o (.cells (vs ++ ex).toArray T) → w.heap[b]? = some (.cells (vs ++ ex).toArray T) → scatter k v ii s n bb 0 l = some l' → SV.DenL ρ l vs →
        (SV.DenL ρ l' (vs.set (bb + s * ii.v.toNat) (.int k v.v)) → ObjDen ρ o' (.cells (vs.set (bb + s * ii.v.toNat) (.int k v.v) ++ ex).toArray T)) →
        Good P ρ X w0 look fresh id (.tup [], [.set hh o'], [hh]) (do Instr.storeAt t (.pointer (some ⟨b, bb + s * ii.v.toNat, none⟩)) (.int k v.v); pure .skip) w := by
      intro l l' vs ex T a1 a2 hden hobj hsc hvs hfin
      obtain ⟨h1, h2⟩ := scatter_den h0i hsc hvs
      rw [if_pos (by omega)] at h1
      have h2 := h2 (by omega) (by omega)
      simp only [Nat.sub_zero] at h1 h2
      refine Good.put d ho a1 hb a2 (run _ T hobj (by simp [Value.cells]; omega) (by simp [Value.cells]; omega) (by simp [Value.cells, Value.oneCell'])) (setCells_at _ _ _ _ hobj) (only_setCells _ _ _ _) ?_
      have : (Value.int k v.v).cells.toList = [.int k v.v] := rfl
      rw [this, set_spl _ _ _ _ h2]
      exact hfin h1
    unfold objScatter at ho'
    split at ho' <;> try cases ho'
    · rename_i l T
      split at ho' <;> try cases ho'
      rename_i l' hl'
      obtain ⟨b', obj, hb', hobj, hden⟩ := d.at ho rfl
      obtain rfl : b' = b := by rw [hb] at hb'; injection hb' with e; exact e.symm
      have hden0 := hden
      obtain ⟨vs, hvs, rfl⟩ := hden
      have e : vs.toArray = (vs ++ []).toArray := by simp
      rw [e] at hobj hden0
      exact fin l l' vs [] T rfl rfl hden0 hobj hl' hvs fun hf => ⟨_, hf, by simp⟩
    · rename_i l cc ee T
      split at ho' <;> try cases ho'
      rename_i l' hl'
      obtain ⟨b', obj, hb', hobj, hden⟩ := d.at ho rfl
      obtain rfl : b' = b := by rw [hb] at hb'; injection hb' with e; exact e.symm
      have hden0 := hden
      obtain ⟨vs, ex, κ, hvs, hκ, hlen, rfl⟩ := hden
      exact fin l l' vs ex T rfl rfl hden0 hobj hl' hvs fun hf => ⟨_, ex, κ, hf, hκ, by simpa using hlen, rfl⟩
  · cases h

/-! New variables. -/
theorem cells_den [Val] {s : SV} {z : Value} (hz : ofVal z = some s) : SV.DenL ρ s.cells z.cells.toList := by
  unfold ofVal at hz
  split at hz
  · rename_i cs
    split at hz <;> try cases hz
    rename_i l hl
    exact ofScalars_den hl
  · rename_i cs
    split at hz <;> try cases hz
    rename_i l hl
    exact denL_cons'.2 ⟨(by simp only [SV.Den]; exact ⟨_, ofScalars_den hl, by simp⟩), by simp⟩
  · rename_i h1 h2
    have hd := ofScalar_den (ρ := ρ) hz
    have e1 : s.cells = [s] := by
      cases s <;> first | rfl | skip
      exfalso
      unfold ofScalar at hz
      split at hz <;> cases hz
    have e2 : z.cells = #[z] := by
      cases z <;> first | rfl | skip
      exact absurd rfl (h1 _)
    rw [e1, e2]
    exact denL_cons'.2 ⟨hd, by simp⟩
def sAlloc (P : Program) (id : Nat) (t : TypeId) : R :=
  match tyOf P t with
  | none => none
  | some ti => match ti.zero with
    | none => none
    | some z => some (.ptr id (.lit 0), [.ins id (.cells z.cells t)], [])
theorem sAlloc_ok [Val] {t : TypeId} (d : DenH ρ X w0 look fresh w) (hid : fresh id) (h : sAlloc P id t = some r) : Good P ρ X w0 look fresh id r (do pure (.value (← Instr.alloc t true (.tuple #[])))) w := by
  unfold sAlloc at h
  split at h <;> try cases h
  rename_i ti hti
  obtain ⟨i, hi, hu, hsz, _, hz⟩ := tyOf_spec hti
  split at h <;> try cases h
  rename_i s hs
  obtain ⟨z, hz1, hz2⟩ := hz s hs
  have hrun : (Instr.alloc t true (.tuple #[])).run P w = .ok (.pointer (some ⟨w.heap.size, 0, none⟩)) (w.alloc (.cells z.cells t)) := by
    simp [Instr.alloc, zeroValue, typeInfo, hi, hz1, newVar, newRow]
  refine Good.new d hid rfl hrun ⟨z.cells.toList, cells_den hz2, by simp⟩ ?_
  simp only [SV.Den]
  exact ⟨_, 0, Env.put_same _ _ _, rfl, rfl⟩
def sBox (id : Nat) (t : TypeId) (x : SV) : R :=
  match cellsOf x with
  | none => none
  | some l => some (.ptr id (.lit 0), [.ins id (.cells l t)], [])
theorem sBox_ok [Val] {t : TypeId} {x : SV} {xv : Value} (d : DenH ρ X w0 look fresh w) (hid : fresh id) (hx : x.Den ρ xv) (h : sBox id t x = some r) : Good P ρ X w0 look fresh id r (do pure (.value (← Instr.box t xv))) w := by
  unfold sBox at h
  split at h <;> try cases h
  rename_i l hl
  obtain ⟨ys, hys, hcs, hone⟩ := cellsOf_den hl hx
  have hrun : (Instr.box t xv).run P w = .ok (.pointer (some ⟨w.heap.size, 0, none⟩)) (w.alloc (.cells ys.toArray t)) := by
    simp [Instr.box, newVar, newRow, hcs]
  refine Good.new d hid rfl hrun ⟨ys, hys, rfl⟩ ?_
  simp only [SV.Den]
  exact ⟨_, 0, Env.put_same _ _ _, rfl, rfl⟩

/-! Structs and arrays by value. -/
theorem zip_fold [Val] (o : Nat) : ∀ (l : List Value) (k : Nat) (c : Array Value), (l.zipIdx k).foldl (fun cs (x : Value × Nat) => cs.setIfInBounds (o + x.2) x.1) c = spl c (o + k) l
  | [], _, _ => rfl
  | v :: r, k, c => by
    simp only [List.zipIdx_cons, List.foldl_cons, spl]
    rw [zip_fold o r (k + 1)]
    rfl
theorem zip_fold' [Val] (c vs : Array Value) (o : Nat) : vs.zipIdx.foldl (fun cs (x : Value × Nat) => cs.setIfInBounds (o + x.2) x.1) c = spl c o vs.toList := by
  rw [← Array.foldl_toList, Array.toList_zipIdx]
  exact zip_fold o vs.toList 0 c
def fillS (place : Nat → Option (Nat × Nat)) : List SV → List (Nat × SV) → Option (List SV)
  | cells, [] => some cells
  | cells, (i, v) :: rest => match place i with
    | none => none
    | some (o, n) => match cellsOf v with
      | none => none
      | some vs => match Nat.beq vs.length n with
        | false => none
        | true => match Nat.ble (o + vs.length) cells.length with
          | false => none
          | true => fillS place (over cells o vs) rest
def DenPs [Val] (ρ : Env) : List (Nat × SV) → List (Nat × Value) → Prop
  | [], ps => ps = []
  | (i, s) :: l, ps => ∃ v ps', ps = (i, v) :: ps' ∧ s.Den ρ v ∧ DenPs ρ l ps'
theorem fillS_den [Val] {place : Nat → Option (Nat × Nat)} : ∀ {ps : List (Nat × SV)} {qs : List (Nat × Value)} {cells l : List SV} {c : Array Value}, fillS place cells ps = some l → DenPs ρ ps qs → SV.DenL ρ cells c.toList →
    ∃ c', Instr.fill place c qs = some c' ∧ SV.DenL ρ l c'.toList ∧ c'.size = c.size
  | [], _, cells, l, c, h, hp, hc => by
    simp only [DenPs] at hp; subst hp
    simp only [fillS, Option.some.injEq] at h; subst h
    exact ⟨c, rfl, hc, rfl⟩
  | (i, s) :: ps, _, cells, l, c, h, hp, hc => by
    obtain ⟨v, qs', rfl, h1, h2⟩ := hp
    unfold fillS at h
    split at h <;> try cases h
    rename_i o n hpl
    split at h <;> try cases h
    rename_i vs hvs
    split at h <;> try cases h
    rename_i hbq
    have hbq := Nat.eq_of_beq_eq_true hbq
    split at h <;> try cases h
    rename_i hbl
    have hbl := Nat.le_of_ble_eq_true hbl
    obtain ⟨ys, hys, hcs, _⟩ := cellsOf_den hvs h1
    have e1 := denL_length hys
    have e2 := denL_length hc
    have hov : SV.DenL ρ (over cells o vs) (spl c o ys).toList := by
      have := denL_over hc hys hbl
      simpa using this
    obtain ⟨c', f1, f2, f3⟩ := fillS_den h h2 hov
    refine ⟨c', ?_, f2, by rw [f3, spl_size]⟩
    unfold Instr.fill
    simp only [hpl]
    have e3 : v.cells.size = ys.length := by rw [hcs]; simp
    have e4 : c.size = cells.length := by simpa using e2
    rw [zip_fold', hcs]
    simp only
    rw [if_neg]
    · exact f1
    · simp; omega
def sizesOf (P : Program) : List Field → Option (List (Nat × Nat))
  | [] => some []
  | f :: fs => match tyOf P f.type with
    | none => none
    | some ti => match sizesOf P fs with
      | none => none
      | some r => some ((f.offset, ti.size) :: r)
theorem run_sizeOf' [Val] {t : TypeId} {ti : TyI} (h : tyOf P t = some ti) (w : World) : (sizeOf t).run P w = .ok ti.size w := by
  obtain ⟨i, hi, _, hs, _, _⟩ := tyOf_spec h
  simp [sizeOf, typeInfo, hi, hs]
theorem sizesOf_run [Val] {w : World} : ∀ {fs : List Field} {l : List (Nat × Nat)}, sizesOf P fs = some l → (fs.mapM fun f => do pure (f.offset, ← sizeOf f.type) : Sem (List (Nat × Nat))).run P w = .ok l w
  | [], _, h => by simp only [sizesOf, Option.some.injEq] at h; subst h; simp
  | f :: fs, _, h => by
    unfold sizesOf at h
    split at h <;> try cases h
    rename_i ti hti
    split at h <;> try cases h
    rename_i r hr
    rw [List.mapM_cons]
    simp only [Sem.run_bind, run_sizeOf' hti, Result.andThen_ok, Sem.run_pure, sizesOf_run hr]
def nthP : List (Nat × Nat) → Nat → Option (Nat × Nat)
  | [], _ => none
  | x :: _, 0 => some x
  | _ :: l, n + 1 => nthP l n
theorem nthP_eq [Val] : ∀ (l : List (Nat × Nat)) (i : Nat), nthP l i = l[i]?
  | [], _ => by simp [nthP]
  | _ :: _, 0 => by simp [nthP]
  | _ :: l, i + 1 => by simp [nthP, nthP_eq l i]
def sBuild (P : Program) (t : TypeId) (parts : List (Nat × SV)) : R :=
  match tyOf P t with
  | none => none
  | some ti => match ti.zero with
    | none => none
    | some z => match ti.desc with
      | .struct fields => match sizesOf P fields.toList with
        | none => none
        | some pl => match fillS (nthP pl) z.cells parts with
          | some l => some (.agg l, [], [])
          | none => none
      | .array _ elem => match tyOf P elem with
        | none => none
        | some te => match fillS (fun i => some (i * te.size, te.size)) z.cells parts with
          | some l => some (.agg l, [], [])
          | none => none
      | _ => none
theorem sBuild_ok [Val] {t : TypeId} {ps : List (Nat × SV)} {qs : Array (Nat × Value)} (d : DenH ρ X w0 look fresh w) (hp : DenPs ρ ps qs.toList) (h : sBuild P t ps = some r) : Good P ρ X w0 look fresh id r (do pure (.value (← Instr.build t qs))) w := by
  unfold sBuild at h
  split at h <;> try cases h
  rename_i ti hti
  obtain ⟨i, hi, hu, hsz, _, hz⟩ := tyOf_spec hti
  split at h <;> try cases h
  rename_i s hs
  obtain ⟨z, hz1, hz2⟩ := hz s hs
  have hc : SV.DenL ρ s.cells z.cells.toList := cells_den hz2
  split at h <;> try cases h
  · rename_i fields hdesc
    split at h <;> try cases h
    rename_i pl hpl
    split at h <;> try cases h
    rename_i l hl
    obtain ⟨c', f1, f2, _⟩ := fillS_den hl hp hc
    rw [hdesc] at hu
    refine Good.value d (val := .agg c') ?_ (by simp only [SV.Den]; exact ⟨_, f2, by simp⟩)
    have hm : (fields.mapM fun f => do pure (f.offset, ← sizeOf f.type) : Sem (Array (Nat × Nat))).run P w = .ok pl.toArray w := by
      rw [Array.mapM_eq_mapM_toList]
      simp only [Sem.run_map, sizesOf_run hpl, Result.andThen_ok]
    have e : (fun i => pl.toArray[i]?) = nthP pl := by funext i; rw [nthP_eq]; simp
    simp only [Instr.build, Sem.run_bind, zeroValue, typeInfo, hi, hz1, run_program, Result.andThen_ok, Sem.run_pure, run_underlying hu, hm]
    rw [e, f1]
    simp
  · rename_i n elem hdesc
    split at h <;> try cases h
    rename_i te hte
    split at h <;> try cases h
    rename_i l hl
    obtain ⟨c', f1, f2, _⟩ := fillS_den hl hp hc
    rw [hdesc] at hu
    refine Good.value d (val := .agg c') ?_ (by simp only [SV.Den]; exact ⟨_, f2, by simp⟩)
    simp only [Instr.build, Sem.run_bind, zeroValue, typeInfo, hi, hz1, run_program, Result.andThen_ok, Sem.run_pure, run_underlying hu, run_sizeOf' hte]
    rw [f1]
    simp
end
end Go.Sx
