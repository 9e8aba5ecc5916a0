/- The operations on symbolic values: entries of maps, len, cap, append, copy, ranges over strings. -/
import Derived.Test.YtpooghnemlnopaaSx8
namespace Go.Sx
set_option linter.unusedSimpArgs false
set_option linter.unusedVariables false
open Go Go.RowKit Go.Cd Go.Proofs.Ytpooghnemlnopaa Go.MapKept
section
variable {P : Program} {ρ : Env} {X : Nat → Prop} {w0 w : World} {look : Look} {fresh : Nat → Prop} {id : Nat} {r : SV × List Upd × List Nat}

/-- A change of one object, and a value. -/
theorem Good.putv [Val] {h : Nat} {o o' : SObj} {us : List Nat} {sem : Sem Value} {b : Nat} {obj' : Obj} {w' : World} {s : SV} {val : Value} (d : DenH ρ X w0 look fresh w) (hl : look h = some o) (ho : o.isAbs = false) (hb : ρ h = some b) (ho' : o'.isAbs = false)
    (hr : sem.run P w = .ok val w') (hs : s.Den ρ val) (hw : w'.heap[b]? = some obj') (hwo : Only b w w') (hden : ObjDen ρ o' obj') : Good P ρ X w0 look fresh id (s, [.set h o'], us) (do pure (.value (← sem))) w :=
  ⟨_, val, ρ, w', by simp only [Sem.run_bind, hr, Result.andThen_ok, Sem.run_pure], .inl rfl, Env.le_refl _, hs, (d.put hl ho hb ho' hw hwo hden (fun j => rfl)).fresh_mono fun _ h => h.1⟩
/-- The kinds of a map with whole numbers as keys. -/
def mapOf (P : Program) (t : TypeId) : Option (TypeId × TypeId × SV) :=
  match tyOf P t with
  | none => none
  | some ti => match ti.desc with
    | .map kt et => match tyOf P kt, tyOf P et with
      | some tk, some te => match tk.desc, te.zero with
        | .int _, some z => some (kt, et, z)
        | _, _ => none
      | _, _ => none
    | _ => none
theorem mapOf_spec [Val] {t kt et : TypeId} {z : SV} (h : mapOf P t = some (kt, et, z)) : ∃ k0 j zv, P.underlying t = some (.map kt et) ∧ P.underlying kt = some (.int k0) ∧ P.info? et = some j ∧ j.zero = some zv ∧ ofVal zv = some z := by
  unfold mapOf at h
  split at h <;> try cases h
  rename_i ti hti
  obtain ⟨_, _, hu, _, _, _⟩ := tyOf_spec hti
  split at h <;> try cases h
  rename_i kt' et' hdesc
  rw [hdesc] at hu
  split at h <;> try cases h
  rename_i tk te htk hte
  obtain ⟨_, _, huk, _, _, _⟩ := tyOf_spec htk
  obtain ⟨j, hj, _, _, _, hz⟩ := tyOf_spec hte
  split at h <;> cases h
  obtain ⟨k0, hk0⟩ : ∃ k, tk.desc = .int k := ⟨_, by assumption⟩
  have hz0 : te.zero = some z := by assumption
  rw [hk0] at huk
  obtain ⟨zv, hz1, hz2⟩ := hz z hz0
  exact ⟨k0, j, zv, hu, huk, hj, hz1, hz2⟩
def sMapEntry (P : Program) (look : Look) (t : TypeId) (m k : SV) : R :=
  match k, m with
  | .int kk (.lit x), .map h => match mapOf P t with
    | none => none
    | some (_, _, z) => match look h with
      | some (.smap es clock) => match findE kk x es with
        | some (some (v, born)) => some (.tup [v, .int .i64 (.lit born)], [.set h (.smap es clock)], [h])
        | some none => some (.tup [z, .int .i64 (.lit clock)], [.set h (.smap (es ++ [(.int kk (.lit x), z, clock)]) (clock + 1))], [h])
        | none => none
      | _ => none
  | _, _ => none
theorem modify_same [Val] {l : List MapEntry} {j : Nat} {e : MapEntry} {f : MapEntry → MapEntry} (h : l[j]? = some e) (hf : f e = e) : l.modify j f = l := by
  apply List.ext_getElem?
  intro m
  rw [List.getElem?_modify]
  by_cases hm : j = m
  · subst hm; simp [h, hf]
  · simp [hm]
theorem arr_modify [Val] (l : List MapEntry) (j : Nat) (f : MapEntry → MapEntry) : l.toArray.modify j f = (l.modify j f).toArray := by
  apply Array.ext_getElem?
  intro i
  simp only [Array.getElem?_modify, List.getElem?_toArray, List.getElem?_modify]
  by_cases hi : j = i <;> simp [hi]
theorem sMapEntry_ok [Val] {t : TypeId} {m k : SV} {mv kv : Value} (d : DenH ρ X w0 look fresh w) (hm : m.Den ρ mv) (hk : k.Den ρ kv) (h : sMapEntry P look t m k = some r) : Good P ρ X w0 look fresh id r (do pure (.value (← Instr.mapEntry t mv kv))) w := by
  unfold sMapEntry at h
  split at h <;> try cases h
  rename_i kk x hh
  simp only [SV.Den, SI.lit_v] at hk; subst hk
  split at h <;> try cases h
  rename_i kt et z hmap
  obtain ⟨k0, j, zv, hu, huk, hj, hz1, hz2⟩ := mapOf_spec hmap
  have hzd := ofVal_den (ρ := ρ) hz2
  split at h <;> try cases h
  rename_i es clock hlk
  simp only [SV.Den] at hm
  obtain ⟨b, hb, rfl⟩ := hm
  obtain ⟨b', obj, hb', hobj, hden⟩ := d.at hlk rfl
  obtain rfl : b' = b := by rw [hb] at hb'; injection hb' with e; exact e.symm
  obtain ⟨xs, hxs, rfl⟩ := hden
  have hlt := lt_of_heap hobj
  split at h <;> cases h
  · rename_i v born hf
    obtain ⟨jj, e, f1, f2, f3, f4, f5, f6⟩ := findE_ok (k0 := k0) 0 hf hxs
    have e1 : xs.modify jj (fun e => { e with key := .int kk x }) = xs := modify_same f2 (by cases e; simp at f3; simp [f3])
    have e : (Instr.mapEntry t (.map (some b')) (.int kk x)).run P w = .ok (.tuple #[e.val, .int .i64 born]) (w.putObj b' (.map xs.toArray clock)) := by
      simp [Instr.mapEntry, run_underlying hu, run_checkKey_int huk, Instr.findKey, run_underlying huk, getMap hobj, f1, f2, f3, f5, Instr.keyThatStays, Instr.sameBits, arr_modify, e1, setMap _ hobj, goInt]
    exact Good.putv d hlk rfl hb rfl e (tup2_den f4 (by simp [SV.Den])) (World.putObj_heap_same hlt) (only_putObj _ _ _) ⟨xs, hxs, rfl⟩
  · rename_i hf
    have f1 := findE_ok (k0 := k0) 0 hf hxs
    simp only at f1
    have e : (Instr.mapEntry t (.map (some b')) (.int kk x)).run P w = .ok (.tuple #[zv, .int .i64 clock]) (w.putObj b' (.map (xs.toArray.push { key := .int kk x, val := zv, born := clock }) (clock + 1))) := by
      simp [Instr.mapEntry, run_underlying hu, run_checkKey_int huk, Instr.findKey, run_underlying huk, getMap hobj, f1, zeroValue, typeInfo, hj, hz1, setMap _ hobj, goInt]
    refine Good.putv d hlk rfl hb rfl e (tup2_den hzd (by simp [SV.Den])) (World.putObj_heap_same hlt) (only_putObj _ _ _) ⟨xs ++ [{ key := .int kk x, val := zv, born := clock }], ?_, by simp⟩
    exact denEs_append hxs ⟨_, _, [], rfl, by simp [SV.Den], hzd, rfl⟩
/-- The entries with another value under a stamp. -/
def modB (n : Nat) (v : SV) : List (SV × SV × Nat) → Option (List (SV × SV × Nat))
  | [] => none
  | (k, u, b) :: es => match Nat.beq b n with
    | true => some ((k, v, b) :: es)
    | false => match modB n v es with
      | some r => some ((k, u, b) :: r)
      | none => none
theorem modB_ok [Val] {n : Nat} {v : SV} {x : Value} (hx : v.Den ρ x) : ∀ {l l' : List (SV × SV × Nat)} {es : List MapEntry}, modB n v l = some l' → DenEs ρ l es →
    ∃ i, es.findIdx? (fun e => (e.born : Int) == (n : Int)) = some i ∧ DenEs ρ l' (es.modify i fun e => { e with val := x })
  | [], _, _, h, _ => by simp [modB] at h
  | (k, u, b) :: l, _, _, h, hd => by
    obtain ⟨xk, y, es1, rfl, h1, h2, h3⟩ := hd
    unfold modB at h
    split at h
    · rename_i hb
      have hb := Nat.eq_of_beq_eq_true hb; subst hb
      cases h
      exact ⟨0, by simp [List.findIdx?_cons], xk, x, es1, by simp, h1, hx, h3⟩
    · rename_i hb
      have hb := Nat.ne_of_beq_eq_false hb
      split at h <;> cases h
      rename_i r hr
      obtain ⟨i, e1, e2⟩ := modB_ok hx hr h3
      have hb' : ((b : Int) == (n : Int)) = false := by simp; omega
      exact ⟨i + 1, by rw [List.findIdx?_cons]; simp only [hb', e1]; rfl, xk, y, es1.modify i fun e => { e with val := x }, by simp, h1, h2, e2⟩
def sEntryStore (look : Look) (m s x : SV) : R :=
  match m, s with
  | .map h, .int _ (.lit (.ofNat n)) => match look h with
    | some (.smap es clock) => match modB n x es with
      | some es' => some (.tup [], [.set h (.smap es' clock)], [h])
      | none => none
    | _ => none
  | _, _ => none
theorem sEntryStore_ok [Val] {t : TypeId} {m s x : SV} {mv sv xv : Value} (d : DenH ρ X w0 look fresh w) (hm : m.Den ρ mv) (hs : s.Den ρ sv) (hx : x.Den ρ xv) (h : sEntryStore look m s x = some r) : Good P ρ X w0 look fresh id r (do Instr.entryStore t mv sv xv; pure .skip) w := by
  unfold sEntryStore at h
  split at h <;> try cases h
  rename_i hh k n
  simp only [SV.Den, SI.lit_v] at hs; subst hs
  split at h <;> try cases h
  rename_i es clock hlk
  split at h <;> cases h
  rename_i es' hes
  simp only [SV.Den] at hm
  obtain ⟨b, hb, rfl⟩ := hm
  obtain ⟨b', obj, hb', hobj, hden⟩ := d.at hlk rfl
  obtain rfl : b' = b := by rw [hb] at hb'; injection hb' with e; exact e.symm
  obtain ⟨xs, hxs, rfl⟩ := hden
  have hlt := lt_of_heap hobj
  obtain ⟨i, e1, e2⟩ := modB_ok hx hes hxs
  have e : (Instr.entryStore t (.map (some b')) (.int k (Int.ofNat n)) xv).run P w = .ok () (w.putObj b' (.map (xs.modify i fun e => { e with val := xv }).toArray clock)) := by
    simp only [Instr.entryStore, Sem.run_bind, getMap hobj, Result.andThen_ok, asInt, asIntOf, Sem.run_pure, List.findIdx?_toArray]
    have e1' : xs.findIdx? (fun e => (e.born : Int) == Int.ofNat n) = some i := e1
    rw [e1']
    simp only [arr_modify, setMap _ hobj]
  exact Good.put d hlk rfl hb rfl e (World.putObj_heap_same hlt) (only_putObj _ _ _) ⟨_, e2, rfl⟩
def sMapUpdate (P : Program) (look : Look) (t : TypeId) (m k x : SV) : R :=
  match k, m with
  | .int kk (.lit n), .map h => match mapOf P t with
    | none => none
    | some (_, _, _) => match look h with
      | some (.smap es clock) => match findE kk n es with
        | some (some (_, _)) => some (.tup [], [.set h (.smap (modE n x es) clock)], [h])
        | some none => some (.tup [], [.set h (.smap (es ++ [(.int kk (.lit n), x, clock)]) (clock + 1))], [h])
        | none => none
      | _ => none
  | _, _ => none
theorem sMapUpdate_ok [Val] {t : TypeId} {m k x : SV} {mv kv xv : Value} (d : DenH ρ X w0 look fresh w) (hm : m.Den ρ mv) (hk : k.Den ρ kv) (hx : x.Den ρ xv) (h : sMapUpdate P look t m k x = some r) : Good P ρ X w0 look fresh id r (do Instr.mapUpdate t mv kv xv; pure .skip) w := by
  unfold sMapUpdate at h
  split at h <;> try cases h
  rename_i kk n hh
  simp only [SV.Den, SI.lit_v] at hk; subst hk
  split at h <;> try cases h
  rename_i kt et z hmap
  obtain ⟨k0, j, zv, hu, huk, hj, hz1, hz2⟩ := mapOf_spec hmap
  split at h <;> try cases h
  rename_i es clock hlk
  simp only [SV.Den] at hm
  obtain ⟨b, hb, rfl⟩ := hm
  obtain ⟨b', obj, hb', hobj, hden⟩ := d.at hlk rfl
  obtain rfl : b' = b := by rw [hb] at hb'; injection hb' with e; exact e.symm
  obtain ⟨xs, hxs, rfl⟩ := hden
  have hlt := lt_of_heap hobj
  split at h <;> cases h
  · rename_i v born hf
    obtain ⟨jj, e, f1, f2, f3, f4, f5, f6⟩ := findE_ok (k0 := k0) 0 hf hxs
    have e1 : xs.modify jj (fun e => { e with key := .int kk n, val := xv }) = xs.modify jj (fun e => { e with val := xv }) := by
      apply List.ext_getElem?
      intro m
      rw [List.getElem?_modify, List.getElem?_modify]
      by_cases hm : jj = m
      · subst hm; rw [f2]; simp [f3]
      · simp [hm]
    have e : (Instr.mapUpdate t (.map (some b')) (.int kk n) xv).run P w = .ok () (w.putObj b' (.map (xs.modify jj fun e => { e with val := xv }).toArray clock)) := by
      simp [Instr.mapUpdate, run_underlying hu, run_checkKey_int huk, Instr.findKey, run_underlying huk, getMap hobj, f1, f2, f3, f5, Instr.keyThatStays, Instr.sameBits, arr_modify, e1, setMap _ hobj]
    exact Good.put d hlk rfl hb rfl e (World.putObj_heap_same hlt) (only_putObj _ _ _) ⟨_, f6 _ _ hx, rfl⟩
  · rename_i hf
    have f1 := findE_ok (k0 := k0) 0 hf hxs
    simp only at f1
    have e : (Instr.mapUpdate t (.map (some b')) (.int kk n) xv).run P w = .ok () (w.putObj b' (.map (xs.toArray.push { key := .int kk n, val := xv, born := clock }) (clock + 1))) := by
      simp [Instr.mapUpdate, run_underlying hu, run_checkKey_int huk, Instr.findKey, run_underlying huk, getMap hobj, f1, setMap _ hobj]
    refine Good.put d hlk rfl hb rfl e (World.putObj_heap_same hlt) (only_putObj _ _ _) ⟨xs ++ [{ key := .int kk n, val := xv, born := clock }], ?_, by simp⟩
    exact denEs_append hxs ⟨_, _, [], rfl, by simp [SV.Den], hx, rfl⟩

/-- The greater, or the less, of two. -/
def SI.mm (c : COp) : SI → SI → SI
  | .lit a, .lit b => .lit (if c.f b a then b else a)
  | a, b => .sym (.ite (.cmp c b.tm a.tm) b.tm a.tm)
theorem SI.mm_v [Val] (c : COp) (a b : SI) : (SI.mm c a b).v = if c.f b.v a.v then b.v else a.v := by
  cases a <;> cases b <;> rfl
/-! len, cap, min, max. -/
def snI : SN → Option SI
  | .lit n => some (.lit n)
  | .sym n => some (.sym n)
  | .env _ => none
  | .sub _ _ => none
def sLen (P : Program) (look : Look) (t : TypeId) (x : SV) : R :=
  match tyOf P t with
  | none => none
  | some ti => match ti.desc, x with
    | .string, .str s => some (.int .i64 (.lit s.size), [], [])
    | .array n _, _ => some (.int .i64 (.lit n), [], [])
    | .slice _, .nils => some (.int .i64 (.lit 0), [], [])
    | .slice _, .sl _ _ l _ => match snI l with
      | some i => some (.int .i64 i, [], [])
      | none => none
    | .map _ _, .nilm => some (.int .i64 (.lit 0), [], [])
    | .map _ _, .map h => match look h with
      | some (.smap es _) => some (.int .i64 (.lit es.length), [], [h])
      | _ => none
    | _, _ => none
theorem sLen_ok [Val] {t ty : TypeId} {x : SV} {xv : Value} (d : DenH ρ X w0 look fresh w) (hx : x.Den ρ xv) (h : sLen P look t x = some r) : Good P ρ X w0 look fresh id r (do pure (.value (← Builtin.len_ #[t] ty #[xv]))) w := by
  unfold sLen at h
  split at h <;> try cases h
  rename_i ti hti
  obtain ⟨_, _, hu, _, _, _⟩ := tyOf_spec hti
  split at h <;> try cases h
  · rename_i s hdesc
    rw [hdesc] at hu
    simp only [SV.Den] at hx; subst hx
    exact Good.value d (val := .int .i64 s.size) (by simp [Builtin.len_, run_underlying hu, goInt]) (by simp [SV.Den])
  · rename_i n e hdesc
    rw [hdesc] at hu
    exact Good.value d (val := .int .i64 n) (by simp [Builtin.len_, run_underlying hu, goInt]) (by simp [SV.Den])
  · rename_i e hdesc
    rw [hdesc] at hu
    simp only [SV.Den] at hx; subst hx
    exact Good.value d (val := .int .i64 0) (by simp [Builtin.len_, run_underlying hu, goInt]) (by simp [SV.Den])
  · rename_i e hh o l c hdesc
    rw [hdesc] at hu
    split at h <;> cases h
    rename_i i hi
    simp only [SV.Den] at hx
    obtain ⟨b, m, n, k, hb, hm, hn, hk, _, rfl⟩ := hx
    refine Good.value d (val := .int .i64 n) (by simp [Builtin.len_, run_underlying hu, goInt]) ?_
    cases l <;> simp only [snI, Option.some.injEq, reduceCtorEq] at hi <;> subst hi <;> simp only [SN.Den] at hn <;> first | (subst hn; simp [SV.Den]; done) | (simp only [SV.Den, SI.sym_v, hn])
  · rename_i e e2 hdesc
    rw [hdesc] at hu
    simp only [SV.Den] at hx; subst hx
    exact Good.value d (val := .int .i64 0) (by simp [Builtin.len_, run_underlying hu, goInt]) (by simp [SV.Den])
  · rename_i e e2 hh hdesc
    rw [hdesc] at hu
    split at h <;> cases h
    rename_i es clock hlk
    simp only [SV.Den] at hx
    obtain ⟨b, hb, rfl⟩ := hx
    obtain ⟨b', obj, hb', hobj, hden⟩ := d.at hlk rfl
    obtain rfl : b' = b := by rw [hb] at hb'; injection hb' with e; exact e.symm
    obtain ⟨xs, hxs, rfl⟩ := hden
    have hl := denEs_length hxs
    exact Good.value d (val := .int .i64 xs.length) (by simp [Builtin.len_, run_underlying hu, goInt, getMap hobj]) (by simp [SV.Den, hl])
def mmGo (mx : Bool) (k : IntKind) : SI → List SV → Option SI
  | a, [] => some a
  | a, .int k' b :: l => match decide (k = k') with
    | true => mmGo mx k (match mx with
      | true => SI.mm .gt a b
      | false => SI.mm .lt a b) l
    | false => none
  | _, _ => none
theorem mmGo_ok [Val] {mx : Bool} {k : IntKind} : ∀ {l : List SV} {a s : SI} {vs : List Value}, mmGo mx k a l = some s → SV.DenL ρ l vs → (vs.foldlM (if mx then Builtin.max2 else Builtin.min2) (Value.int k a.v)).run P w = .ok (.int k s.v) w
  | [], a, s, _, h, hd => by
    simp only [mmGo, Option.some.injEq] at h; subst h
    rw [denL_nil] at hd; subst hd
    simp
  | x :: l, a, s, _, h, hd => by
    obtain ⟨v, vs', rfl, h1, h2⟩ := denL_cons.1 hd
    unfold mmGo at h
    split at h
    · rename_i heq; cases heq
    · rename_i k' b l' heq
      injection heq with e1 e2
      subst e1 e2
      simp only [SV.Den] at h1; subst h1
      split at h <;> try cases h
      rename_i hk
      have hk := of_decide_eq_true hk; subst hk
      rw [List.foldlM_cons]
      have ih := mmGo_ok h h2
      cases mx
      · simp only [Bool.false_eq_true, if_false, Sem.run_bind, Builtin.min2, Sem.run_pure, Result.andThen_ok, SI.mm_v, COp.f, decide_eq_true_eq] at ih ⊢
        exact ih
      · simp only [if_true, Sem.run_bind, Builtin.max2, Sem.run_pure, Result.andThen_ok, SI.mm_v, COp.f, decide_eq_true_eq] at ih ⊢
        exact ih
    · cases h
def sMM (mx : Bool) : List SV → R
  | .int k a :: l => match mmGo mx k a l with
    | some s => some (.int k s, [], [])
    | none => none
  | _ => none
theorem sMM_ok [Val] {mx : Bool} {l : List SV} {vs : Array Value} {ts : Array TypeId} {ty : TypeId} (d : DenH ρ X w0 look fresh w) (hd : SV.DenL ρ l vs.toList) (h : sMM mx l = some r) :
    Good P ρ X w0 look fresh id r (do pure (.value (← (if mx then Builtin.max_ ts ty vs else Builtin.min_ ts ty vs)))) w := by
  unfold sMM at h
  split at h <;> try cases h
  rename_i k a l
  split at h <;> cases h
  rename_i s hs
  obtain ⟨v, vs', e, h1, h2⟩ := denL_cons.1 hd
  simp only [SV.Den] at h1; subst h1
  have := mmGo_ok (P := P) (w := w) hs h2
  refine Good.value d (val := .int k s.v) ?_ (by simp [SV.Den])
  cases mx
  · simp only [Bool.false_eq_true, if_false, Builtin.min_, e] at this ⊢
    exact this
  · simp only [if_true, Builtin.max_, e] at this ⊢
    exact this
end
end Go.Sx
