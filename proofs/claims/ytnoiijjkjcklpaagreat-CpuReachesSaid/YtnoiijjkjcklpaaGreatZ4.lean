/- Parts of the proof: Sx8, Sx9. -/
import Derived.Test.YtnoiijjkjcklpaaGreatZ3
/- The operations on symbolic values: slices, maps. -/
namespace Go.Sx
set_option linter.unusedSimpArgs false
set_option linter.unusedVariables false
open Go Go.RowKit Go.Cd Go.Proofs.YtnoiijjkjcklpaaGreat Go.MapKept
section
variable {P : Program} {ρ : Env} {X : Nat → Prop} {w0 w : World} {look : Look} {fresh : Nat → Prop} {id : Nat} {r : SV × List Upd × List Nat}

inductive Bnd where
  | no
  | at (n : Nat)
  | bad
def bnd : Option SV → Bnd
  | none => .no
  | some (.int _ (.lit (.ofNat n))) => .at n
  | _ => .bad
def bnds (len cap : Nat) (lo hi mx : Bnd) : Option (Nat × Nat × Nat) :=
  match (match mx, hi with
    | .no, .no => some (cap, len)
    | .no, .at h => some (cap, h)
    | .at m, .at h => some (m, h)
    | _, _ => none) with
  | none => none
  | some (m, h) => match (match lo with
      | .no => some 0
      | .at l => some l
      | .bad => none) with
    | none => none
    | some l => match Nat.ble m cap, Nat.ble h m, Nat.ble l h with
      | true, true, true => some (l, h, m)
      | _, _, _ => none
def DenO [Val] (ρ : Env) : Option SV → Option Value → Prop
  | none, v => v = none
  | some s, v => ∃ x, v = some x ∧ s.Den ρ x
theorem bnd_at [Val] {o : Option SV} {v : Option Value} {n : Nat} (hb : bnd o = .at n) (h : DenO ρ o v) : ∃ k, v = some (.int k n) := by
  unfold bnd at hb
  split at hb <;> cases hb
  rename_i k
  obtain ⟨x, rfl, hx⟩ := h
  simp only [SV.Den, SI.lit_v] at hx
  exact ⟨k, by rw [hx]; rfl⟩
theorem bnd_no [Val] {o : Option SV} {v : Option Value} (hb : bnd o = .no) (h : DenO ρ o v) : v = none := by
  unfold bnd at hb
  split at hb <;> cases hb
  exact h
theorem run_sb [Val] (k : IntKind) (n y : Nat) (code : BoundsCode) (h : n ≤ y) (w : World) : (Instr.sliceBound (.int k n) y code).run P w = .ok n w := by
  simp [Instr.sliceBound, asIntOf, h]
theorem bnds_run [Val] {len cap l h m : Nat} {lo hi mx : Option SV} {lov hiv mxv : Option Value} (hlo : DenO ρ lo lov) (hhi : DenO ρ hi hiv) (hmx : DenO ρ mx mxv) (hb : bnds len cap (bnd lo) (bnd hi) (bnd mx) = some (l, h, m)) (isS : Bool) (w : World) :
    (Instr.sliceBounds isS len cap lov hiv mxv).run P w = .ok (l, h, m) w ∧ l ≤ h ∧ h ≤ m ∧ m ≤ cap := by
  unfold bnds at hb
  split at hb <;> try cases hb
  rename_i m' h' hmh
  split at hb <;> try cases hb
  rename_i l' hl'
  split at hb <;> cases hb
  have e1 : m ≤ cap := Nat.le_of_ble_eq_true (by assumption)
  have e2 : h ≤ m := Nat.le_of_ble_eq_true (by assumption)
  have e3 : l ≤ h := Nat.le_of_ble_eq_true (by assumption)
  refine ⟨?_, e3, e2, e1⟩
  have hL : lov = none ∧ l = 0 ∨ ∃ k, lov = some (.int k l) := by
    split at hl' <;> cases hl'
    · have e : bnd lo = .no := by assumption
      exact .inl ⟨bnd_no e hlo, rfl⟩
    · have e : bnd lo = .at l := by assumption
      exact .inr (bnd_at e hlo)
  clear hl'
  split at hmh <;> cases hmh
  · have f1 : bnd mx = .no := by assumption
    have f2 : bnd hi = .no := by assumption
    obtain rfl := bnd_no f1 hmx
    obtain rfl := bnd_no f2 hhi
    rcases hL with ⟨rfl, rfl⟩ | ⟨k, rfl⟩
    · simp [Instr.sliceBounds]
    · simp [Instr.sliceBounds, run_sb _ _ _ _ e3]
  · have f1 : bnd mx = .no := by assumption
    have f2 : bnd hi = .at h := by assumption
    obtain rfl := bnd_no f1 hmx
    obtain ⟨kh, rfl⟩ := bnd_at f2 hhi
    rcases hL with ⟨rfl, rfl⟩ | ⟨k, rfl⟩
    · simp [Instr.sliceBounds, run_sb _ _ _ _ e2]
    · simp [Instr.sliceBounds, run_sb _ _ _ _ e2, run_sb _ _ _ _ e3]
  · have f1 : bnd mx = .at m := by assumption
    have f2 : bnd hi = .at h := by assumption
    obtain ⟨km, rfl⟩ := bnd_at f1 hmx
    obtain ⟨kh, rfl⟩ := bnd_at f2 hhi
    rcases hL with ⟨rfl, rfl⟩ | ⟨k, rfl⟩
    · simp [Instr.sliceBounds, run_sb _ _ _ _ e2, run_sb _ _ _ _ e1]
    · simp [Instr.sliceBounds, run_sb _ _ _ _ e2, run_sb _ _ _ _ e1, run_sb _ _ _ _ e3]
def sliceOff (o : SOff) (l m sz : Nat) : SOff := match Nat.beq m l with
  | true => o
  | false => offAdd o (l * sz)
theorem sliceOff_den [Val] {o : SOff} {n l m sz : Nat} (h : o.Den n) : (sliceOff o l m sz).Den (if m = l then n else n + l * sz) := by
  unfold sliceOff
  split
  · rename_i e; rw [if_pos (Nat.eq_of_beq_eq_true e)]; exact h
  · rename_i e; rw [if_neg (Nat.ne_of_beq_eq_false e)]; exact offAdd_den _ h
def sSlice (P : Program) (t : TypeId) (x : SV) (lo hi mx : Option SV) : R :=
  match tyOf P t with
  | none => none
  | some ti => match ti.desc, x with
    | .array n elem, .ptr h o => match tyOf P elem, bnds n n (bnd lo) (bnd hi) (bnd mx) with
      | some te, some (a, b, c) => some (.sl h (sliceOff o a c te.size) (.lit (b - a)) (.lit (c - a)), [], [])
      | _, _ => none
    | .slice elem, .sl h o (.lit len) (.lit cap) => match tyOf P elem, bnds len cap (bnd lo) (bnd hi) (bnd mx) with
      | some te, some (a, b, c) => some (.sl h (sliceOff o a c te.size) (.lit (b - a)) (.lit (c - a)), [], [])
      | _, _ => none
    | .slice elem, .sl h o (.lit len) (.env c) => match mx, tyOf P elem, bnds len len (bnd lo) (bnd hi) .no with
      | none, some te, some (a, b, _) => match Nat.beq a 0 with
        | true => some (.sl h o (.lit b) (.env c), [], [])
        | false => match Nat.blt a len with
          | true => some (.sl h (offAdd o (a * te.size)) (.lit (b - a)) (.sub c a), [], [])
          | false => some (.sl h .any (.lit (b - a)) (.sub c a), [], [])
      | _, _, _ => none
    | .slice elem, .nils => match tyOf P elem, bnds 0 0 (bnd lo) (bnd hi) (bnd mx) with
      | some te, some (a, b, c) => some (.nils, [], [])
      | _, _ => none
    | _, _ => none
theorem sSlice_ok [Val] {t : TypeId} {x : SV} {xv : Value} {lo hi mx : Option SV} {lov hiv mxv : Option Value} (d : DenH ρ X w0 look fresh w) (hx : x.Den ρ xv) (hlo : DenO ρ lo lov) (hhi : DenO ρ hi hiv) (hmx : DenO ρ mx mxv)
    (h : sSlice P t x lo hi mx = some r) : Good P ρ X w0 look fresh id r (do pure (.value (← Instr.sliceAt t xv lov hiv mxv))) w := by
  unfold sSlice at h
  split at h <;> try cases h
  rename_i ti hti
  obtain ⟨_, _, hu, _, _, _⟩ := tyOf_spec hti
  split at h <;> try cases h
  · rename_i n elem hh o hdesc
    split at h <;> try cases h
    rename_i te a b c hte hb
    rw [hdesc] at hu
    simp only [SV.Den] at hx
    obtain ⟨bb, m, hbb, hm, rfl⟩ := hx
    obtain ⟨hr, h1, h2, h3⟩ := bnds_run (P := P) hlo hhi hmx hb false w
    refine Good.value d (val := .slice (some ⟨bb, if c = a then m else m + a * te.size, none⟩) (b - a) (c - a)) ?_ (by simp only [SV.Den, SN.Den]; exact ⟨bb, _, _, _, hbb, sliceOff_den hm, rfl, rfl, by omega, rfl⟩)
    simp only [Instr.sliceAt, Sem.run_bind, run_underlying hu, Result.andThen_ok, Instr.sureAddr, Sem.run_pure, hr, run_sizeOf' hte, add_mk]
    split <;> rfl
  · rename_i elem hh o len cap hdesc
    split at h <;> try cases h
    rename_i te a b c hte hb
    rw [hdesc] at hu
    simp only [SV.Den, SN.Den] at hx
    obtain ⟨bb, m, n', k', hbb, hm, rfl, rfl, _, rfl⟩ := hx
    obtain ⟨hr, h1, h2, h3⟩ := bnds_run (P := P) hlo hhi hmx hb true w
    refine Good.value d (val := .slice (some ⟨bb, if c = a then m else m + a * te.size, none⟩) (b - a) (c - a)) ?_ (by simp only [SV.Den, SN.Den]; exact ⟨bb, _, _, _, hbb, sliceOff_den hm, rfl, rfl, by omega, rfl⟩)
    simp only [Instr.sliceAt, Instr.slice, Sem.run_bind, run_underlying hu, Result.andThen_ok, Sem.run_pure, hr, run_sizeOf' hte, Option.map_some, add_mk]
    split <;> rfl
  · rename_i elem hh o len cc hdesc
    split at h <;> try (cases h; done)
    rename_i te a b m' hte hb
    obtain rfl : mxv = none := hmx
    rw [hdesc] at hu
    simp only [SV.Den, SN.Den] at hx
    obtain ⟨bb, m, n', k', hbb, hm, rfl, hk', hle, rfl⟩ := hx
    have hb' : ∃ m2, bnds n' k' (bnd lo) (bnd hi) .no = some (a, b, m2) ∧ m2 = k' := by
      unfold bnds at hb ⊢
      split at hb <;> try (cases hb; done)
      rename_i m1 h1 hmh
      split at hb <;> try (cases hb; done)
      rename_i l1 hl1
      split at hb <;> cases hb
      have z1 : m' ≤ n' := Nat.le_of_ble_eq_true (by assumption)
      have z2 : b ≤ m' := Nat.le_of_ble_eq_true (by assumption)
      have z3 : a ≤ b := Nat.le_of_ble_eq_true (by assumption)
      have y1 : Nat.ble k' k' = true := Nat.ble_eq_true_of_le (Nat.le_refl _)
      have y2 : Nat.ble b k' = true := Nat.ble_eq_true_of_le (by omega)
      have y3 : Nat.ble a b = true := Nat.ble_eq_true_of_le z3
      split at hmh <;> cases hmh
      · rename_i e1 e2
        refine ⟨k', ?_, rfl⟩
        simp only [e2, hl1, y1, y2, y3]
      · rename_i e1 e2
        refine ⟨k', ?_, rfl⟩
        simp only [e2, hl1, y1, y2, y3]
      · rename_i e1 e2
        cases e1
    obtain ⟨m2, hb', rfl⟩ := hb'
    have hno : DenO ρ none none := rfl
    obtain ⟨hr, h1, h2, h3⟩ := bnds_run (P := P) (mx := none) hlo hhi hno hb' true w
    have hbn : b ≤ n' := by
      have := (bnds_run (P := P) (mx := none) hlo hhi hno hb true w).2
      omega
    have hrun : (Instr.sliceAt t (.slice (some ⟨bb, m, none⟩) n' m2) lov hiv none).run P w = .ok (.slice (some (if m2 = a then ⟨bb, m, none⟩ else ⟨bb, m + a * te.size, none⟩)) (b - a) (m2 - a)) w := by
      simp only [Instr.sliceAt, Instr.slice, Sem.run_bind, run_underlying hu, Result.andThen_ok, Sem.run_pure, hr, run_sizeOf' hte, Option.map_some, add_mk]
      split <;> rfl
    split at h
    · rename_i ha
      have ha := Nat.eq_of_beq_eq_true ha; subst ha
      cases h
      refine Good.value d hrun ?_
      have e : (if m2 = 0 then (⟨bb, m, none⟩ : Addr) else ⟨bb, m + 0 * te.size, none⟩) = ⟨bb, m, none⟩ := by split <;> simp
      rw [e]
      simp only [SV.Den, SN.Den]
      exact ⟨bb, m, _, _, hbb, hm, rfl, hk', by omega, rfl⟩
    · split at h <;> cases h
      · rename_i hlt
        have hlt : a < n' := Nat.le_of_ble_eq_true hlt
        refine Good.value d hrun ?_
        rw [if_neg (by omega)]
        simp only [SV.Den, SN.Den]
        exact ⟨bb, _, _, _, hbb, offAdd_den _ hm, rfl, ⟨m2, hk', by omega, rfl⟩, by omega, rfl⟩
      · refine Good.value d hrun ?_
        simp only [SV.Den, SN.Den]
        split
        · exact ⟨bb, m, b - a, m2 - a, hbb, trivial, rfl, ⟨m2, hk', by omega, rfl⟩, by omega, rfl⟩
        · exact ⟨bb, m + a * te.size, b - a, m2 - a, hbb, trivial, rfl, ⟨m2, hk', by omega, rfl⟩, by omega, rfl⟩
  · rename_i elem hdesc
    split at h <;> try cases h
    rename_i te a b c hte hb
    rw [hdesc] at hu
    simp only [SV.Den] at hx; subst hx
    obtain ⟨hr, h1, h2, h3⟩ := bnds_run (P := P) hlo hhi hmx hb true w
    refine Good.value d (val := .slice none 0 0) ?_ (by simp [SV.Den])
    simp only [Instr.sliceAt, Instr.slice, Sem.run_bind, run_underlying hu, Result.andThen_ok, Sem.run_pure, hr, run_sizeOf' hte, Option.map_none]
    have e1 : b - a = 0 := by omega
    have e2 : c - a = 0 := by omega
    rw [e1, e2]
    split <;> rfl
def sMakeSlice (P : Program) (id : Nat) (t : TypeId) (l c : SV) : R :=
  match l, c with
  | .int _ (.lit (.ofNat len)), .int _ (.lit (.ofNat cap)) => match tyOf P t with
    | none => none
    | some ti => match ti.desc with
      | .slice elem => match tyOf P elem with
        | none => none
        | some te => match te.zero with
          | none => none
          | some z => match Nat.beq z.cells.length te.size, Nat.ble len cap, Nat.ble (te.bytes * cap) 281474976710656, Nat.ble cap 1099511627776 with
            | true, true, true, true => some (.sl id (.lit 0) (.lit len) (.lit cap), [.ins id (.cells (rep cap z.cells) elem)], [])
            | _, _, _, _ => none
      | _ => none
  | _, _ => none
theorem wrap_small [Val] {n : Nat} (h : n ≤ 1099511627776) : IntKind.i64.wrap (n : Int) = n := by
  simp only [IntKind.wrap, IntKind.bits, IntKind.signed]
  have e : (n : Int) % (2 ^ 64 : Int) = n := Int.emod_eq_of_lt (by omega) (by omega)
  simp only [e]
  rw [if_neg]
  simp
  omega
theorem sMakeSlice_ok [Val] {t : TypeId} {l c : SV} {lv cv : Value} (d : DenH ρ X w0 look fresh w) (hid : fresh id) (hl : l.Den ρ lv) (hc : c.Den ρ cv) (h : sMakeSlice P id t l c = some r) : Good P ρ X w0 look fresh id r (do pure (.value (← Instr.makeSlice t lv cv))) w := by
  unfold sMakeSlice at h
  split at h <;> try cases h
  rename_i k1 len k2 cap
  simp only [SV.Den, SI.lit_v] at hl hc; subst hl hc
  split at h <;> try cases h
  rename_i ti hti
  obtain ⟨_, _, hu, _, _, _⟩ := tyOf_spec hti
  split at h <;> try cases h
  rename_i elem hdesc
  split at h <;> try cases h
  rename_i te hte
  obtain ⟨j, hj, _, hsj, hbj, hz⟩ := tyOf_spec hte
  split at h <;> try cases h
  rename_i s hs
  obtain ⟨z, hz1, hz2⟩ := hz s hs
  have hcd : SV.DenL ρ s.cells z.cells.toList := cells_den hz2
  split at h <;> cases h
  rename_i q1 q2 q3 q4
  have q1 := Nat.eq_of_beq_eq_true q1
  have q2 := Nat.le_of_ble_eq_true q2
  have q3 := Nat.le_of_ble_eq_true q3
  have q4 := Nat.le_of_ble_eq_true q4
  have hcl := denL_length hcd
  have hzs : z.cells.size = te.size := by simp at hcl; omega
  have hrep := rep_den hcd cap
  rw [hdesc] at hu
  have hrun : (Instr.makeSlice t (.int k1 (Int.ofNat len)) (.int k2 (Int.ofNat cap))).run P w = .ok (.slice (some ⟨w.heap.size, 0, none⟩) len cap) (w.alloc (.cells ((Array.range (cap * z.cells.size)).map (z.cells[· % z.cells.size]!)) elem)) := by
    have hb3 : (j.bytes : Int) * (cap : Int) ≤ 281474976710656 := by
      rw [hbj, ← Int.natCast_mul]
      exact Int.ofNat_le.2 q3
    have := run_make w t elem j z hu hj hz1 k1 k2 (len : Int) (cap : Int) (Int.natCast_nonneg _) (Int.ofNat_le.2 q2) hb3 (by omega)
    show (Instr.makeSlice t (.int k1 (len : Int)) (.int k2 (cap : Int))).run P w = _
    rw [this, hsj]
    simp [madeCells, hzs]
  have hden : ObjDen ρ (.cells (rep cap s.cells) elem) (.cells ((Array.range (cap * z.cells.size)).map (z.cells[· % z.cells.size]!)) elem) := ⟨_, hrep, by simp only [Array.toArray_toList]⟩
  refine Good.new d hid rfl hrun hden ?_
  simp only [SV.Den, SN.Den]
  exact ⟨_, 0, len, cap, Env.put_same _ _ _, rfl, rfl, rfl, q2, rfl⟩

theorem getMap [Val] {b clock : Nat} {es : Array MapEntry} (h : w.heap[b]? = some (.map es clock)) : (getObj b).run P w = .ok (.map es clock) w := by simp [getObj, Sem.run, h]
theorem setMap [Val] {b clock : Nat} {es : Array MapEntry} (o : Obj) (h : w.heap[b]? = some (.map es clock)) : (setObj b o).run P w = .ok () (w.putObj b o) := by simp [setObj, Sem.run, h, World.putObj]
def sMakeMap (P : Program) (id : Nat) (t : TypeId) (hint : Option SV) : R :=
  match hint with
  | none => some (.map id, [.ins id (.smap [] 0)], [])
  | some (.int _ _) => match tyOf P t with
    | some ti => match ti.desc with
      | .map _ _ => some (.map id, [.ins id (.smap [] 0)], [])
      | _ => none
    | none => none
  | _ => none
theorem sMakeMap_ok [Val] {t : TypeId} {hint : Option SV} {hv : Option Value} (d : DenH ρ X w0 look fresh w) (hid : fresh id) (hh : DenO ρ hint hv) (h : sMakeMap P id t hint = some r) : Good P ρ X w0 look fresh id r (do pure (.value (← Instr.makeMap t hv))) w := by
  have hden : ObjDen ρ (.smap [] 0) (.map #[] 0) := ⟨[], rfl, rfl⟩
  have hval : (SV.map id).Den (ρ.put id w.heap.size) (.map (some w.heap.size)) := by simp only [SV.Den]; exact ⟨_, Env.put_same _ _ _, rfl⟩
  unfold sMakeMap at h
  split at h
  · cases h
    obtain rfl : hv = none := hh
    exact Good.new d hid rfl (by simp [Instr.makeMap]) hden hval
  · rename_i k n
    split at h <;> try cases h
    rename_i ti hti
    obtain ⟨_, _, hu, _, _, _⟩ := tyOf_spec hti
    split at h <;> try cases h
    rename_i a b hdesc
    rw [hdesc] at hu
    obtain ⟨x, rfl, hx⟩ := hh
    simp only [SV.Den] at hx; subst hx
    exact Good.new d hid rfl (by simp [Instr.makeMap, run_underlying hu, asInt, asIntOf]) hden hval
  · cases h
def findE (k : IntKind) (x : Int) : List (SV × SV × Nat) → Option (Option (SV × Nat))
  | [] => some none
  | (.int k' (.lit a), v, born) :: es => match decide (k' = k) with
    | false => none
    | true => match decide (a = x) with
      | true => some (some (v, born))
      | false => findE k x es
  | _ => none
def modE (x : Int) (v : SV) : List (SV × SV × Nat) → List (SV × SV × Nat)
  | [] => []
  | (.int k (.lit a), u, born) :: es => match decide (a = x) with
    | true => (.int k (.lit a), v, born) :: es
    | false => (.int k (.lit a), u, born) :: modE x v es
  | e :: es => e :: modE x v es
theorem denEs_append [Val] : ∀ {l l' : List (SV × SV × Nat)} {es es' : List MapEntry}, DenEs ρ l es → DenEs ρ l' es' → DenEs ρ (l ++ l') (es ++ es')
  | [], _, _, _, h, h' => by simp only [DenEs] at h; subst h; simpa using h'
  | (k, v, n) :: l, _, _, _, h, h' => by
    obtain ⟨x, y, es1, rfl, h1, h2, h3⟩ := h
    exact ⟨x, y, _, rfl, h1, h2, denEs_append h3 h'⟩
theorem denEs_length [Val] : ∀ {l : List (SV × SV × Nat)} {es : List MapEntry}, DenEs ρ l es → es.length = l.length
  | [], _, h => by simp only [DenEs] at h; subst h; rfl
  | (_, _, _) :: l, _, h => by
    obtain ⟨x, y, es1, rfl, h1, h2, h3⟩ := h
    simp [denEs_length h3]
theorem findE_ok [Val] {k k0 : IntKind} {x : Int} : ∀ {l : List (SV × SV × Nat)} {es : List MapEntry} {q : Option (SV × Nat)} (i : Nat), findE k x l = some q → DenEs ρ l es →
    match q with
    | none => Instr.findNow (.int k0) (.int k x) es i = some none
    | some (v, born) => ∃ j e, Instr.findNow (.int k0) (.int k x) es i = some (some (i + j, e.val)) ∧ es[j]? = some e ∧ e.key = .int k x ∧ v.Den ρ e.val ∧ e.born = born ∧
        ∀ (s : SV) (u : Value), s.Den ρ u → DenEs ρ (modE x s l) (es.modify j fun e => { e with val := u })
  | [], _, q, i, h, hd => by
    simp only [findE, Option.some.injEq] at h; subst h
    simp only [DenEs] at hd; subst hd
    rfl
  | (key, v, born) :: l, _, q, i, h, hd => by
    obtain ⟨xk, y, es1, rfl, h1, h2, h3⟩ := hd
    unfold findE at h
    split at h
    · rename_i heq; cases heq
    · rename_i k' a v' born' l' heq
      injection heq with e1 e2
      injection e1 with e1 e3
      injection e3 with e3 e4
      subst e1 e2 e3 e4
      simp only [SV.Den, SI.lit_v] at h1; subst h1
      split at h <;> try cases h
      rename_i hk
      have hk := of_decide_eq_true hk; subst hk
      split at h
      · rename_i ha
        have ha := of_decide_eq_true ha; subst ha
        injection h with h; subst h
        refine ⟨0, _, by simp [Instr.findNow, Instr.sameNow], rfl, rfl, h2, rfl, fun s u hs => ?_⟩
        simp only [modE, decide_true]
        exact ⟨_, u, es1, rfl, by simp [SV.Den], hs, h3⟩
      · rename_i ha
        have ha := of_decide_eq_false ha
        have hne : ¬ x = a := fun e => ha e.symm
        have ih := findE_ok (k0 := k0) (i + 1) h h3
        have e0 : Instr.findNow (.int k0) (.int k' x) ({ key := .int k' a, val := y, born := born } :: es1) i = Instr.findNow (.int k0) (.int k' x) es1 (i + 1) := by
          have hb : (x == a) = false := by simpa using hne
          simp [Instr.findNow, Instr.sameNow, hb]
        cases q with
        | none => rw [e0]; exact ih
        | some p =>
          obtain ⟨pv, pb⟩ := p
          obtain ⟨j, e, f1, f2, f3, f4, f5, f6⟩ := ih
          refine ⟨j + 1, e, by rw [e0, f1]; congr 3; omega, by simpa using f2, f3, f4, f5, fun s u hs => ?_⟩
          simp only [modE, ha, decide_false]
          exact ⟨.int k' a, y, es1.modify j fun e => { e with val := u }, by simp, by simp [SV.Den], h2, f6 s u hs⟩
    · cases h
def sLookup (P : Program) (look : Look) (t : TypeId) (m k : SV) (ok : Bool) : R :=
  match k with
  | .int kk (.lit x) => match tyOf P t with
    | none => none
    | some ti => match ti.desc with
      | .map kt et => match tyOf P kt, tyOf P et with
        | some tk, some te => match tk.desc, te.zero with
          | .int _, some z =>
            match m with
            | .nilm => match ok with
              | true => some (.tup [z, .bool (.lit false)], [], [])
              | false => some (z, [], [])
            | .map h => match look h with
              | some (.smap es _) => match findE kk x es with
                | some (some (v, _)) => match ok with
                  | true => some (.tup [v, .bool (.lit true)], [], [h])
                  | false => some (v, [], [h])
                | some none => match ok with
                  | true => some (.tup [z, .bool (.lit false)], [], [h])
                  | false => some (z, [], [h])
                | none => none
              | _ => none
            | _ => none
          | _, _ => none
        | _, _ => none
      | _ => none
  | _ => none
theorem run_checkKey_int [Val] {t : TypeId} {k0 k : IntKind} {x : Int} (hu : P.underlying t = some (.int k0)) (e : Bool) (n : Nat) (w : World) : (Instr.checkKey e (n + 1) t (.int k x)).run P w = .ok () w := by
  simp [Instr.checkKey, run_underlying hu]
theorem tup2_den [Val] {a b : Value} {s u : SV} (ha : s.Den ρ a) (hb : u.Den ρ b) : (SV.tup [s, u]).Den ρ (.tuple #[a, b]) := by
  simp only [SV.Den]
  exact ⟨[a, b], denL_cons'.2 ⟨ha, denL_cons'.2 ⟨hb, by simp⟩⟩, by simp⟩
theorem sLookup_ok [Val] {t : TypeId} {m k : SV} {mv kv : Value} {ok : Bool} (d : DenH ρ X w0 look fresh w) (hm : m.Den ρ mv) (hk : k.Den ρ kv) (h : sLookup P look t m k ok = some r) : Good P ρ X w0 look fresh id r (do pure (.value (← Instr.lookup t mv kv ok))) w := by
  unfold sLookup at h
  split at h <;> try cases h
  rename_i kk x
  simp only [SV.Den, SI.lit_v] at hk; subst hk
  split at h <;> try cases h
  rename_i ti hti
  obtain ⟨_, _, hu, _, _, _⟩ := tyOf_spec hti
  split at h <;> try cases h
  rename_i kt et hdesc
  rw [hdesc] at hu
  split at h <;> try cases h
  rename_i tk te htk hte
  obtain ⟨_, _, huk, _, _, _⟩ := tyOf_spec htk
  obtain ⟨j, hj, _, _, _, hz⟩ := tyOf_spec hte
  split at h <;> try cases h
  rename_i k0 z hk0 hz0
  rw [hk0] at huk
  obtain ⟨zv, hz1, hz2⟩ := hz z hz0
  have hzd := ofVal_den (ρ := ρ) hz2
  split at h <;> try cases h
  · simp only [SV.Den] at hm; subst hm
    have e : (Instr.lookup t (.map none) (.int kk x) ok).run P w = .ok (if ok then .tuple #[zv, .bool false] else zv) w := by
      simp [Instr.lookup, run_underlying hu, run_checkKey_int huk, Instr.findKey, run_underlying huk, Instr.findNow, zeroValue, typeInfo, hj, hz1]
    split at h <;> cases h
    · exact Good.value d e (tup2_den hzd (by simp [SV.Den]))
    · exact Good.value d e hzd
  · rename_i hh
    split at h <;> try cases h
    rename_i es clock hlk
    simp only [SV.Den] at hm
    obtain ⟨b, hb, rfl⟩ := hm
    obtain ⟨b', obj, hb', hobj, hden⟩ := d.at hlk rfl
    obtain rfl : b' = b := by rw [hb] at hb'; injection hb' with e; exact e.symm
    obtain ⟨xs, hxs, rfl⟩ := hden
    split at h <;> try cases h
    · rename_i v born hf
      obtain ⟨jj, e, f1, f2, f3, f4, f5, f6⟩ := findE_ok (k0 := k0) 0 hf hxs
      have e : (Instr.lookup t (.map (some b')) (.int kk x) ok).run P w = .ok (if ok then .tuple #[e.val, .bool true] else e.val) w := by
        simp [Instr.lookup, run_underlying hu, run_checkKey_int huk, Instr.findKey, run_underlying huk, getMap hobj, f1]
      split at h <;> cases h
      · exact Good.value d e (tup2_den f4 (by simp [SV.Den]))
      · exact Good.value d e f4
    · rename_i hf
      have f1 := findE_ok (k0 := k0) 0 hf hxs
      have e : (Instr.lookup t (.map (some b')) (.int kk x) ok).run P w = .ok (if ok then .tuple #[zv, .bool false] else zv) w := by
        simp only at f1
        simp [Instr.lookup, run_underlying hu, run_checkKey_int huk, Instr.findKey, run_underlying huk, getMap hobj, f1, zeroValue, typeInfo, hj, hz1]
      split at h <;> cases h
      · exact Good.value d e (tup2_den hzd (by simp [SV.Den]))
      · exact Good.value d e hzd
end
end Go.Sx
/- The operations on symbolic values: entries of maps, len, cap, append, copy, ranges over strings. -/
namespace Go.Sx
set_option linter.unusedSimpArgs false
set_option linter.unusedVariables false
open Go Go.RowKit Go.Cd Go.Proofs.YtnoiijjkjcklpaaGreat Go.MapKept
section
variable {P : Program} {ρ : Env} {X : Nat → Prop} {w0 w : World} {look : Look} {fresh : Nat → Prop} {id : Nat} {r : SV × List Upd × List Nat}

theorem Good.putv [Val] {h : Nat} {o o' : SObj} {us : List Nat} {sem : Sem Value} {b : Nat} {obj' : Obj} {w' : World} {s : SV} {val : Value} (d : DenH ρ X w0 look fresh w) (hl : look h = some o) (ho : o.isAbs = false) (hb : ρ h = some b) (ho' : o'.isAbs = false)
    (hr : sem.run P w = .ok val w') (hs : s.Den ρ val) (hw : w'.heap[b]? = some obj') (hwo : Only b w w') (hden : ObjDen ρ o' obj') : Good P ρ X w0 look fresh id (s, [.set h o'], us) (do pure (.value (← sem))) w :=
  ⟨_, val, ρ, w', by simp only [Sem.run_bind, hr, Result.andThen_ok, Sem.run_pure], .inl rfl, Env.le_refl _, hs, (d.put hl ho hb ho' hw hwo hden (fun j => rfl)).fresh_mono fun _ h => h.1⟩
def mapOf (P : Program) (t : TypeId) : Option (TypeId × TypeId × SV) :=
  match tyOf P t with
  | none => none
  | some ti => match ti.desc with
    | .map kt et => match tyOf P kt, tyOf P et with
      | some tk, some te => match tk.desc, te.zero with
        | .int _, some z => some (kt, et, z)
        | _, _ => none
      | _, _ => none
    | _ => none
theorem mapOf_spec [Val] {t kt et : TypeId} {z : SV} (h : mapOf P t = some (kt, et, z)) : ∃ k0 j zv, P.underlying t = some (.map kt et) ∧ P.underlying kt = some (.int k0) ∧ P.info? et = some j ∧ j.zero = some zv ∧ ofVal zv = some z := by
  unfold mapOf at h
  split at h <;> try cases h
  rename_i ti hti
  obtain ⟨_, _, hu, _, _, _⟩ := tyOf_spec hti
  split at h <;> try cases h
  rename_i kt' et' hdesc
  rw [hdesc] at hu
  split at h <;> try cases h
  rename_i tk te htk hte
  obtain ⟨_, _, huk, _, _, _⟩ := tyOf_spec htk
  obtain ⟨j, hj, _, _, _, hz⟩ := tyOf_spec hte
  split at h <;> cases h
  obtain ⟨k0, hk0⟩ : ∃ k, tk.desc = .int k := ⟨_, by assumption⟩
  have hz0 : te.zero = some z := by assumption
  rw [hk0] at huk
  obtain ⟨zv, hz1, hz2⟩ := hz z hz0
  exact ⟨k0, j, zv, hu, huk, hj, hz1, hz2⟩
def sMapEntry (P : Program) (look : Look) (t : TypeId) (m k : SV) : R :=
  match k, m with
  | .int kk (.lit x), .map h => match mapOf P t with
    | none => none
    | some (_, _, z) => match look h with
      | some (.smap es clock) => match findE kk x es with
        | some (some (v, born)) => some (.tup [v, .int .i64 (.lit born)], [.set h (.smap es clock)], [h])
        | some none => some (.tup [z, .int .i64 (.lit clock)], [.set h (.smap (es ++ [(.int kk (.lit x), z, clock)]) (clock + 1))], [h])
        | none => none
      | _ => none
  | _, _ => none
theorem modify_same [Val] {l : List MapEntry} {j : Nat} {e : MapEntry} {f : MapEntry → MapEntry} (h : l[j]? = some e) (hf : f e = e) : l.modify j f = l := by
  apply List.ext_getElem?
  intro m
  rw [List.getElem?_modify]
  by_cases hm : j = m
  · subst hm; simp [h, hf]
  · simp [hm]
theorem arr_modify [Val] (l : List MapEntry) (j : Nat) (f : MapEntry → MapEntry) : l.toArray.modify j f = (l.modify j f).toArray := by
  apply Array.ext_getElem?
  intro i
  simp only [Array.getElem?_modify, List.getElem?_toArray, List.getElem?_modify]
  by_cases hi : j = i <;> simp [hi]
theorem sMapEntry_ok [Val] {t : TypeId} {m k : SV} {mv kv : Value} (d : DenH ρ X w0 look fresh w) (hm : m.Den ρ mv) (hk : k.Den ρ kv) (h : sMapEntry P look t m k = some r) : Good P ρ X w0 look fresh id r (do pure (.value (← Instr.mapEntry t mv kv))) w := by
  unfold sMapEntry at h
  split at h <;> try cases h
  rename_i kk x hh
  simp only [SV.Den, SI.lit_v] at hk; subst hk
  split at h <;> try cases h
  rename_i kt et z hmap
  obtain ⟨k0, j, zv, hu, huk, hj, hz1, hz2⟩ := mapOf_spec hmap
  have hzd := ofVal_den (ρ := ρ) hz2
  split at h <;> try cases h
  rename_i es clock hlk
  simp only [SV.Den] at hm
  obtain ⟨b, hb, rfl⟩ := hm
  obtain ⟨b', obj, hb', hobj, hden⟩ := d.at hlk rfl
  obtain rfl : b' = b := by rw [hb] at hb'; injection hb' with e; exact e.symm
  obtain ⟨xs, hxs, rfl⟩ := hden
  have hlt := lt_of_heap hobj
  split at h <;> cases h
  · rename_i v born hf
    obtain ⟨jj, e, f1, f2, f3, f4, f5, f6⟩ := findE_ok (k0 := k0) 0 hf hxs
    have e1 : xs.modify jj (fun e => { e with key := .int kk x }) = xs := modify_same f2 (by cases e; simp at f3; simp [f3])
    have e : (Instr.mapEntry t (.map (some b')) (.int kk x)).run P w = .ok (.tuple #[e.val, .int .i64 born]) (w.putObj b' (.map xs.toArray clock)) := by
      simp [Instr.mapEntry, run_underlying hu, run_checkKey_int huk, Instr.findKey, run_underlying huk, getMap hobj, f1, f2, f3, f5, Instr.keyThatStays, Instr.sameBits, arr_modify, e1, setMap _ hobj, goInt]
    exact Good.putv d hlk rfl hb rfl e (tup2_den f4 (by simp [SV.Den])) (World.putObj_heap_same hlt) (only_putObj _ _ _) ⟨xs, hxs, rfl⟩
  · rename_i hf
    have f1 := findE_ok (k0 := k0) 0 hf hxs
    simp only at f1
    have e : (Instr.mapEntry t (.map (some b')) (.int kk x)).run P w = .ok (.tuple #[zv, .int .i64 clock]) (w.putObj b' (.map (xs.toArray.push { key := .int kk x, val := zv, born := clock }) (clock + 1))) := by
      simp [Instr.mapEntry, run_underlying hu, run_checkKey_int huk, Instr.findKey, run_underlying huk, getMap hobj, f1, zeroValue, typeInfo, hj, hz1, setMap _ hobj, goInt]
    refine Good.putv d hlk rfl hb rfl e (tup2_den hzd (by simp [SV.Den])) (World.putObj_heap_same hlt) (only_putObj _ _ _) ⟨xs ++ [{ key := .int kk x, val := zv, born := clock }], ?_, by simp⟩
    exact denEs_append hxs ⟨_, _, [], rfl, by simp [SV.Den], hzd, rfl⟩
def modB (n : Nat) (v : SV) : List (SV × SV × Nat) → Option (List (SV × SV × Nat))
  | [] => none
  | (k, u, b) :: es => match Nat.beq b n with
    | true => some ((k, v, b) :: es)
    | false => match modB n v es with
      | some r => some ((k, u, b) :: r)
      | none => none
theorem modB_ok [Val] {n : Nat} {v : SV} {x : Value} (hx : v.Den ρ x) : ∀ {l l' : List (SV × SV × Nat)} {es : List MapEntry}, modB n v l = some l' → DenEs ρ l es →
    ∃ i, es.findIdx? (fun e => (e.born : Int) == (n : Int)) = some i ∧ DenEs ρ l' (es.modify i fun e => { e with val := x })
  | [], _, _, h, _ => by simp [modB] at h
  | (k, u, b) :: l, _, _, h, hd => by
    obtain ⟨xk, y, es1, rfl, h1, h2, h3⟩ := hd
    unfold modB at h
    split at h
    · rename_i hb
      have hb := Nat.eq_of_beq_eq_true hb; subst hb
      cases h
      exact ⟨0, by simp [List.findIdx?_cons], xk, x, es1, by simp, h1, hx, h3⟩
    · rename_i hb
      have hb := Nat.ne_of_beq_eq_false hb
      split at h <;> cases h
      rename_i r hr
      obtain ⟨i, e1, e2⟩ := modB_ok hx hr h3
      have hb' : ((b : Int) == (n : Int)) = false := by simp; omega
      exact ⟨i + 1, by rw [List.findIdx?_cons]; simp only [hb', e1]; rfl, xk, y, es1.modify i fun e => { e with val := x }, by simp, h1, h2, e2⟩
def sEntryStore (look : Look) (m s x : SV) : R :=
  match m, s with
  | .map h, .int _ (.lit (.ofNat n)) => match look h with
    | some (.smap es clock) => match modB n x es with
      | some es' => some (.tup [], [.set h (.smap es' clock)], [h])
      | none => none
    | _ => none
  | _, _ => none
theorem sEntryStore_ok [Val] {t : TypeId} {m s x : SV} {mv sv xv : Value} (d : DenH ρ X w0 look fresh w) (hm : m.Den ρ mv) (hs : s.Den ρ sv) (hx : x.Den ρ xv) (h : sEntryStore look m s x = some r) : Good P ρ X w0 look fresh id r (do Instr.entryStore t mv sv xv; pure .skip) w := by
  unfold sEntryStore at h
  split at h <;> try cases h
  rename_i hh k n
  simp only [SV.Den, SI.lit_v] at hs; subst hs
  split at h <;> try cases h
  rename_i es clock hlk
  split at h <;> cases h
  rename_i es' hes
  simp only [SV.Den] at hm
  obtain ⟨b, hb, rfl⟩ := hm
  obtain ⟨b', obj, hb', hobj, hden⟩ := d.at hlk rfl
  obtain rfl : b' = b := by rw [hb] at hb'; injection hb' with e; exact e.symm
  obtain ⟨xs, hxs, rfl⟩ := hden
  have hlt := lt_of_heap hobj
  obtain ⟨i, e1, e2⟩ := modB_ok hx hes hxs
  have e : (Instr.entryStore t (.map (some b')) (.int k (Int.ofNat n)) xv).run P w = .ok () (w.putObj b' (.map (xs.modify i fun e => { e with val := xv }).toArray clock)) := by
    simp only [Instr.entryStore, Sem.run_bind, getMap hobj, Result.andThen_ok, asInt, asIntOf, Sem.run_pure, List.findIdx?_toArray]
    have e1' : xs.findIdx? (fun e => (e.born : Int) == Int.ofNat n) = some i := e1
    rw [e1']
    simp only [arr_modify, setMap _ hobj]
  exact Good.put d hlk rfl hb rfl e (World.putObj_heap_same hlt) (only_putObj _ _ _) ⟨_, e2, rfl⟩
def sMapUpdate (P : Program) (look : Look) (t : TypeId) (m k x : SV) : R :=
  match k, m with
  | .int kk (.lit n), .map h => match mapOf P t with
    | none => none
    | some (_, _, _) => match look h with
      | some (.smap es clock) => match findE kk n es with
        | some (some (_, _)) => some (.tup [], [.set h (.smap (modE n x es) clock)], [h])
        | some none => some (.tup [], [.set h (.smap (es ++ [(.int kk (.lit n), x, clock)]) (clock + 1))], [h])
        | none => none
      | _ => none
  | _, _ => none
theorem sMapUpdate_ok [Val] {t : TypeId} {m k x : SV} {mv kv xv : Value} (d : DenH ρ X w0 look fresh w) (hm : m.Den ρ mv) (hk : k.Den ρ kv) (hx : x.Den ρ xv) (h : sMapUpdate P look t m k x = some r) : Good P ρ X w0 look fresh id r (do Instr.mapUpdate t mv kv xv; pure .skip) w := by
  unfold sMapUpdate at h
  split at h <;> try cases h
  rename_i kk n hh
  simp only [SV.Den, SI.lit_v] at hk; subst hk
  split at h <;> try cases h
  rename_i kt et z hmap
  obtain ⟨k0, j, zv, hu, huk, hj, hz1, hz2⟩ := mapOf_spec hmap
  split at h <;> try cases h
  rename_i es clock hlk
  simp only [SV.Den] at hm
  obtain ⟨b, hb, rfl⟩ := hm
  obtain ⟨b', obj, hb', hobj, hden⟩ := d.at hlk rfl
  obtain rfl : b' = b := by rw [hb] at hb'; injection hb' with e; exact e.symm
  obtain ⟨xs, hxs, rfl⟩ := hden
  have hlt := lt_of_heap hobj
  split at h <;> cases h
  · rename_i v born hf
    obtain ⟨jj, e, f1, f2, f3, f4, f5, f6⟩ := findE_ok (k0 := k0) 0 hf hxs
    have e1 : xs.modify jj (fun e => { e with key := .int kk n, val := xv }) = xs.modify jj (fun e => { e with val := xv }) := by
      apply List.ext_getElem?
      intro m
      rw [List.getElem?_modify, List.getElem?_modify]
      by_cases hm : jj = m
      · subst hm; rw [f2]; simp [f3]
      · simp [hm]
    have e : (Instr.mapUpdate t (.map (some b')) (.int kk n) xv).run P w = .ok () (w.putObj b' (.map (xs.modify jj fun e => { e with val := xv }).toArray clock)) := by
      simp [Instr.mapUpdate, run_underlying hu, run_checkKey_int huk, Instr.findKey, run_underlying huk, getMap hobj, f1, f2, f3, f5, Instr.keyThatStays, Instr.sameBits, arr_modify, e1, setMap _ hobj]
    exact Good.put d hlk rfl hb rfl e (World.putObj_heap_same hlt) (only_putObj _ _ _) ⟨_, f6 _ _ hx, rfl⟩
  · rename_i hf
    have f1 := findE_ok (k0 := k0) 0 hf hxs
    simp only at f1
    have e : (Instr.mapUpdate t (.map (some b')) (.int kk n) xv).run P w = .ok () (w.putObj b' (.map (xs.toArray.push { key := .int kk n, val := xv, born := clock }) (clock + 1))) := by
      simp [Instr.mapUpdate, run_underlying hu, run_checkKey_int huk, Instr.findKey, run_underlying huk, getMap hobj, f1, setMap _ hobj]
    refine Good.put d hlk rfl hb rfl e (World.putObj_heap_same hlt) (only_putObj _ _ _) ⟨xs ++ [{ key := .int kk n, val := xv, born := clock }], ?_, by simp⟩
    exact denEs_append hxs ⟨_, _, [], rfl, by simp [SV.Den], hx, rfl⟩

def SI.mm (c : COp) : SI → SI → SI
  | .lit a, .lit b => .lit (if c.f b a then b else a)
  | a, b => match SI.cmp c b a with
    | .lit t => match t with
      | true => b
      | false => a
    | .sym t => SI.ofTm (mkIte t b.tm a.tm)
theorem SI.mm_v [Val] (c : COp) (a b : SI) : (SI.mm c a b).v = if c.f b.v a.v then b.v else a.v := by
  have key : ∀ a b : SI, (match SI.cmp c b a with
      | .lit t => (match t with
        | true => b
        | false => a)
      | .sym t => SI.ofTm (mkIte t b.tm a.tm)).v = if c.f b.v a.v then b.v else a.v := fun a b => by
    have h := SI.cmp_v c b a
    split
    · rename_i t e
      rw [e, SB.lit_v] at h
      rw [← h]
      cases t <;> rfl
    · rename_i t e
      rw [e, SB.sym_v] at h
      rw [SI.ofTm_v, mkIte_v, h, SI.tm_v, SI.tm_v]
  cases a <;> cases b <;> first | rfl | exact key _ _
def snI : SN → Option SI
  | .lit n => some (.lit n)
  | .sym n => some (.sym n)
  | .env _ => none
  | .sub _ _ => none
def sLen (P : Program) (look : Look) (t : TypeId) (x : SV) : R :=
  match tyOf P t with
  | none => none
  | some ti => match ti.desc, x with
    | .string, .str s => some (.int .i64 (.lit s.size), [], [])
    | .array n _, _ => some (.int .i64 (.lit n), [], [])
    | .slice _, .nils => some (.int .i64 (.lit 0), [], [])
    | .slice _, .sl _ _ l _ => match snI l with
      | some i => some (.int .i64 i, [], [])
      | none => none
    | .slice _, .slp f i => some (.int .i64 (.sym (.fn .i64 (f + 2) (.cons i .nil))), [], [])
    | .map _ _, .nilm => some (.int .i64 (.lit 0), [], [])
    | .map _ _, .map h => match look h with
      | some (.smap es _) => some (.int .i64 (.lit es.length), [], [h])
      | _ => none
    | _, _ => none
theorem sLen_ok [Val] {t ty : TypeId} {x : SV} {xv : Value} (d : DenH ρ X w0 look fresh w) (hx : x.Den ρ xv) (h : sLen P look t x = some r) : Good P ρ X w0 look fresh id r (do pure (.value (← Builtin.len_ #[t] ty #[xv]))) w := by
  unfold sLen at h
  split at h <;> try cases h
  rename_i ti hti
  obtain ⟨_, _, hu, _, _, _⟩ := tyOf_spec hti
  split at h <;> try cases h
  · rename_i s hdesc
    rw [hdesc] at hu
    simp only [SV.Den] at hx; subst hx
    exact Good.value d (val := .int .i64 s.size) (by simp [Builtin.len_, run_underlying hu, goInt]) (by simp [SV.Den])
  · rename_i n e hdesc
    rw [hdesc] at hu
    exact Good.value d (val := .int .i64 n) (by simp [Builtin.len_, run_underlying hu, goInt]) (by simp [SV.Den])
  · rename_i e hdesc
    rw [hdesc] at hu
    simp only [SV.Den] at hx; subst hx
    exact Good.value d (val := .int .i64 0) (by simp [Builtin.len_, run_underlying hu, goInt]) (by simp [SV.Den])
  · rename_i e hh o l c hdesc
    rw [hdesc] at hu
    split at h <;> cases h
    rename_i i hi
    simp only [SV.Den] at hx
    obtain ⟨b, m, n, k, hb, hm, hn, hk, _, rfl⟩ := hx
    refine Good.value d (val := .int .i64 n) (by simp [Builtin.len_, run_underlying hu, goInt]) ?_
    cases l <;> simp only [snI, Option.some.injEq, reduceCtorEq] at hi <;> subst hi <;> simp only [SN.Den] at hn <;> first | (subst hn; simp [SV.Den]; done) | (simp only [SV.Den, SI.sym_v, hn])
  · rename_i e f i hdesc
    rw [hdesc] at hu
    simp only [SV.Den] at hx
    obtain ⟨p, n, k, rfl, hn, _⟩ := hx
    refine Good.value d (val := .int .i64 n) (by simp [Builtin.len_, run_underlying hu, goInt]) ?_
    simp only [SV.Den, SI.sym_v, hn]
  · rename_i e e2 hdesc
    rw [hdesc] at hu
    simp only [SV.Den] at hx; subst hx
    exact Good.value d (val := .int .i64 0) (by simp [Builtin.len_, run_underlying hu, goInt]) (by simp [SV.Den])
  · rename_i e e2 hh hdesc
    rw [hdesc] at hu
    split at h <;> cases h
    rename_i es clock hlk
    simp only [SV.Den] at hx
    obtain ⟨b, hb, rfl⟩ := hx
    obtain ⟨b', obj, hb', hobj, hden⟩ := d.at hlk rfl
    obtain rfl : b' = b := by rw [hb] at hb'; injection hb' with e; exact e.symm
    obtain ⟨xs, hxs, rfl⟩ := hden
    have hl := denEs_length hxs
    exact Good.value d (val := .int .i64 xs.length) (by simp [Builtin.len_, run_underlying hu, goInt, getMap hobj]) (by simp [SV.Den, hl])
def mmGo (mx : Bool) (k : IntKind) : SI → List SV → Option SI
  | a, [] => some a
  | a, .int k' b :: l => match decide (k = k') with
    | true => mmGo mx k (match mx with
      | true => SI.mm .gt a b
      | false => SI.mm .lt a b) l
    | false => none
  | _, _ => none
theorem mmGo_ok [Val] {mx : Bool} {k : IntKind} : ∀ {l : List SV} {a s : SI} {vs : List Value}, mmGo mx k a l = some s → SV.DenL ρ l vs → (vs.foldlM (if mx then Builtin.max2 else Builtin.min2) (Value.int k a.v)).run P w = .ok (.int k s.v) w
  | [], a, s, _, h, hd => by
    simp only [mmGo, Option.some.injEq] at h; subst h
    rw [denL_nil] at hd; subst hd
    simp
  | x :: l, a, s, _, h, hd => by
    obtain ⟨v, vs', rfl, h1, h2⟩ := denL_cons.1 hd
    unfold mmGo at h
    split at h
    · rename_i heq; cases heq
    · rename_i k' b l' heq
      injection heq with e1 e2
      subst e1 e2
      simp only [SV.Den] at h1; subst h1
      split at h <;> try cases h
      rename_i hk
      have hk := of_decide_eq_true hk; subst hk
      rw [List.foldlM_cons]
      have ih := mmGo_ok h h2
      cases mx
      · simp only [Bool.false_eq_true, if_false, Sem.run_bind, Builtin.min2, Sem.run_pure, Result.andThen_ok, SI.mm_v, COp.f, decide_eq_true_eq] at ih ⊢
        exact ih
      · simp only [if_true, Sem.run_bind, Builtin.max2, Sem.run_pure, Result.andThen_ok, SI.mm_v, COp.f, decide_eq_true_eq] at ih ⊢
        exact ih
    · cases h
def sMM (mx : Bool) : List SV → R
  | .int k a :: l => match mmGo mx k a l with
    | some s => some (.int k s, [], [])
    | none => none
  | _ => none
theorem sMM_ok [Val] {mx : Bool} {l : List SV} {vs : Array Value} {ts : Array TypeId} {ty : TypeId} (d : DenH ρ X w0 look fresh w) (hd : SV.DenL ρ l vs.toList) (h : sMM mx l = some r) :
    Good P ρ X w0 look fresh id r (do pure (.value (← (if mx then Builtin.max_ ts ty vs else Builtin.min_ ts ty vs)))) w := by
  unfold sMM at h
  split at h <;> try cases h
  rename_i k a l
  split at h <;> cases h
  rename_i s hs
  obtain ⟨v, vs', e, h1, h2⟩ := denL_cons.1 hd
  simp only [SV.Den] at h1; subst h1
  have := mmGo_ok (P := P) (w := w) hs h2
  refine Good.value d (val := .int k s.v) ?_ (by simp [SV.Den])
  cases mx
  · simp only [Bool.false_eq_true, if_false, Builtin.min_, e] at this ⊢
    exact this
  · simp only [if_true, Builtin.max_, e] at this ⊢
    exact this
end
end Go.Sx
