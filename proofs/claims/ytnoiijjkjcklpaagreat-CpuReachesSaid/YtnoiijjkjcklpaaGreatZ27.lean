/- Parts of the proof: SxPg4, SxPg5, SxPg6, SxPg7. -/
import Derived.Test.YtnoiijjkjcklpaaGreatZ26
import Derived.Test.YtnoiijjkjcklpaaGreatZ24
/- Bytes of pages in blocks of their own; pages into maps. -/
namespace Go.Proofs.YtnoiijjkjcklpaaGreat
open Go Go.Sx Go.RowKit Go.Cd Go.MapKept
set_option linter.unusedSimpArgs false
set_option linter.unusedVariables false
section
variable [Val] {ρ : Env} {e : Operand → Value} {op : Oper} {c : Call} {t u : TypeId} {s x : SV}
theorem ex_append (ho : op.op = .call c) (hc : c.callee = .builtin .append) (ht : c.argTypes.toList = [t, u]) (hxs : SV.DenL ρ [s, x] ((Op.call c).operands.toList.map e)) :
    ∃ v1 v2, s.Den ρ v1 ∧ x.Den ρ v2 ∧ execOp e op = (do pure (.value (← Builtin.append_ #[t, u] op.type #[v1, v2]))) := by
  obtain ⟨dst, op', ty, pos, after, guard⟩ := op
  dsimp only at ho; subst ho
  obtain ⟨callee, cargs, ctys⟩ := c
  dsimp only at hc; subst hc
  have hct : ctys = #[t, u] := by rw [← Array.toArray_toList (xs := ctys), show ctys.toList = [t, u] from ht]
  subst hct
  rw [show (Op.call ⟨.builtin .append, cargs, #[t, u]⟩).operands.toList = cargs.toList by simp [Op.operands, Call.operands]] at hxs
  obtain ⟨v1, _, e1, h1, r1⟩ := denL_cons.1 hxs
  obtain ⟨v2, _, e2, h2, r2⟩ := denL_cons.1 r1
  rw [denL_nil] at r2
  subst e2 r2
  have hargs : cargs.map e = #[v1, v2] := by apply Array.ext'; simpa using e1
  refine ⟨v1, v2, h1, h2, ?_⟩
  rw [← hargs]; rfl
theorem ex_copy (ho : op.op = .call c) (hc : c.callee = .builtin .copy) (ht : c.argTypes.toList = [t, u]) (hxs : SV.DenL ρ [s, x] ((Op.call c).operands.toList.map e)) :
    ∃ v1 v2, s.Den ρ v1 ∧ x.Den ρ v2 ∧ execOp e op = (do pure (.value (← Builtin.copy_ #[t, u] op.type #[v1, v2]))) := by
  obtain ⟨dst, op', ty, pos, after, guard⟩ := op
  dsimp only at ho; subst ho
  obtain ⟨callee, cargs, ctys⟩ := c
  dsimp only at hc; subst hc
  have hct : ctys = #[t, u] := by rw [← Array.toArray_toList (xs := ctys), show ctys.toList = [t, u] from ht]
  subst hct
  rw [show (Op.call ⟨.builtin .copy, cargs, #[t, u]⟩).operands.toList = cargs.toList by simp [Op.operands, Call.operands]] at hxs
  obtain ⟨v1, _, e1, h1, r1⟩ := denL_cons.1 hxs
  obtain ⟨v2, _, e2, h2, r2⟩ := denL_cons.1 r1
  rw [denL_nil] at r2
  subst e2 r2
  have hargs : cargs.map e = #[v1, v2] := by apply Array.ext'; simpa using e1
  refine ⟨v1, v2, h1, h2, ?_⟩
  rw [← hargs]; rfl
end
def inBl (i : Tm) : Tm := .fn .i64 92 (.cons i .nil)
def byNewAx (P : Program) (hl hp : Nat) : Ax := fun look id o xs => match o, xs with
  | .call c, some [.sl _ _ (.lit 0) (.lit 0), .slp 90 i] => match c.callee, c.argTypes.toList with
    | .builtin .append, [t, u] => match look hl, isBytes P t, notInt P u with
      | some (.abs 1090 _ _), some _, true => some (needC (leC (.lit 0) (SI.ofTm i)) (needC (inLt i) (needC (SI.cmp .eq (.sym (inBl i)) (.lit 256))
          (.val (.sl id (.lit 0) (.lit 256) (.env (id + 1))) [.ins id (.abs 62 (.cons (.fn .i64 71 (.cons i .nil)) .nil) [])] []))))
      | _, _, _ => none
    | _, _ => none
  | .call c, some [.sl _ _ (.lit 0) (.lit 0), .sl j (.lit 1) (.lit 256) _] => match c.callee, c.argTypes.toList with
    | .builtin .append, [t, u] => match look hp, isBytes P t, notInt P u with
      | some (.abs 1050 args refs), some _, true => match keyAt args refs j with
        | some q => some (.val (.sl id (.lit 0) (.lit 256) (.env (id + 1))) [.ins id (.abs 62 (.cons q .nil) [])] [])
        | none => none
      | _, _, _ => none
    | _, _ => none
  | _, _ => none
theorem byNewAx_safe (P : Program) (hl hp : Nat) : AxSafe (byNewAx P hl hp) := fun look id o => by cases o <;> rfl
section
variable {m : MM} {E : PgEnv} {ints : Nat → Int} {bools : Nat → Bool}
theorem bytes_new [Val] {P : Program} {ρ : Env} {X : Nat → Prop} {w0 w : World} {look : Look} {fresh : Nat → Prop} {id : Nat} {t u ty : TypeId} {el : TypeId} {te : TyI} (d : DenH ρ X w0 look fresh w) (hid : fresh id) (hid1 : fresh (id + 1))
    (hby : isBytes P t = some (el, te)) (hni : notInt P u = true) {base : Option Addr} {xv : Value} {g : Nat → Int} (hl : (Builtin.lenOf xv).run P w = .ok 256 w)
    (hf : ∀ dr, (Builtin.firstCells 1 256 xv).run P { w with drawn := dr } = .ok ((List.range 256).map fun j : Nat => Value.int .u8 (g j)).toArray { w with drawn := dr }) {q : Tm}
    (hO : ∀ ρ' b F w', (∀ x, F x ↔ x = b) → (∃ ps : Array Value, w'.heap[b]? = some (.cells ps byteT) ∧ ∀ j : Nat, j < 256 → ps[j]? = some (.int .u8 (g j))) → OD ρ' (.abs 62 (.cons q .nil) []) b F w') :
    Go.Sx.Good P ρ X w0 look fresh id (.sl id (.lit 0) (.lit 256) (.env (id + 1)), [.ins id (.abs 62 (.cons q .nil) [])], []) (do pure (.value (← Builtin.append_ #[t, u] ty #[.slice base 0 0, xv]))) w := by
  obtain ⟨u1, u2, u3, u4, u5⟩ := isBytes_ok hby
  obtain ⟨zi, z1, z2, z3⟩ := isBytes_zero hby
  have hni := notInt_run hni
  let vs : List Value := (List.range 256).map fun j : Nat => Value.int .u8 (g j)
  have hvl : vs.length = 256 := by simp [vs]
  have hr := run_app_new (P := P) (w := w) (ty := ty) u1 hni u2 z1 z2 z3 base 0 0 256 xv [] vs hl (by rw [u3]; exact hf (w.drawn + 1)) (by
    cases base with
    | none => simp [Builtin.firstCells]
    | some a => exact run_firstCells_some (P := P) _ te.size 0 a 0 0 [] (by simp) fun j v hj => by simp at hj) (by omega) (by rw [u4]; omega) (by omega)
  simp only [Nat.zero_add, List.nil_append] at hr
  have hge := grownCap_ge w 256 0 el
  generalize hκ : grownCap w 256 0 el = κ at hr hge
  have hle : ρ.le ((ρ.put id w.heap.size).put (id + 1) κ) := Env.le_trans (Env.le_put _ (d.newName hid)) (Env.le_put _ (by rw [Env.put_other _ _ (by omega)]; exact d.newName hid1))
  have e1' : ((ρ.put id w.heap.size).put (id + 1) κ) id = some w.heap.size := by rw [Env.put_other _ _ (by omega), Env.put_same]
  have e2' : ((ρ.put id w.heap.size).put (id + 1) κ) (id + 1) = some κ := Env.put_same _ _ _
  refine ⟨.value (.slice (some ⟨w.heap.size, 0, none⟩) 256 κ), .slice (some ⟨w.heap.size, 0, none⟩) 256 κ, _, w.drew.alloc (.cells (vs ++ (Builtin.zeroCells (Value.int .u8 0).cells (κ - 256)).toList).toArray el), by simp only [Sem.run_bind, hr, Result.andThen_ok, Sem.run_pure], .inl rfl, hle, ?_, ?_⟩
  · simp only [SV.Den, SN.Den, SOff.Den]
    exact ⟨w.heap.size, 0, 256, κ, e1', rfl, rfl, e2', hge, rfl⟩
  · refine DenH.allocA (w := w.drew) (d.drawn _) hle hid e1' ?_ (fun j => rfl) fun j hj => ?_
    · refine hO _ _ _ _ (fun x => Iff.rfl) ⟨_, by rw [← isBytes_el hby]; exact World.alloc_heap_new w.drew _, fun j hj => ?_⟩
      rw [List.getElem?_toArray, List.getElem?_append_left (by omega)]
      simp only [vs, List.getElem?_map, List.getElem?_range hj, Option.map_some]
    · rw [Env.put_other _ _ hj.2.2, Env.put_other _ _ hj.2.1]; exact d.newName hj.1
theorem by_od {q : Tm} (ρ' : Env) (b : Nat) (F : Nat → Prop) (w' : World) : letI := pgVal m E ints bools; (∀ x, F x ↔ x = b) → (∃ ps : Array Value, w'.heap[b]? = some (.cells ps byteT) ∧ ∀ j : Nat, j < 256 → ps[j]? = some (.int .u8 (m.bt q.v j))) → OD ρ' (.abs 62 (.cons q .nil) []) b F w' := by
  letI := pgVal m E ints bools
  rintro h1 ⟨ps, h2, h3⟩
  exact ⟨[], rfl, h1, _, h2, ps, rfl, h3⟩
theorem in_bytes {w : World} (hp : PgsOf m E.L) (hE : ∀ x ∈ E.L, x.Ok w) {q : Nat} (hq : q < E.L.length) (P : Program) (dr : Nat) :
    (Builtin.firstCells 1 256 (.slice (E.at' q).p 256 (E.at' q).cap)).run P { w with drawn := dr } = .ok ((List.range 256).map fun j : Nat => Value.int .u8 (m.bt (m.num q) j)).toArray { w with drawn := dr } := by
  letI := pgVal m E (fun _ => 0) (fun _ => false)
  have hat := at_get (E := E) (i := (q : Int)) rfl hq
  have hok := hE _ (List.mem_of_getElem? hat)
  obtain ⟨g1, g2, g3, g4⟩ := hp.at' q _ hat
  rcases hok.bytes with h | ⟨b, off, h1, h2, h3⟩
  · rw [h] at g3; simp at g3
  · rw [h1]
    refine run_firstCells_some (P := P) _ 1 256 ⟨b, off, none⟩ 256 _ _ (by simp) fun j v hj => ?_
    have hjn : j < 256 := by
      have := (List.getElem?_eq_some_iff.1 hj).1
      simpa using this
    have hv : v = .int .u8 (m.bt (m.num q) j) := by
      simp only [List.getElem?_map, List.getElem?_range hjn, Option.map_some, Option.some.injEq] at hj
      exact hj.symm
    rw [add_mk, hv, ← g4 j hjn]
    exact (h3 j (by omega)).1
theorem byNewAx_ok (hm : m.Ok) (hpg : PgsOf m E.L) (hL : E.L.length ≤ 9223372036854775807) (P : Program) (hl hp : Nat) : letI := pgVal m E ints bools; AxOk P (byNewAx P hl hp) := by
  letI := pgVal m E ints bools
  intro look id o xs out h ρ X w0 w fresh e op ho hxs d hid hid1
  have hlen : inLen.v = E.L.length := inLen_v hL
  unfold byNewAx at h
  split at h <;> try (cases h; done)
  · rename_i c _ _ i heq
    cases heq
    split at h <;> try (cases h; done)
    rename_i t u hcal htys
    split at h <;> cases h
    rename_i a1 r1 p hlk hby hni
    obtain ⟨el, te⟩ := p
    obtain ⟨v1, v2, h1, h2, hex⟩ := ex_append ho hcal htys hxs
    refine needC_ok fun g1 => needC_ok fun g2 => needC_ok fun g3 => ?_
    have g1 := leC_v g1
    have g2 := ltC_v g2
    have g3 := eqC_v g3
    simp only [SI.lit_v, SI.sym_v, SI.ofTm_v, hlen] at g1 g2 g3
    obtain ⟨q, hq⟩ := Int.eq_ofNat_of_zero_le g1
    have hqn : q < E.L.length := by omega
    have d0 := d
    obtain ⟨φ, dd⟩ := d0
    obtain ⟨b, hb, rs, _, f1, f2, f3⟩ := dd.obj _ _ hlk
    have hat := at_get (E := E) (i := (q : Int)) rfl hqn
    have hok := f2 _ (List.mem_of_getElem? hat)
    obtain ⟨g1', _, g256, _⟩ := hpg.at' q _ hat
    simp only [SV.Den, SN.Den] at h1 h2
    obtain ⟨bb, mm, _, _, hbb, hmm, rfl, rfl, _, rfl⟩ := h1
    obtain ⟨p, n, cap, rfl, hn, hpp⟩ := h2
    have hn256 : n = 256 := by
      have : inBl i = Tm.fn .i64 (90 + 2) (.cons i .nil) := rfl
      rw [this, hn] at g3; omega
    subst hn256
    have hpe : p = (E.at' q).p := by
      rcases hpp with h | h
      · omega
      · rcases hok.bytes with h0 | ⟨b3, off3, y1, y2, y3⟩
        · rw [h0] at g256; simp at g256
        · rw [h, y1]
          show some (⟨(((E.at' i.v).blk : Nat) : Int).toNat, (((E.at' i.v).ofs : Nat) : Int).toNat, none⟩ : Addr) = _
          rw [hq, Int.toNat_natCast, Int.toNat_natCast]
          unfold PgIn.blk PgIn.ofs
          rw [y1]
    rw [hex]
    refine bytes_new d hid hid1 hby hni (g := fun j : Nat => m.bt (m.num q) j) (by simp [Builtin.lenOf]) (fun dr => ?_) fun ρ' b F w' a1 a2 => by_od ρ' b F w' a1 ?_
    · have := in_bytes hpg f2 hqn P dr
      rw [hpe]
      have e3 : ∀ k k', (Builtin.firstCells 1 256 (.slice (E.at' q).p 256 k)).run P { w with drawn := dr } = (Builtin.firstCells 1 256 (.slice (E.at' q).p 256 k')).run P { w with drawn := dr } := fun k k' => by
        cases (E.at' q).p <;> rfl
      rw [e3 cap (E.at' q).cap]; exact this
    · have hv : (Tm.fn .i64 71 (.cons i .nil)).v = m.num q := by
        show IntKind.i64.wrap (m.num i.v) = _
        rw [hq]
        have hlk : m.keys.length = E.L.length := hpg.len.symm
        have := hm.num _ (num_mem (m := m) (i := q) (by omega))
        exact wrap_i64_small (by omega) (by omega)
      rw [hv]; exact a2
  · rename_i c _ _ j cc heq
    cases heq
    split at h <;> try (cases h; done)
    rename_i t u hcal htys
    split at h <;> try (cases h; done)
    rename_i args refs p hlk hby hni
    split at h <;> cases h
    rename_i q hk
    obtain ⟨el, te⟩ := p
    obtain ⟨v1, v2, h1, h2, hex⟩ := ex_append ho hcal htys hxs
    have d0 := d
    obtain ⟨φ, dd⟩ := d0
    obtain ⟨b, hb, rs, hrs, hPP⟩ := dd.obj _ _ hlk
    have hPP : PMapP m args.v rs b (φ hp) w := hPP
    obtain ⟨es, clock, pb, p1, p2, p3, p4, p5, p6, p7, p8⟩ := hPP
    obtain ⟨i, cb, c1, c2, c3⟩ := keyAt_ok hk hrs
    obtain ⟨hd, rfl⟩ := p8 i q.v cb c1 c2
    obtain ⟨cs, T, y1, y2, y3, y4⟩ := p4 _ hd
    simp only [SV.Den, SN.Den, SOff.Den] at h1 h2
    obtain ⟨bb, mm, _, _, hbb, hmm, rfl, rfl, _, rfl⟩ := h1
    obtain ⟨b2, _, _, cap, hb2, rfl, rfl, hcap, _, rfl⟩ := h2
    obtain rfl : b2 = pb q.v := by rw [c3] at hb2; injection hb2 with z; exact z.symm
    rw [hex]
    refine bytes_new d hid hid1 hby hni (g := fun j : Nat => m.bt q.v j) (by simp [Builtin.lenOf]) (fun dr => ?_) fun ρ' b F w' a1 a2 => by_od ρ' b F w' a1 a2
    refine run_firstCells_some (P := P) _ 1 256 ⟨pb q.v, 1, none⟩ 256 _ _ (by simp) fun j v hj => ?_
    have hjn : j < 256 := by
      have := (List.getElem?_eq_some_iff.1 hj).1
      simpa using this
    have hv : v = .int .u8 (m.bt q.v j) := by
      simp only [List.getElem?_map, List.getElem?_range hjn, Option.map_some, Option.some.injEq] at hj
      exact hj.symm
    rw [add_mk, hv]
    exact cell_of_heap (w := { w with drawn := dr }) y1 (by rw [List.getElem?_toArray]; exact y4 j hjn)
end
end Go.Proofs.YtnoiijjkjcklpaaGreat
/- A page that came in copied into a page of the program's; pages put into the maps of a memory. -/
namespace Go.Proofs.YtnoiijjkjcklpaaGreat
open Go Go.Sx Go.RowKit Go.Cd Go.MapKept
set_option linter.unusedSimpArgs false
set_option linter.unusedVariables false
def pgBs (n : Tm) (j : Nat) : Nat → List SV
  | 0 => []
  | k + 1 => .int .u8 (.sym (.fn .u8 52 (.cons n (.cons (.lit j) .nil)))) :: pgBs n (j + 1) k
def isPgBs (n : Tm) : Nat → List SV → Nat → Bool
  | _, [], 0 => true
  | j, .int .u8 (.sym t) :: l, k + 1 => match Tm.same t (.fn .u8 52 (.cons n (.cons (.lit j) .nil))) with
    | true => isPgBs n (j + 1) l k
    | false => false
  | _, _, _ => false
theorem isPgBs_ok {n : Tm} : ∀ {k j : Nat} {l : List SV}, isPgBs n j l k = true → l = pgBs n j k
  | 0, j, l, h => by
    cases l with
    | nil => rfl
    | cons a l => simp [isPgBs] at h
  | k + 1, j, l, h => by
    unfold isPgBs at h
    split at h <;> try (cases h; done)
    · rename_i h2; exact absurd h2 (by omega)
    · rename_i j' t l' k' h1
      split at h <;> try (cases h; done)
      rename_i ht
      cases h1
      rw [Tm.same_eq ht, isPgBs_ok h]; rfl
def isPage (l : List SV) : Option Tm := match l with
  | .int .i64 (.sym (.fn .i64 51 (.cons n .nil))) :: r => match isPgBs n 0 r 256 with
    | true => some n
    | false => none
  | _ => none
section
variable {m : MM} {E : PgEnv} {ints : Nat → Int} {bools : Nat → Bool}
theorem pgBs_den (hm : m.Ok) {ρ : Env} {n : Tm} : letI := pgVal m E ints bools; ∀ (k j : Nat), SV.DenL ρ (pgBs n j k) ((List.range' j k).map fun i : Nat => Value.int .u8 (m.bt n.v i)) := by
  letI := pgVal m E ints bools
  intro k
  induction k with
  | zero => intro j; simp [pgBs]
  | succ k ih =>
    intro j
    rw [List.range'_succ, List.map_cons]
    refine denL_cons'.2 ⟨?_, ih (j + 1)⟩
    simp only [SV.Den, SI.sym_v]
    show _ = Value.int .u8 (IntKind.u8.wrap (m.bt n.v (j : Int)))
    rw [hm.bt]
theorem denL_uniq [Val] {ρ : Env} {l : List SV} (hs : ∀ s ∈ l, ∀ v v', s.Den ρ v → s.Den ρ v' → v = v') : ∀ {vs vs' : List Value}, SV.DenL ρ l vs → SV.DenL ρ l vs' → vs = vs' := by
  induction l with
  | nil => intro vs vs' h h'; rw [denL_nil] at h h'; rw [h, h']
  | cons s l ih =>
    intro vs vs' h h'
    obtain ⟨v, r, rfl, h1, h2⟩ := denL_cons.1 h
    obtain ⟨v', r', rfl, h1', h2'⟩ := denL_cons.1 h'
    rw [hs s (by simp) v v' h1 h1', ih (fun t ht => hs t (by simp [ht])) h2 h2']
theorem pgBs_int : ∀ (k j : Nat) (n : Tm), ∀ s ∈ pgBs n j k, ∃ a, s = .int .u8 a
  | 0, _, _, s, h => by simp [pgBs] at h
  | k + 1, j, n, s, h => by
    rcases List.mem_cons.1 h with rfl | h
    · exact ⟨_, rfl⟩
    · exact pgBs_int k (j + 1) n s h
theorem isPage_ok (hm : m.Ok) {ρ : Env} {l : List SV} {n : Tm} (h : isPage l = some n) {vs : List Value} : letI := pgVal m E ints bools; SV.DenL ρ l vs → PageAt (m.rt n.v) (m.bt n.v) vs := by
  letI := pgVal m E ints bools
  intro hd
  unfold isPage at h
  split at h <;> try (cases h; done)
  split at h <;> try (cases h; done)
  rename_i n' r hb
  cases h
  have hb := isPgBs_ok hb; subst hb
  obtain ⟨v, r, rfl, h1, h2⟩ := denL_cons.1 hd
  have h2' := pgBs_den (m := m) (E := E) (ints := ints) (bools := bools) hm (ρ := ρ) (n := n) 256 0
  have := denL_uniq (fun s hs v v' h h' => by
    obtain ⟨a, rfl⟩ := pgBs_int _ _ _ s hs
    simp only [SV.Den] at h h'
    rw [h, h']) h2 h2'
  subst this
  simp only [SV.Den, SI.sym_v] at h1
  have h1 : v = .int .i64 (IntKind.i64.wrap (m.rt n.v)) := h1
  rw [hm.rt] at h1
  subst h1
  refine ⟨by simp, rfl, fun j hj => ?_⟩
  rw [Nat.add_comm, List.getElem?_cons_succ, List.getElem?_map, List.getElem?_range' (by omega)]
  simp
def byAx (P : Program) (hl : Nat) : Ax := fun look id o xs => match o, xs with
  | .call c, some [.sl j (.lit o) (.lit 256) _, .slp 90 i] => match c.callee, c.argTypes.toList with
    | .builtin .copy, [t, u] => match look hl, isBytes P t, look j with
      | some (.abs 1090 _ _), some _, some ob => match objOver ob o (pgBs (.fn .i64 71 (.cons i .nil)) 0 256) with
        | some ob' => some (needC (leC (.lit 0) (SI.ofTm i)) (needC (inLt i) (needC (SI.cmp .eq (.sym (inBl i)) (.lit 256)) (.val (.int .i64 (.lit 256)) [.set j ob'] [j]))))
        | none => none
      | _, _, _ => none
    | _, _ => none
  | _, _ => none
theorem byAx_safe (P : Program) (hl : Nat) : AxSafe (byAx P hl) := fun look id o => by cases o <;> rfl
theorem byAx_ok (hm : m.Ok) (hpg : PgsOf m E.L) (hL : E.L.length ≤ 9223372036854775807) (P : Program) (hl : Nat) : letI := pgVal m E ints bools; AxOk P (byAx P hl) := by
  letI := pgVal m E ints bools
  intro look id o xs out h ρ X w0 w fresh e op ho hxs d hid hid1
  have hlen : inLen.v = E.L.length := inLen_v hL
  unfold byAx at h
  split at h <;> try (cases h; done)
  rename_i c j oo cc i heq
  cases heq
  split at h <;> try (cases h; done)
  rename_i t u hcal htys
  split at h <;> try (cases h; done)
  rename_i a1 r1 p ob hlk hby hob
  split at h <;> cases h
  rename_i ob' hov
  obtain ⟨el, te⟩ := p
  obtain ⟨u1, u2, u3, u4, u5⟩ := isBytes_ok hby
  obtain ⟨v1, v2, h1, h2, hex⟩ := ex_copy ho hcal htys hxs
  refine needC_ok fun g1 => needC_ok fun g2 => needC_ok fun g3 => ?_
  have g1 := leC_v g1
  have g2 := ltC_v g2
  have g3 := eqC_v g3
  simp only [SI.lit_v, SI.sym_v, SI.ofTm_v, hlen] at g1 g2 g3
  obtain ⟨q, hq⟩ := Int.eq_ofNat_of_zero_le g1
  have hqn : q < E.L.length := by omega
  have d0 := d
  obtain ⟨φ, dd⟩ := d0
  obtain ⟨b, hb, rs, _, f1, f2, f3⟩ := dd.obj _ _ hlk
  have hat := at_get (E := E) (i := (q : Int)) rfl hqn
  have hok := f2 _ (List.mem_of_getElem? hat)
  obtain ⟨g1', _, g256, _⟩ := hpg.at' q _ hat
  simp only [SV.Den, SN.Den, SOff.Den] at h1 h2
  obtain ⟨bb, mm, _, cap, hbb, rfl, rfl, hcap, hcap2, rfl⟩ := h1
  obtain ⟨p, n, cap', rfl, hn, hpp⟩ := h2
  have hn256 : n = 256 := by
    have : inBl i = Tm.fn .i64 (90 + 2) (.cons i .nil) := rfl
    rw [this, hn] at g3; omega
  subst hn256
  have hpe : p = (E.at' q).p := by
    rcases hpp with h | h
    · omega
    · rcases hok.bytes with h0 | ⟨b3, off3, y1, y2, y3⟩
      · rw [h0] at g256; simp at g256
      · rw [h, y1]
        show some (⟨(((E.at' i.v).blk : Nat) : Int).toNat, (((E.at' i.v).ofs : Nat) : Int).toNat, none⟩ : Addr) = _
        rw [hq, Int.toNat_natCast, Int.toNat_natCast]
        unfold PgIn.blk PgIn.ofs
        rw [y1]
  have hv : (Tm.fn .i64 71 (.cons i .nil)).v = m.num q := by
    show IntKind.i64.wrap (m.num i.v) = _
    rw [hq]
    have hlk : m.keys.length = E.L.length := hpg.len.symm
    have := hm.num _ (num_mem (m := m) (i := q) (by omega))
    exact wrap_i64_small (by omega) (by omega)
  have hvs := pgBs_den (m := m) (E := E) (ints := ints) (bools := bools) hm (ρ := ρ) (n := .fn .i64 71 (.cons i .nil)) 256 0
  rw [hv] at hvs
  obtain ⟨b', obj, hb', hobj, hden⟩ := d.at hob (by cases ob <;> first | rfl | cases hov)
  obtain rfl : b' = bb := by rw [hbb] at hb'; injection hb' with e; exact e.symm
  obtain ⟨a1, a2, cc, T, rfl, hle, hnew⟩ := objOver_den hov hden hvs
  have hone : ∀ v ∈ ((List.range' 0 256).map fun i : Nat => Value.int .u8 (m.bt (m.num q) i)), v.oneCell' = true := fun v hv => by
    obtain ⟨i, _, rfl⟩ := List.mem_map.1 hv; rfl
  have hst := run_storeAt (P := P) hobj hle hone
  have hf0 : (Builtin.firstCells te.size (Nat.min 256 256) (.slice p 256 cap')).run P w = .ok ((List.range' 0 256).map fun i : Nat => Value.int .u8 (m.bt (m.num q) i)).toArray w := by
    have := in_bytes hpg f2 hqn P w.drawn
    rw [hpe, u3, ← List.range_eq_range']
    have e3 : ∀ k k', (Builtin.firstCells 1 256 (.slice (E.at' q).p 256 k)).run P w = (Builtin.firstCells 1 256 (.slice (E.at' q).p 256 k')).run P w := fun k k' => by
      cases (E.at' q).p <;> rfl
    exact (e3 cap' (E.at' q).cap).trans this
  have hlen2 : (Builtin.lenOf (.slice p 256 cap')).run P w = .ok 256 w := by simp [Builtin.lenOf]
  rw [hex]
  refine Good.putv d hob a1 hbb a2 (val := .int .i64 256) ?_ (by simp [SV.Den]) (setCells_at _ _ _ _ hobj) (only_setCells _ _ _ _) hnew
  simp only [Builtin.copy_, List.getElem?_toArray, List.getElem?_cons_zero, List.getElem?_cons_succ, Sem.run_bind, run_underlying u1, Result.andThen_ok, hlen2, run_sizeOf' u2, hf0, hst, Sem.run_pure, goInt]
  rfl
def knAx (P : Program) : Ax := fun look id o xs => match o, xs with
  | .load t _, some [.ptr h (.idx 0 1 65536 i)] => match look h, tyOf P t with
    | some (.abs 1062 _ _), some ti => match ti.desc.isRow with
      | false => some (needC (SI.cmp .lt (SI.ofTm i) (.sym nPgs)) (.val (.int .i64 (.sym (.fn .i64 71 (.cons i .nil)))) [] []))
      | true => none
    | _, _ => none
  | _, _ => none
theorem knAx_safe (P : Program) : AxSafe (knAx P) := fun look id o => by cases o <;> rfl
theorem knAx_ok (hm : m.Ok) (P : Program) : letI := pgVal m E ints bools; AxOk P (knAx P) := by
  letI := pgVal m E ints bools
  intro look id o xs out h ρ X w0 w fresh e op ho hxs d hid hid1
  unfold knAx at h
  have hnp : nPgs.v = m.keys.length := nPgs_pv hm
  split at h <;> try (cases h; done)
  rename_i t a hh i heq
  cases heq
  split at h <;> try (cases h; done)
  rename_i args refs ti hl hti
  split at h <;> cases h
  rename_i hrow
  refine needC_ok fun g => ?_
  have g := ltC_v g
  simp only [SI.ofTm_v, SI.sym_v, hnp] at g
  obtain ⟨_, _, hu, _, _, _⟩ := tyOf_spec hti
  have d1 := den1 hxs
  simp only [SV.Den, SOff.Den] at d1
  obtain ⟨b, mm, hb, ⟨hm0, hi0, _⟩, hv1⟩ := d1
  have d2 := d
  obtain ⟨φ, dd⟩ := d2
  obtain ⟨b', hb', rs, hrs, f1, o1, f2, cs, T, rfl, f3⟩ := dd.obj _ _ hl
  obtain rfl : b' = b := by rw [hb] at hb'; injection hb' with q; exact q.symm
  obtain ⟨q, hq⟩ := Int.eq_ofNat_of_zero_le hi0
  have hqn : q < m.keys.length := by omega
  rw [ex_load ho, hv1]
  refine Good.value d (run_loadAt_cell hu hrow (v := .int .i64 (m.num q)) (cell_of_heap f2 ?_)) ?_
  · rw [hm0, hq]
    have := f3 q hqn
    simpa using this
  · simp only [SV.Den, SI.sym_v]
    show Value.int .i64 _ = .int .i64 (IntKind.i64.wrap (m.num i.v))
    have := hm.num _ (num_mem (m := m) hqn)
    rw [hq, wrap_i64_small (by omega) (by omega)]
end
end Go.Proofs.YtnoiijjkjcklpaaGreat
/- Pages put into the maps of a memory. -/
namespace Go.Proofs.YtnoiijjkjcklpaaGreat
open Go Go.Sx Go.RowKit Go.Cd Go.MapKept
set_option linter.unusedSimpArgs false
set_option linter.unusedVariables false
def lmK (t : Nat) : SObj → Option Tm
  | .smap [] _ => some (.lit 0)
  | .abs t' (.cons k .nil) _ => match Nat.beq t' t with
    | true => some k
    | false => none
  | _ => none
def atK (k : SI) (k' : Tm) : SB := SI.cmp .eq k (.sym (.fn .i64 71 (.cons k' .nil)))
def inK (k' : Tm) (x : OOut) : OOut := needC (leC (.lit 0) (SI.ofTm k')) (needC (SI.cmp .lt (SI.ofTm k') (.sym nPgs)) x)
def lmAx (P : Program) : Ax := fun look id o xs => match o, xs with
  | .mapEntry t _ _, some [.map h, .int .i64 k] => match look h, mapOf P t with
    | some o, some (_, _, .nilp) => match lmK 86 o with
      | some k' => some (inK k' (needC (atK k k') (.val (.tup [.any, .nat id]) [.set h (.abs 88 (.cons k' .nil) [id])] [h])))
      | none => none
    | some o, some (_, _, .bool (.lit false)) => match lmK 87 o with
      | some k' => some (inK k' (needC (atK k k') (.val (.tup [.any, .nat id]) [.set h (.abs 89 (.cons k' .nil) [id])] [h])))
      | none => none
    | _, _ => none
  | .entryStore t _ _ _, some [.map h, .nat i, x] => match look h, x with
    | some (.abs 88 (.cons k .nil) (s :: _)), .ptr c (.lit 0) => match Nat.beq s i, look c with
      | true, some (.cells l T) => match Nat.beq T pageT, isPage l with
        | true, some n => some (inK k (needC (atK (SI.ofTm n) k) (.val (.tup []) [.del c, .set h (.abs 86 (.cons (SI.op (.add .i64) (SI.ofTm k) (.lit 1)).tm .nil) [])] [h])))
        | _, _ => none
      | _, _ => none
    | some (.abs 89 (.cons k .nil) (s :: _)), .bool (.lit true) => match Nat.beq s i with
      | true => some (inK k (.val (.tup []) [.set h (.abs 87 (.cons (SI.op (.add .i64) (SI.ofTm k) (.lit 1)).tm .nil) [])] [h]))
      | false => none
    | _, _ => none
  | _, _ => none
theorem lmAx_safe (P : Program) : AxSafe (lmAx P) := fun look id o => by cases o <;> rfl
section
variable {m : MM} {E : PgEnv} {ints : Nat → Int} {bools : Nat → Bool}
theorem num_ne (hm : m.Ok) {i j : Nat} (hi : i < m.keys.length) (hj : j < m.keys.length) (h : i ≠ j) : m.num i ≠ m.num j := by
  rcases Nat.lt_or_gt_of_ne h with c | c
  · have := num_lt hm c hj; omega
  · have := num_lt hm c hi; omega
theorem lm_empty {b ck : Nat} {F : Nat → Prop} {w : World} (hF : ∀ x, F x ↔ x = b) (h : w.heap[b]? = some (.map (List.toArray []) ck)) : LmP m false 0 [] b F w :=
  ⟨[], ck, fun _ => 0, fun _ => none, h, ⟨(fun e he => by cases he), stamped_empty _, (fun _ => rfl)⟩, (fun h => by cases h), (fun i hi => by omega), (fun _ _ => rfl), (fun i hi => by omega), (fun i j hi => by omega), (fun i hi => by omega), fun x => by
    rw [hF]
    exact ⟨.inl, fun h => h.elim id fun ⟨i, hi, _⟩ => by omega⟩⟩
theorem lo_empty {b ck : Nat} {F : Nat → Prop} {w : World} (hF : ∀ x, F x ↔ x = b) (h : w.heap[b]? = some (.map (List.toArray []) ck)) : (loA m false 0 []).P b F w :=
  ⟨hF, _, h, [], ck, fun _ => none, .bool false, rfl, ⟨(fun e he => by cases he), stamped_empty _, (fun _ => rfl)⟩, (fun h => by cases h), fun i hi => by omega⟩
theorem lmK_lm {o : SObj} {k' : Tm} (hk : lmK 86 o = some k') {ρ : Env} {b : Nat} {F : Nat → Prop} {w : World} : letI := pgVal m E ints bools; OD ρ o b F w → ∃ rs, LmP m false k'.v.toNat rs b F w := by
  letI := pgVal m E ints bools
  intro h
  unfold lmK at hk
  split at hk <;> try (cases hk; done)
  · cases hk
    obtain ⟨h1, obj, h2, h3⟩ := h.block rfl
    obtain ⟨xs, h4, rfl⟩ := h3
    cases h4
    exact ⟨[], lm_empty h1 h2⟩
  · rename_i t' k r
    split at hk <;> cases hk
    rename_i ht
    have ht := Nat.eq_of_beq_eq_true ht; subst ht
    obtain ⟨rs, _, h⟩ := h
    exact ⟨rs, h⟩
theorem lmK_lo {o : SObj} {k' : Tm} (hk : lmK 87 o = some k') {ρ : Env} {b : Nat} {F : Nat → Prop} {w : World} : letI := pgVal m E ints bools; OD ρ o b F w → ∃ rs, (loA m false k'.v.toNat rs).P b F w := by
  letI := pgVal m E ints bools
  intro h
  unfold lmK at hk
  split at hk <;> try (cases hk; done)
  · cases hk
    obtain ⟨h1, obj, h2, h3⟩ := h.block rfl
    obtain ⟨xs, h4, rfl⟩ := h3
    cases h4
    exact ⟨[], lo_empty h1 h2⟩
  · rename_i t' k r
    split at hk <;> cases hk
    rename_i ht
    have ht := Nat.eq_of_beq_eq_true ht; subst ht
    obtain ⟨rs, _, h⟩ := h
    exact ⟨rs, h⟩
theorem lmK_frz {t : Nat} (ht : t < 1000) {o : SObj} {k' : Tm} (hk : lmK t o = some k') : o.frz = false := by
  unfold lmK at hk
  split at hk <;> try (cases hk; done)
  · rfl
  · split at hk <;> cases hk
    rename_i h
    have h := Nat.eq_of_beq_eq_true h; subst h
    show Nat.ble 1000 _ = false
    cases hb : Nat.ble 1000 _ with
    | false => rfl
    | true => have := Nat.le_of_ble_eq_true hb; omega
theorem lmAx_ok (hm : m.Ok) (P : Program) : letI := pgVal m E ints bools; AxOk P (lmAx P) := by
  letI := pgVal m E ints bools
  intro look id o xs out h ρ X w0 w fresh e op ho hxs d hid hid1
  have hnp : nPgs.v = m.keys.length := nPgs_pv hm
  have hfew := hm.few
  -- a place among the pages
  have inKs : ∀ {k' : Tm} {x : OOut}, (∀ q : Nat, k'.v = q → q < m.keys.length → (Tm.fn .i64 71 (.cons k' .nil)).v = m.num q → (SI.op (.add .i64) (SI.ofTm k') (.lit 1)).tm.v.toNat = q + 1 → OGood P ρ X w0 look fresh id x (execOp e op) w) → OGood P ρ X w0 look fresh id (inK k' x) (execOp e op) w := fun {k' x} hx => by
    refine needC_ok fun g1 => needC_ok fun g2 => ?_
    have g1 := leC_v g1
    have g2 := ltC_v g2
    simp only [SI.lit_v, SI.ofTm_v, SI.sym_v, hnp] at g1 g2
    obtain ⟨q, hq⟩ := Int.eq_ofNat_of_zero_le g1
    have hqn : q < m.keys.length := by omega
    refine hx q hq hqn ?_ ?_
    · show IntKind.i64.wrap (m.num k'.v) = _
      rw [hq]
      have := hm.num _ (num_mem (m := m) hqn)
      exact wrap_i64_small (by omega) (by omega)
    · rw [SI.tm_v, SI.op_v, SI.ofTm_v, SI.lit_v, hq]
      show (IntKind.i64.wrap ((q : Int) + 1)).toNat = _
      rw [wrap_i64_small (by omega) (by omega)]; omega
  unfold lmAx at h
  split at h <;> try (cases h; done)
  · -- entries
    rename_i t mo ko hh k heq
    cases heq
    obtain ⟨d1, d2⟩ := den2 hxs
    simp only [SV.Den] at d1 d2
    obtain ⟨b, hb, hv1⟩ := d1
    split at h <;> try (cases h; done)
    · rename_i o kt et hl hmo
      split at h <;> cases h
      rename_i k' hk
      obtain ⟨k0, j, zv, u1, u2, u3, u4, u5⟩ := mapOf_spec hmo
      have hz : zv = .pointer none := by
        have := ofVal_den (ρ := ρ) u5
        simpa only [SV.Den] using this
      subst hz
      refine inKs fun q hq hqn hnum _ => needC_ok fun gk => ?_
      have gk := eqC_v gk
      rw [SI.sym_v, hnum] at gk
      have d0 := d
      obtain ⟨φ, dd⟩ := d0
      obtain ⟨b', hb', hO⟩ := dd.obj _ _ hl
      obtain rfl : b' = b := by rw [hb] at hb'; injection hb' with q; exact q.symm
      obtain ⟨rs, hL⟩ := lmK_lm (m := m) (E := E) (ints := ints) (bools := bools) hk hO
      rw [hq, Int.toNat_natCast] at hL
      obtain ⟨es, ck, pb, L, f1, f2, f3, f4, f5, f6, f7, f8, f9⟩ := hL
      obtain ⟨es', ck', hM', hst, _, hr⟩ := run_mapEntry (P := P) (k := m.num q) (L := L) f2 f1 u1 u2 u3 u4
      have hnone : L (m.num q) = none := f5 _ fun i hi => num_ne hm (by omega) hqn (by omega)
      rw [hnone] at hM' hr
      have hle : ρ.le (ρ.put id (stampOf es ck (m.num q))) := Env.le_put _ (d.newName hid)
      rw [ex_mapEntry ho, hv1, d2, gk]
      refine Good.valE hle hr (tup2_den (by simp only [SV.Den]) (by simp only [SV.Den]; exact ⟨_, Env.put_same _ _ _, rfl⟩)) ?_
      refine d.changed hl (lmK_frz (by decide) hk) rfl hle (fun b2 F hb2 hO2 => ?_) (only_putObj' _ _ _).size rfl rfl rfl (fun j => rfl) fun j hj => by rw [Env.put_other _ _ hj.2.1]; exact d.newName hj.1
      obtain rfl : b2 = b' := by rw [hb] at hb2; injection hb2 with q; exact q.symm
      obtain ⟨rs2, hL2⟩ := lmK_lm (m := m) (E := E) (ints := ints) (bools := bools) hk hO2
      rw [hq, Int.toNat_natCast] at hL2
      obtain ⟨es2, ck2, pb2, L2, p1, p2, p3, p4, p5, p6, p7, p8, p9⟩ := hL2
      have hes : es2 = es ∧ ck2 = ck := by
        rw [f1] at p1; injection p1 with p1; injection p1 with p1 p1'
        exact ⟨by simpa using p1.symm, p1'.symm⟩
      obtain ⟨rfl, rfl⟩ := hes
      have hLL : L2 = L := by
        funext x
        exact (p2.get x).symm.trans (f2.get x)
      subst hLL
      have hon := only_putObj' b2 (.map es'.toArray ck') w
      refine ⟨⟨[_], ⟨_, [], rfl, Env.put_same _ _ _, rfl⟩, ?_⟩, fun x hx => hon.block x fun hxb => hx ((p9 x).2 (.inl hxb))⟩
      show LmP m true k'.v.toNat _ b2 F _
      rw [hq, Int.toNat_natCast]
      refine ⟨es', ck', pb2, L2, putObj_same f1, hM', fun _ s hs => by cases hs; exact hst, p4, p5, fun i hi => ?_, p7, p8, p9⟩
      rw [hon.block _ (p8 i hi)]; exact p6 i hi
    · rename_i o kt et hl hmo
      split at h <;> cases h
      rename_i k' hk
      obtain ⟨k0, j, zv, u1, u2, u3, u4, u5⟩ := mapOf_spec hmo
      have hz : zv = .bool false := by
        have := ofVal_den (ρ := ρ) u5
        simpa only [SV.Den, SB.lit_v] using this
      subst hz
      refine inKs fun q hq hqn hnum _ => needC_ok fun gk => ?_
      have gk := eqC_v gk
      rw [SI.sym_v, hnum] at gk
      have d0 := d
      obtain ⟨φ, dd⟩ := d0
      obtain ⟨b', hb', hO⟩ := dd.obj _ _ hl
      obtain rfl : b' = b := by rw [hb] at hb'; injection hb' with q; exact q.symm
      obtain ⟨rs, hL⟩ := lmK_lo (m := m) (E := E) (ints := ints) (bools := bools) hk hO
      rw [hq, Int.toNat_natCast] at hL
      obtain ⟨hF, obj, f1, es, ck, L, v0, rfl, f2, f3, f4⟩ := hL
      obtain ⟨es', ck', hM', hst, _, hr⟩ := run_mapEntry (P := P) (k := m.num q) (L := L) f2 f1 u1 u2 u3 u4
      have hle : ρ.le (ρ.put id (stampOf es ck (m.num q))) := Env.le_put _ (d.newName hid)
      rw [ex_mapEntry ho, hv1, d2, gk]
      refine Good.valE hle hr (tup2_den (by simp only [SV.Den]) (by simp only [SV.Den]; exact ⟨_, Env.put_same _ _ _, rfl⟩)) ?_
      refine d.changed hl (lmK_frz (by decide) hk) rfl hle (fun b2 F hb2 hO2 => ?_) (only_putObj' _ _ _).size rfl rfl rfl (fun j => rfl) fun j hj => by rw [Env.put_other _ _ hj.2.1]; exact d.newName hj.1
      obtain rfl : b2 = b' := by rw [hb] at hb2; injection hb2 with q; exact q.symm
      obtain ⟨rs2, hF2, _⟩ := lmK_lo (m := m) (E := E) (ints := ints) (bools := bools) hk hO2
      refine ⟨⟨[_], ⟨_, [], rfl, Env.put_same _ _ _, rfl⟩, ?_⟩, fun x hx => (only_putObj' b2 _ w).block x fun hxb => hx ((hF2 x).2 hxb)⟩
      show (loA m true k'.v.toNat _).P b2 F _
      rw [hq, Int.toNat_natCast]
      exact ⟨hF2, _, putObj_same f1, es', ck', L, _, rfl, hM', fun _ s hs => by cases hs; exact hst, f4⟩
  · -- their values
    rename_i t mo ko xo hh i xx heq
    cases heq
    obtain ⟨d1, d2, d3⟩ := den3 hxs
    simp only [SV.Den] at d1 d2
    obtain ⟨b, hb, hv1⟩ := d1
    obtain ⟨st, hst0, hv2⟩ := d2
    split at h <;> try (cases h; done)
    · rename_i k s r c hl
      split at h <;> try (cases h; done)
      rename_i l T hs hc
      split at h <;> cases h
      rename_i n hT hpg
      have hs := Nat.eq_of_beq_eq_true hs; subst hs
      have hT := Nat.eq_of_beq_eq_true hT; subst hT
      refine inKs fun q hq hqn hnum hnext => needC_ok fun gk => ?_
      have gk := eqC_v gk
      rw [SI.sym_v, SI.ofTm_v, hnum] at gk
      simp only [SV.Den, SOff.Den] at d3
      obtain ⟨cb, mm, hcb, rfl, hv3⟩ := d3
      have hhc : hh ≠ c := fun e => by rw [e, hc] at hl; cases hl
      have lmOf : ∀ φ, DenHφ φ ρ X w0 look fresh w → LmP m true q [st] b (φ hh) w := fun φ dd => by
        obtain ⟨b2, hb2, rs2, hrs2, hL⟩ := dd.obj _ _ hl
        obtain rfl : b2 = b := by rw [hb] at hb2; injection hb2 with q; exact q.symm
        obtain ⟨s2, rs3, rfl, hs2, _⟩ := hrs2
        obtain rfl : s2 = st := by rw [hst0] at hs2; injection hs2 with q; exact q.symm
        have hL : LmP m true k.v.toNat (s2 :: rs3) b2 (φ hh) w := hL
        rw [hq, Int.toNat_natCast] at hL
        exact lm_weak (rs := [s2]) (rs' := rs3) hL
      have d0 := d
      obtain ⟨φ0, dd0⟩ := d0
      obtain ⟨es, ck, pb, L, f1, f2, f3, f4, f5, f6, f7, f8, f9⟩ := lmOf φ0 dd0
      obtain ⟨es', hM', hr⟩ := run_entryStore (P := P) (t := t) f2 f1 (f3 rfl _ rfl) (.pointer (some ⟨cb, 0, none⟩))
      have hup : updL (updL L (m.num q) (.pointer none)) (m.num q) (.pointer (some ⟨cb, 0, none⟩)) = updL L (m.num q) (.pointer (some ⟨cb, 0, none⟩)) := by
        funext x; unfold updL; split <;> rfl
      simp only [if_true, hup] at hM'
      have hon := only_putObj' b (.map es'.toArray ck) w
      rw [ex_entryStore ho, hv1, hv2, hv3]
      refine ⟨.skip, undef, ρ, w.putObj b (.map es'.toArray ck), by simp only [Sem.run_bind, hr, Result.andThen_ok, Sem.run_pure], .inr ⟨rfl, rfl⟩, Env.le_refl _, undefS_den, ?_⟩
      refine d.gather (fun i => i = hh ∨ i = c) (k := hh) (o' := .abs 86 (.cons (SI.op (.add .i64) (SI.ofTm k) (.lit 1)).tm .nil) []) (fun i hi => ?_) (Env.le_refl _) hb (fun φ dd => ?_) (by rw [hon.size]; exact Nat.le_refl _) rfl rfl rfl (fun i hi o hlo => ?_) (fun o hlo => ?_) fun i hi => d.newName hi.1
      · rcases hi with rfl | rfl
        · exact ⟨_, hl, rfl⟩
        · exact ⟨_, hc, rfl⟩
      · obtain ⟨es2, ck2, pb2, L2, p1, p2, p3, p4, p5, p6, p7, p8, p9⟩ := lmOf φ dd
        have hes : es2 = es ∧ ck2 = ck := by
          rw [f1] at p1; injection p1 with p1; injection p1 with p1 p1'
          exact ⟨by simpa using p1.symm, p1'.symm⟩
        obtain ⟨rfl, rfl⟩ := hes
        have hLL : ∀ x, x ≠ m.num q → L2 x = L x := fun x hx => by
          have a1 := (p2.get x).symm.trans (f2.get x)
          simp only [if_true, updL, if_neg hx] at a1
          exact a1
        obtain ⟨c2, hc2, hOc⟩ := dd.obj _ _ hc
        obtain rfl : c2 = cb := by rw [hcb] at hc2; injection hc2 with q; exact q.symm
        obtain ⟨fc, obj, hobj, vs, hvs, rfl⟩ := hOc.block rfl
        have hpage := isPage_ok (m := m) (E := E) (ints := ints) (bools := bools) hm hpg hvs
        rw [gk] at hpage
        have hap : ∀ x, φ hh x → φ c x → False := fun x hx hx' => hhc (dd.apart hh c _ _ x hl hc rfl hx hx')
        have hcb' : c2 ≠ b := fun e => hap c2 (by rw [e]; exact (p9 b).2 (.inl rfl)) ((fc c2).2 rfl)
        have hpc : ∀ i, i < q → pb2 i ≠ c2 := fun i hi e => hap (pb2 i) ((p9 _).2 (.inr ⟨i, hi, rfl⟩)) ((fc _).2 e)
        have hnn : ∀ i, i < q → m.num i ≠ m.num q := fun i hi => num_ne hm (by omega) hqn (by omega)
        refine ⟨fun x => φ hh x ∨ x = c2, ⟨[], rfl, ?_⟩, fun x hx => ?_, fun x hx hn => hon.block x fun e => hn hh (.inl rfl) ((p9 x).2 (.inl e))⟩
        · show LmP m false (SI.op (.add .i64) (SI.ofTm k) (.lit 1)).tm.v.toNat [] b _ _
          rw [hnext]
          refine ⟨es', ck2, fun i => if i < q then pb2 i else c2, updL L (m.num q) (.pointer (some ⟨c2, 0, none⟩)), putObj_same f1, hM', (fun h => by cases h), fun i hi => ?_, fun x hx => ?_, fun i hi => ?_, fun i j hi hj e => ?_, fun i hi => ?_, fun x => ?_⟩
          · by_cases hiq : i < q
            · simp only [hiq, if_true, updL, if_neg (hnn i hiq)]
              rw [← hLL _ (hnn i hiq)]; exact p4 i hiq
            · have : i = q := by omega
              subst this
              simp only [Nat.lt_irrefl, if_false, updL, if_true]
          · have hxq : x ≠ m.num q := fun e => hx q (by omega) e.symm
            simp only [updL, if_neg hxq]
            rw [← hLL x hxq]; exact p5 x fun i hi => hx i (by omega)
          · by_cases hiq : i < q
            · simp only [hiq, if_true]
              rw [hon.block _ (p8 i hiq)]; exact p6 i hiq
            · have : i = q := by omega
              subst this
              simp only [Nat.lt_irrefl, if_false]
              rw [hon.block _ hcb']
              exact ⟨vs, hobj, hpage⟩
          · by_cases h1 : i < q <;> by_cases h2 : j < q
            · simp only [h1, h2, if_true] at e; exact p7 i j h1 h2 e
            · simp only [h1, h2, if_true, if_false] at e; exact absurd e (hpc i h1)
            · simp only [h1, h2, if_true, if_false] at e; exact absurd e.symm (hpc j h2)
            · omega
          · by_cases hiq : i < q
            · simp only [hiq, if_true]; exact p8 i hiq
            · simp only [hiq, if_false]; exact hcb'
          · show (φ hh x ∨ x = c2) ↔ x = b ∨ ∃ i, i < q + 1 ∧ x = if i < q then pb2 i else c2
            rw [p9]
            constructor
            · rintro ((h | ⟨i, hi, rfl⟩) | h)
              · exact .inl h
              · exact .inr ⟨i, by omega, by rw [if_pos hi]⟩
              · exact .inr ⟨q, by omega, by rw [if_neg (Nat.lt_irrefl q)]; exact h⟩
            · rintro (h | ⟨i, hi, rfl⟩)
              · exact .inl (.inl h)
              · by_cases hiq : i < q
                · rw [if_pos hiq]; exact .inl (.inr ⟨i, hiq, rfl⟩)
                · rw [if_neg hiq]; exact .inr rfl
        · rcases hx with h | h
          · exact .inl ⟨hh, .inl rfl, h⟩
          · exact .inl ⟨c, .inr rfl, (fc x).2 h⟩
      · simp only [looks, Upd.look, if_neg hi] at hlo
        split at hlo
        · cases hlo
        · rename_i hic
          exact ⟨hlo, fun h => h.elim hi hic⟩
      · simp only [looks, Upd.look, if_true] at hlo
        exact (Option.some.inj hlo).symm
    · rename_i k s r hl
      split at h <;> cases h
      rename_i hs
      have hs := Nat.eq_of_beq_eq_true hs; subst hs
      refine inKs fun q hq hqn hnum hnext => ?_
      simp only [SV.Den, SB.lit_v] at d3
      have d0 := d
      obtain ⟨φ, dd⟩ := d0
      obtain ⟨b', hb', rs', hrs, hO⟩ := dd.obj _ _ hl
      obtain rfl : b' = b := by rw [hb] at hb'; injection hb' with q; exact q.symm
      obtain ⟨s', rs2, rfl, hs', _⟩ := hrs
      obtain rfl : s' = st := by rw [hst0] at hs'; injection hs' with q; exact q.symm
      have hO : (loA m true k.v.toNat (s' :: rs2)).P b' (φ hh) w := hO
      rw [hq, Int.toNat_natCast] at hO
      obtain ⟨hF, obj, f1, es, ck, L, v0, rfl, f2, f3, f4⟩ := hO
      obtain ⟨es', hM', hr⟩ := run_entryStore (P := P) (t := t) f2 f1 (f3 rfl _ rfl) (.bool true)
      have hup : updL (updL L (m.num q) v0) (m.num q) (.bool true) = updL L (m.num q) (.bool true) := by
        funext x; unfold updL; split <;> rfl
      simp only [if_true, hup] at hM'
      rw [ex_entryStore ho, hv1, hv2, d3]
      refine Good.skipA d hl rfl rfl hb (fun F hO2 => by obtain ⟨_, _, q, _⟩ := hO2; exact q) (fun F hF2 => ⟨[], rfl, ?_⟩) hr (only_putObj' _ _ _)
      show (loA m false (SI.op (.add .i64) (SI.ofTm k) (.lit 1)).tm.v.toNat []).P b' F _
      rw [hnext]
      refine ⟨hF2, _, putObj_same f1, es', ck, updL L (m.num q) (.bool true), v0, rfl, hM', (fun h => by cases h), fun i hi => ?_⟩
      unfold updL
      by_cases hiq : i < q
      · rw [if_neg (num_ne hm (by omega) hqn (by omega))]; exact f4 i hiq
      · have : i = q := by omega
        subst this
        rw [if_pos rfl]
end
end Go.Proofs.YtnoiijjkjcklpaaGreat
/- Slices without elements. -/
namespace Go.Sx
set_option linter.unusedSimpArgs false
set_option linter.unusedVariables false
open Go Go.RowKit Go.Cd Go.Proofs.YtnoiijjkjcklpaaGreat Go.MapKept
def bs0Ax (P : Program) : Ax := fun look id o xs => match o, xs with
  | .buildSlice t 0 ps, some [] => match ps.toList, tyOf P t with
    | [], some ti => match ti.desc with
      | .slice e => match tyOf P e with
        | some _ => some (.val (.sl id (.lit 0) (.lit 0) (.lit 0)) [.ins id (.cells [] e)] [])
        | none => none
      | _ => none
    | _, _ => none
  | _, _ => none
theorem bs0Ax_safe (P : Program) : AxSafe (bs0Ax P) := fun look id o => by
  cases o <;> try rfl
  rename_i t n ps
  cases n <;> rfl
theorem bs0Ax_ok [Val] (P : Program) : AxOk P (bs0Ax P) := by
  intro look id o xs out h ρ X w0 w fresh e op ho hxs d hid hid1
  unfold bs0Ax at h
  split at h <;> try (cases h; done)
  rename_i t ps heq
  split at h <;> try (cases h; done)
  rename_i ti hps hti
  obtain ⟨_, _, hu, _, _, _⟩ := tyOf_spec hti
  split at h <;> try (cases h; done)
  rename_i el hd
  rw [hd] at hu
  split at h <;> cases h
  rename_i te hte
  have hps : ps = #[] := by rw [← Array.toArray_toList (xs := ps), hps]
  subst hps
  obtain ⟨dst, op', ty, pos, after, guard⟩ := op
  dsimp only at ho; subst ho
  have hex : execOp e ⟨dst, .buildSlice t 0 #[], ty, pos, after, guard⟩ = (do pure (.value (← Instr.buildSlice t 0 #[]))) := by
    have e0 : ∀ (f : Nat × Operand → Nat × Value), (#[] : Array (Nat × Operand)).map f = #[] := fun f => by simp
    rw [show execOp e ⟨dst, .buildSlice t 0 #[], ty, pos, after, guard⟩ = (do pure (.value (← Instr.buildSlice t 0 ((#[] : Array (Nat × Operand)).map fun (i, x) => (i, e x))))) from rfl, e0]
  have hrun : (Instr.buildSlice t 0 #[]).run P w = .ok (.slice (some ⟨w.heap.size, 0, none⟩) 0 0) (w.alloc (.cells #[] el)) := by
    simp only [Instr.buildSlice, Sem.run_bind, run_underlying hu, Result.andThen_ok, run_sizeOf' hte, Nat.zero_mul]
    simp [Instr.fill, newRow]
    congr 1
    congr 1
    exact Array.eq_empty_of_size_eq_zero (by simp)
  rw [hex]
  refine Good.new d hid rfl hrun ⟨[], by simp, by simp⟩ ?_
  simp only [SV.Den, SN.Den, SOff.Den]
  exact ⟨_, 0, 0, 0, Env.put_same _ _ _, rfl, rfl, rfl, Nat.le_refl _, rfl⟩
end Go.Sx
namespace Go.Sx
def forgetK (live keep : List Nat) (S : SState) : SState := { S with top := { S.top with tmps := Go.Proofs.YtnoiijjkjcklpaaGreat.forgetT live 0 S.top.tmps }, ents := Go.Proofs.YtnoiijjkjcklpaaGreat.forgetE (keepE S.ents keep), log := [] }
end Go.Sx
