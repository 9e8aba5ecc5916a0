/- Parts of the proof: SxPg2, SxSam, SxPg3. -/
import Derived.Test.YtnoiijjkjcklpaaGreatZ25
import Derived.Laws.BytesArg
/- Pages that came in, as runs see them. -/
namespace Go.Proofs.YtnoiijjkjcklpaaGreat
open Go Go.Sx Go.RowKit Go.Cd Go.MapKept
set_option linter.unusedSimpArgs false
set_option linter.unusedVariables false
structure PgEnv where
  L : List PgIn
  b : Nat
  off : Nat
def PgIn.blk (x : PgIn) : Nat := match x.p with
  | some a => a.block
  | none => 0
def PgIn.ofs (x : PgIn) : Nat := match x.p with
  | some a => a.off
  | none => 0
def PgEnv.at' (E : PgEnv) (i : Int) : PgIn := E.L.getD i.toNat ⟨0, 0, none, 0, []⟩
def pgFi (m : MM) (E : PgEnv) : Nat → List Int → Int
  | 80, [i] => (E.at' i).n
  | 81, [i] => (E.at' i).r
  | 83, [] => E.off
  | 84, [_] => E.b
  | 85, [_] => E.off
  | 86, [_] => E.L.length
  | 90, [i] => (E.at' i).blk
  | 91, [i] => (E.at' i).ofs
  | 92, [i] => (E.at' i).bs.length
  | f, l => memFi m f l
def pgFb (m : MM) (E : PgEnv) : Nat → List Int → Bool
  | 83, [] => decide (IsPg E.L)
  | f, l => memFb m f l
def InP (E : PgEnv) (b : Nat) (F : Nat → Prop) (w : World) : Prop :=
  (E.L = [] ∨ b = E.b ∧ b < w.heap.size ∧ PagesIn w b E.off E.L) ∧ (∀ x ∈ E.L, x.Ok w) ∧ ∀ x, F x ↔ (E.L ≠ [] ∧ x = b) ∨ ∃ y ∈ E.L, y.bs ≠ [] ∧ x = y.blk
theorem cell_keep {w w' : World} {b o : Nat} (h : w'.heap[b]? = w.heap[b]?) : w'.cell? ⟨b, o, none⟩ = w.cell? ⟨b, o, none⟩ := by
  simp only [World.cell?, h]
theorem lt_keep {w w' : World} {b : Nat} (h : w'.heap[b]? = w.heap[b]?) (hb : b < w.heap.size) : b < w'.heap.size := by
  rw [Array.getElem?_eq_getElem hb] at h
  exact (Array.getElem?_eq_some_iff.1 h).1
theorem PgIn.Ok.keep {w w' : World} {x : PgIn} (h : x.Ok w) (hw : x.bs ≠ [] → w'.heap[x.blk]? = w.heap[x.blk]?) : x.Ok w' := by
  refine ⟨h.n, h.r, h.len, ?_⟩
  rcases h.bytes with h | ⟨b, off, h1, h2, h3⟩
  · exact .inl h
  · by_cases h0 : x.bs = []
    · exact .inl h0
    · have hb : x.blk = b := by unfold PgIn.blk; rw [h1]
      have hw := hw h0
      rw [hb] at hw
      exact .inr ⟨b, off, h1, lt_keep hw h2, fun i hi => ⟨(cell_keep hw).trans (h3 i hi).1, (h3 i hi).2⟩⟩
def inA (E : PgEnv) : Abs where
  P := InP E
  stable := fun b F w w' hw ⟨h1, h2, h3⟩ => by
    refine ⟨?_, fun x hx => (h2 x hx).keep fun h0 => hw _ ((h3 _).2 (.inr ⟨x, hx, h0, rfl⟩)), h3⟩
    rcases h1 with h1 | ⟨q1, q2, q3⟩
    · exact .inl h1
    · by_cases h0 : E.L = []
      · exact .inl h0
      · have hb := hw b ((h3 b).2 (.inl ⟨h0, rfl⟩))
        exact .inr ⟨q1, lt_keep hb q2, fun i x hx j u hu => (cell_keep hb).trans (q3 i x hx j u hu)⟩
  lt := fun b F w ⟨h1, h2, h3⟩ x hx => by
    rcases (h3 x).1 hx with ⟨h0, rfl⟩ | ⟨y, hy, h0, rfl⟩
    · rcases h1 with h1 | ⟨_, q2, _⟩
      · exact absurd h1 h0
      · exact q2
    · rcases (h2 y hy).bytes with h | ⟨b, off, p1, p2, p3⟩
      · exact absurd h h0
      · have : y.blk = b := by unfold PgIn.blk; rw [p1]
        rw [this]; exact p2
def anyA : Abs where
  P b F w := ∀ x, F x → x < w.heap.size
  stable := fun b F w w' hw h x hx => lt_keep (hw x hx) (h x hx)
  lt := fun b F w h => h
def wk (ks : List Int) (A : Int → Abs) : Abs := match ks with
  | k :: _ => A k
  | [] => anyA
theorem wk_weak {A B : Int → Abs} (h : ∀ k b F w, (A k).P b F w → (B k).P b F w) (ks ks' : List Int) (b : Nat) (F : Nat → Prop) (w : World) (hp : (wk (ks ++ ks') A).P b F w) : (wk ks B).P b F w := by
  match ks, hp with
  | [], hp => exact (wk ([] ++ ks') A).lt b F w hp
  | k :: r, hp => exact h k b F w hp
def byA (m : MM) (q : Int) : Abs := blkA fun o => ∃ ps, o = .cells ps byteT ∧ ∀ j : Nat, j < 256 → ps[j]? = some (.int .u8 (m.bt q j))
abbrev pgT : TypeId := 106
def LstP (m : MM) (k : Nat) (rs : List Nat) (b : Nat) (F : Nat → Prop) (w : World) : Prop :=
  ∃ (bb cp : Nat → Nat) (cs : List Value) (κ : Nat), w.heap[b]? = some (.cells cs.toArray pgT) ∧ cs.length = κ * 3 ∧ k ≤ κ ∧ (∀ c, rs[0]? = some c → c = κ) ∧
    (∀ i, i < k → cs[i * 3]? = some (.int .i64 (m.num i)) ∧ cs[i * 3 + 1]? = some (.int .i64 (m.rt (m.num i))) ∧ cs[i * 3 + 2]? = some (.slice (some ⟨bb i, 0, none⟩) 256 (cp i))) ∧
    (∀ i, i < k → 256 ≤ cp i ∧ ∃ ps, w.heap[bb i]? = some (.cells ps byteT) ∧ ∀ j : Nat, j < 256 → ps[j]? = some (.int .u8 (m.bt (m.num i) j))) ∧
    (∀ i j, i < k → j < k → bb i = bb j → i = j) ∧ (∀ i, i < k → bb i ≠ b) ∧ ∀ x, F x ↔ x = b ∨ ∃ i, i < k ∧ x = bb i
def lstA (m : MM) (k : Nat) (rs : List Nat) : Abs where
  P := LstP m k rs
  stable := fun b F w w' hw ⟨bb, cp, cs, κ, h1, h2, h3, h4, h5, h6, h7, h8, h9⟩ => by
    refine ⟨bb, cp, cs, κ, by rw [hw b ((h9 b).2 (.inl rfl))]; exact h1, h2, h3, h4, h5, fun i hi => ?_, h7, h8, h9⟩
    rw [hw (bb i) ((h9 _).2 (.inr ⟨i, hi, rfl⟩))]; exact h6 i hi
  lt := fun b F w ⟨bb, cp, cs, κ, h1, h2, h3, h4, h5, h6, h7, h8, h9⟩ x hx => by
    rcases (h9 x).1 hx with rfl | ⟨i, hi, rfl⟩
    · exact lt_heap h1
    · obtain ⟨_, ps, q, _⟩ := h6 i hi; exact lt_heap q
theorem lst_weak {m : MM} {k : Nat} {rs rs' : List Nat} {b : Nat} {F : Nat → Prop} {w : World} (h : LstP m k (rs ++ rs') b F w) : LstP m k rs b F w := by
  obtain ⟨bb, cp, cs, κ, h1, h2, h3, h4, h5⟩ := h
  exact ⟨bb, cp, cs, κ, h1, h2, h3, fun c hc => h4 c (by rw [List.getElem?_append_left (List.getElem?_eq_some_iff.1 hc).1]; exact hc), h5⟩
def LmP (m : MM) (pend : Bool) (k : Nat) (rs : List Nat) (b : Nat) (F : Nat → Prop) (w : World) : Prop :=
  ∃ (es : List MapEntry) (ck : Nat) (pb : Nat → Nat) (L : Int → Option Value), w.heap[b]? = some (.map es.toArray ck) ∧ MapIs es ck (if pend then updL L (m.num k) (.pointer none) else L) ∧ (pend = true → ∀ s, rs[0]? = some s → StampIs es (m.num k) s) ∧
    (∀ i, i < k → L (m.num i) = some (.pointer (some ⟨pb i, 0, none⟩))) ∧ (∀ x, (∀ i, i < k → m.num i ≠ x) → L x = none) ∧
    (∀ i, i < k → ∃ cs, w.heap[pb i]? = some (.cells cs.toArray pageT) ∧ PageAt (m.rt (m.num i)) (m.bt (m.num i)) cs) ∧ (∀ i j, i < k → j < k → pb i = pb j → i = j) ∧ (∀ i, i < k → pb i ≠ b) ∧ ∀ x, F x ↔ x = b ∨ ∃ i, i < k ∧ x = pb i
def lmA (m : MM) (pend : Bool) (k : Nat) (rs : List Nat) : Abs where
  P := LmP m pend k rs
  stable := fun b F w w' hw ⟨es, ck, pb, L, h1, h2, h3, h4, h5, h6, h7, h8, h9⟩ => by
    refine ⟨es, ck, pb, L, by rw [hw b ((h9 b).2 (.inl rfl))]; exact h1, h2, h3, h4, h5, fun i hi => ?_, h7, h8, h9⟩
    rw [hw (pb i) ((h9 _).2 (.inr ⟨i, hi, rfl⟩))]; exact h6 i hi
  lt := fun b F w ⟨es, ck, pb, L, h1, h2, h3, h4, h5, h6, h7, h8, h9⟩ x hx => by
    rcases (h9 x).1 hx with rfl | ⟨i, hi, rfl⟩
    · exact lt_heap h1
    · obtain ⟨ps, q, _⟩ := h6 i hi; exact lt_heap q
theorem lm_weak {m : MM} {pend : Bool} {k : Nat} {rs rs' : List Nat} {b : Nat} {F : Nat → Prop} {w : World} (h : LmP m pend k (rs ++ rs') b F w) : LmP m pend k rs b F w := by
  obtain ⟨es, ck, pb, L, h1, h2, h3, h4⟩ := h
  exact ⟨es, ck, pb, L, h1, h2, fun hp c hc => h3 hp c (by rw [List.getElem?_append_left (List.getElem?_eq_some_iff.1 hc).1]; exact hc), h4⟩
def loA (m : MM) (pend : Bool) (k : Nat) (rs : List Nat) : Abs := blkA fun o => ∃ es ck L v, o = .map (List.toArray es) ck ∧ MapIs es ck (if pend then updL L (m.num k) v else L) ∧ (pend = true → ∀ s, rs[0]? = some s → StampIs es (m.num k) s) ∧ ∀ i, i < k → L (m.num i) = some (.bool true)
theorem lo_weak {m : MM} {pend : Bool} {k : Nat} {rs rs' : List Nat} {b : Nat} {F : Nat → Prop} {w : World} : (loA m pend k (rs ++ rs')).P b F w → (loA m pend k rs).P b F w :=
  blkA_weak fun o ⟨es, ck, L, v, h1, h2, h3, h4⟩ => ⟨es, ck, L, v, h1, h2, fun hp c hc => h3 hp c (by rw [List.getElem?_append_left (List.getElem?_eq_some_iff.1 hc).1]; exact hc), h4⟩
def knA (m : MM) : Abs := blkA fun o => ∃ cs T, o = .cells cs T ∧ ∀ i, i < m.keys.length → cs[i]? = some (.int .i64 (m.num i))
def KmP (m : MM) (rs : List Nat) (b : Nat) (F : Nat → Prop) (w : World) : Prop :=
  ∃ (bp : Nat) (c0 c2 : Value) (T : TypeId) (es : List MapEntry) (ck : Nat) (L : Int → Option Value), w.heap[b]? = some (.cells #[c0, .map (some bp), c2] T) ∧ w.heap[bp]? = some (.map es.toArray ck) ∧ MapIs es ck L ∧ (∀ k, (L k).isSome = m.dom k) ∧ (∀ x, F x ↔ x = b ∨ x = bp) ∧ ∀ c, rs[0]? = some c → c = b
def kmA (m : MM) (rs : List Nat) : Abs where
  P := KmP m rs
  stable := fun b F w w' hw ⟨bp, c0, c2, T, es, ck, L, h1, h2, h3, h4, h5, h6⟩ =>
    ⟨bp, c0, c2, T, es, ck, L, by rw [hw b ((h5 b).2 (.inl rfl))]; exact h1, by rw [hw bp ((h5 bp).2 (.inr rfl))]; exact h2, h3, h4, h5, h6⟩
  lt := fun b F w ⟨bp, c0, c2, T, es, ck, L, h1, h2, h3, h4, h5, h6⟩ x hx => by
    rcases (h5 x).1 hx with rfl | rfl
    · exact lt_heap h1
    · exact lt_heap h2
theorem km_weak {m : MM} {rs rs' : List Nat} {b : Nat} {F : Nat → Prop} {w : World} (h : KmP m (rs ++ rs') b F w) : KmP m rs b F w := by
  obtain ⟨bp, c0, c2, T, es, ck, L, h1, h2, h3, h4, h5, h6⟩ := h
  exact ⟨bp, c0, c2, T, es, ck, L, h1, h2, h3, h4, h5, fun c hc => h6 c (by rw [List.getElem?_append_left (List.getElem?_eq_some_iff.1 hc).1]; exact hc)⟩
def pgAbs (m : MM) (E : PgEnv) : Nat → List Int → List Nat → Abs
  | 1090, _, _ => inA E
  | 1062, _, _ => knA m
  | 1061, _, rs => kmA m rs
  | 62, ks, _ => wk ks fun q => byA m q
  | 85, ks, rs => wk ks fun k => lstA m k.toNat rs
  | 86, ks, rs => wk ks fun k => lmA m false k.toNat rs
  | 87, ks, rs => wk ks fun k => loA m false k.toNat rs
  | 88, ks, rs => wk ks fun k => lmA m true k.toNat rs
  | 89, ks, rs => wk ks fun k => loA m true k.toNat rs
  | t, ks, rs => memAbs m t ks rs
theorem memAbs_weak (m : MM) (t : Nat) (ks ks' : List Int) (rs rs' : List Nat) (b : Nat) (F : Nat → Prop) (w : World) (h : (memAbs m t (ks ++ ks') (rs ++ rs')).P b F w) : (memAbs m t ks rs).P b F w := (memVal m (fun _ => 0) (fun _ => false)).weak t ks ks' rs rs' b F w h
@[reducible] def pgVal (m : MM) (E : PgEnv) (ints : Nat → Int) (bools : Nat → Bool) : Val := ⟨ints, bools, pgFi m E, pgFb m E, pgAbs m E, fun t ks ks' rs rs' b F w h => by
  unfold pgAbs at h ⊢
  split at h
  · exact h
  · exact h
  · exact km_weak h
  · exact wk_weak (fun _ _ _ _ h => h) _ _ _ _ _ h
  · exact wk_weak (fun _ _ _ _ h => lst_weak h) _ _ _ _ _ h
  · exact wk_weak (fun _ _ _ _ h => lm_weak h) _ _ _ _ _ h
  · exact wk_weak (fun _ _ _ _ h => lo_weak h) _ _ _ _ _ h
  · exact wk_weak (fun _ _ _ _ h => lm_weak h) _ _ _ _ _ h
  · exact wk_weak (fun _ _ _ _ h => lo_weak h) _ _ _ _ _ h
  · exact memAbs_weak _ _ _ _ _ _ _ _ _ h⟩
def inLen : Tm := .fn .i64 86 (.cons (.lit 0) .nil)
section
variable {m : MM} {E : PgEnv} {ints : Nat → Int} {bools : Nat → Bool}
theorem inLen_v (hl : E.L.length ≤ 9223372036854775807) : @Tm.v (pgVal m E ints bools) inLen = E.L.length := by
  show IntKind.i64.wrap ((E.L.length : Nat) : Int) = _
  exact wrap_i64_small (by omega) (by omega)
theorem at_get {i : Int} {q : Nat} (h : i = q) (hq : q < E.L.length) : E.L[q]? = some (E.at' i) := by
  subst h
  unfold PgEnv.at'
  rw [Int.toNat_natCast, List.getD_eq_getElem?_getD, List.getElem?_eq_getElem hq]; rfl
end
def slice3 (P : Program) (t : TypeId) : Bool := match tyOf P t with
  | some ti => match ti.desc with
    | .slice e => match tyOf P e with
      | some te => Nat.beq te.size 3
      | none => false
    | _ => false
  | none => false
theorem slice3_ok [Val] {P : Program} {t : TypeId} (h : slice3 P t = true) : ∃ e te, P.underlying t = some (.slice e) ∧ tyOf P e = some te ∧ te.size = 3 := by
  unfold slice3 at h
  split at h <;> try cases h
  rename_i ti hti
  obtain ⟨_, _, hu, _, _, _⟩ := tyOf_spec hti
  split at h <;> try cases h
  rename_i e hd
  rw [hd] at hu
  split at h <;> try cases h
  rename_i te hte
  exact ⟨e, te, hu, hte, Nat.eq_of_beq_eq_true h⟩
abbrev rawL : Nat := 9223372036854775808
def inN (good : Bool) (i : Tm) : Tm := match good with
  | true => .fn .i64 71 (.cons i .nil)
  | false => .fn .i64 80 (.cons i .nil)
def inR (good : Bool) (i : Tm) : Tm := match good with
  | true => .fn .i64 51 (.cons (.fn .i64 71 (.cons i .nil)) .nil)
  | false => .fn .i64 81 (.cons i .nil)
def inLt (i : Tm) : SB := SI.cmp .lt (SI.ofTm i) (.sym inLen)
def inAx (P : Program) (good : Bool) (hl : Nat) : Ax := fun look id o xs => match o, xs with
  | .indexAddr t _ _, some [.slp 84 (.lit 0), .int _ i] => match look hl, slice3 P t with
    | some (.abs 1090 _ _), true => some (needC (leC (.lit 0) i) (needC (SI.cmp .lt i (.sym inLen)) (.val (.ptr hl (.raw 0 3 rawL 83 i.tm)) [] [])))
    | _, _ => none
  | .load t _, some [.ptr h (.raw k 3 9223372036854775808 83 i)] => match Nat.beq h hl, look hl, tyOf P t with
    | true, some (.abs 1090 _ _), some ti => match ti.desc.isRow, k with
      | false, 0 => some (needC (inLt i) (.val (.int .i64 (.sym (inN good i))) [] []))
      | false, 1 => some (needC (inLt i) (.val (.int .i64 (.sym (inR good i))) [] []))
      | false, 2 => some (needC (inLt i) (.val (.slp 90 i) [] []))
      | true, 0 => match Nat.beq ti.size 3 with
        | true => some (needC (inLt i) (.val (.agg [.int .i64 (.sym (inN good i)), .int .i64 (.sym (inR good i)), .slp 90 i]) [] []))
        | false => none
      | _, _ => none
    | _, _, _ => none
  | _, _ => none
theorem inAx_safe (P : Program) (good : Bool) (hl : Nat) : AxSafe (inAx P good hl) := fun look id o => by cases o <;> rfl
section
variable {m : MM} {E : PgEnv} {ints : Nat → Int} {bools : Nat → Bool}
theorem in_den {good : Bool} (hg : good = true → PgsOf m E.L ∧ m.Ok) {w : World} (hE : ∀ x ∈ E.L, x.Ok w) {ρ : Env} {i : Tm} {q : Nat} (hq : @Tm.v (pgVal m E ints bools) i = q) (hlt : q < E.L.length) :
    @SV.Den (pgVal m E ints bools) ρ (.int .i64 (.sym (inN good i))) (.int .i64 (E.at' q).n) ∧ @SV.Den (pgVal m E ints bools) ρ (.int .i64 (.sym (inR good i))) (.int .i64 (E.at' q).r) ∧
    @SV.Den (pgVal m E ints bools) ρ (.slp 90 i) (.slice (E.at' q).p (E.at' q).bs.length (E.at' q).cap) := by
  letI := pgVal m E ints bools
  have hat := at_get (E := E) (i := (q : Int)) rfl hlt
  have hok := hE _ (List.mem_of_getElem? hat)
  obtain ⟨n1, n2⟩ := hok.n
  obtain ⟨r1, r2⟩ := hok.r
  obtain ⟨l1, l2⟩ := hok.len
  refine ⟨?_, ?_, ?_⟩
  · simp only [SV.Den, SI.sym_v]
    cases good with
    | false =>
      show _ = Value.int .i64 (IntKind.i64.wrap (E.at' i.v).n)
      rw [hq, wrap_i64_small n1 (by omega)]
    | true =>
      obtain ⟨hp, hm⟩ := hg rfl
      show _ = Value.int .i64 (IntKind.i64.wrap (m.num i.v))
      rw [hq, ← (hp.at' q _ hat).1, wrap_i64_small n1 (by omega)]
  · simp only [SV.Den, SI.sym_v]
    cases good with
    | false =>
      show _ = Value.int .i64 (IntKind.i64.wrap (E.at' i.v).r)
      rw [hq, wrap_i64_small r1 (by omega)]
    | true =>
      obtain ⟨hp, hm⟩ := hg rfl
      show _ = Value.int .i64 (IntKind.i64.wrap (m.rt (IntKind.i64.wrap (m.num i.v))))
      rw [hq, ← (hp.at' q _ hat).1, wrap_i64_small n1 (by omega), hm.rt, (hp.at' q _ hat).1, (hp.at' q _ hat).2.1]
  · simp only [SV.Den]
    refine ⟨(E.at' q).p, (E.at' q).bs.length, (E.at' q).cap, rfl, ?_, ?_⟩
    · show IntKind.i64.wrap (((E.at' i.v).bs.length : Nat) : Int) = _
      rw [hq]; exact wrap_i64_small (by omega) (by omega)
    · rcases hok.bytes with h | ⟨b, off, h1, h2, h3⟩
      · left; rw [h]; rfl
      · right
        rw [h1]
        show some _ = some (⟨(((E.at' i.v).blk : Nat) : Int).toNat, (((E.at' i.v).ofs : Nat) : Int).toNat, none⟩ : Addr)
        rw [hq, Int.toNat_natCast, Int.toNat_natCast]
        unfold PgIn.blk PgIn.ofs
        rw [h1]
theorem inAx_ok {good : Bool} (hg : good = true → PgsOf m E.L ∧ m.Ok) (hL : E.L.length ≤ 9223372036854775807) (P : Program) (hl : Nat) : letI := pgVal m E ints bools; AxOk P (inAx P good hl) := by
  letI := pgVal m E ints bools
  intro look id o xs out h ρ X w0 w fresh e op ho hxs d hid hid1
  have hlen : inLen.v = E.L.length := inLen_v hL
  unfold inAx at h
  split at h <;> try (cases h; done)
  · rename_i t a0 i0 kk i heq
    cases heq
    split at h <;> cases h
    rename_i a r hlk hs3
    obtain ⟨el, te, u1, u2, u3⟩ := slice3_ok hs3
    refine needC_ok fun g1 => needC_ok fun g2 => ?_
    have g1 := leC_v g1
    have g2 := ltC_v g2
    simp only [SI.lit_v, SI.sym_v, hlen] at g1 g2
    obtain ⟨d1, d2⟩ := den2 hxs
    simp only [SV.Den] at d1 d2
    obtain ⟨p, n, c, hv1, hn, hp⟩ := d1
    have hn : (E.L.length : Int) = n := by
      have : (Tm.fn .i64 86 (.cons (.lit 0) .nil)).v = (n : Int) := hn
      rw [← this]; exact hlen.symm
    have d0 := d
    obtain ⟨φ, dd⟩ := d0
    obtain ⟨b, hb, rs, _, h1, h2, h3⟩ := dd.obj _ _ hlk
    have hne : E.L ≠ [] := fun e0 => by rw [e0] at g2; simp at g2; omega
    rcases h1 with h1 | ⟨rfl, q2, q3⟩
    · exact absurd h1 hne
    have hp : p = some ⟨E.b, E.off, none⟩ := by
      rcases hp with hp | hp
      · omega
      · rw [hp]
        show some (⟨((E.b : Nat) : Int).toNat, ((E.off : Nat) : Int).toNat, none⟩ : Addr) = _
        rw [Int.toNat_natCast, Int.toNat_natCast]
    subst hp
    have hex : execOp e op = (do pure (.value (← Instr.indexAt t (e a0) (e i0)))) := by
      obtain ⟨dst, op', ty, pos, after, guard⟩ := op
      dsimp only at ho; subst ho
      rfl
    rw [hex, hv1, d2]
    refine Good.value d (val := .pointer (some ⟨E.b, E.off + i.v.toNat * te.size, none⟩)) ?_ ?_
    · simp only [Instr.indexAt, asIntOf, Sem.run_bind, Sem.run_pure, Result.andThen_ok, run_underlying u1]
      rw [if_pos ⟨g1, by omega⟩]
      simp only [Sem.run_bind, Sem.run_pure, Result.andThen_ok, run_sizeOf' u2, add_mk]
    · simp only [SV.Den, SOff.Den]
      refine ⟨E.b, _, hb, ⟨?_, by rw [SI.tm_v]; exact g1, by rw [SI.tm_v]; show _ < 9223372036854775808; omega⟩, rfl⟩
      rw [SI.tm_v, u3]
      show _ = 0 + ((E.off : Nat) : Int).toNat + _
      rw [Int.toNat_natCast]; omega
  · rename_i t a hh k i heq
    cases heq
    split at h <;> try (cases h; done)
    rename_i a1 r ti hhl hlk hti
    have hhl := Nat.eq_of_beq_eq_true hhl; subst hhl
    obtain ⟨ii, hii, hu, hsz, _, _⟩ := tyOf_spec hti
    have d1 := den1 hxs
    simp only [SV.Den, SOff.Den] at d1
    obtain ⟨b, mm, hb, ⟨hm0, hi0, _⟩, hv1⟩ := d1
    have d0 := d
    obtain ⟨φ, dd⟩ := d0
    obtain ⟨b', hb', rs, _, h1, h2, h3⟩ := dd.obj _ _ hlk
    obtain rfl : b' = b := by rw [hb] at hb'; injection hb' with q; exact q.symm
    obtain ⟨q, hq⟩ := Int.eq_ofNat_of_zero_le hi0
    have hm0 : mm = k + E.off + 3 * q := by
      rw [hm0, hq]
      show k + ((E.off : Nat) : Int).toNat + _ = _
      rw [Int.toNat_natCast, Int.toNat_natCast]
    have key : (inLt i).v = true → q < E.L.length ∧ ∀ j u, (E.at' q).cells[j]? = some u → w.cell? ⟨b', E.off + (q * 3 + j), none⟩ = some u := fun g => by
      have g := ltC_v g
      simp only [SI.ofTm_v, SI.sym_v, hlen, hq] at g
      have hqn : q < E.L.length := by omega
      refine ⟨hqn, ?_⟩
      rcases h1 with h1 | ⟨_, q2, q3⟩
      · rw [h1] at hqn; simp at hqn
      · exact q3 q _ (at_get rfl hqn)
    have hex : execOp e op = (do pure (.value (← Instr.loadAt t (e a)))) := ex_load ho
    have cellW : ∀ (s : SV) (v : Value) (j : Nat), ti.desc.isRow = false → k = j → (q < E.L.length → (E.at' q).cells[j]? = some v) → (q < E.L.length → s.Den ρ v) → OGood P ρ X w0 look fresh id (needC (inLt i) (.val s [] [])) (execOp e op) w := fun s v j hrow hkj hv hs => by
      refine needC_ok fun g => ?_
      obtain ⟨hqn, hc⟩ := key g
      rw [hex, hv1]
      refine Good.value d (run_loadAt_cell hu hrow (v := v) ?_) (hs hqn)
      have := hc j v (hv hqn)
      rw [hm0, show k + E.off + 3 * q = E.off + (q * 3 + j) by omega]
      exact this
    split at h <;> try (cases h; done)
    · rename_i hrow _
      cases h
      exact cellW _ _ 0 hrow rfl (fun _ => rfl) fun hqn => (in_den hg h2 hq hqn).1
    · rename_i hrow _
      cases h
      exact cellW _ _ 1 hrow rfl (fun _ => rfl) fun hqn => (in_den hg h2 hq hqn).2.1
    · rename_i hrow _
      cases h
      exact cellW _ _ 2 hrow rfl (fun _ => rfl) fun hqn => (in_den hg h2 hq hqn).2.2
    · rename_i hrow _
      split at h <;> cases h
      rename_i h3s
      have h3s := Nat.eq_of_beq_eq_true h3s
      refine needC_ok fun g => ?_
      obtain ⟨hqn, hc⟩ := key g
      rw [hex, hv1]
      obtain ⟨y1, y2, y3⟩ := in_den hg h2 (ρ := ρ) hq hqn
      refine Good.value d (val := .agg (E.at' q).cells.toArray) (run_loadAt_mid w b' mm t (E.at' q).cells ti.desc (fun j v hj => ?_) hu hrow (by rw [hii]; simp [hsz, h3s, PgIn.cells])) ?_
      · rw [hm0, show 0 + E.off + 3 * q + j = E.off + (q * 3 + j) by omega]
        exact hc j v hj
      · simp only [SV.Den]
        exact ⟨_, denL_cons'.2 ⟨y1, denL_cons'.2 ⟨y2, denL_cons'.2 ⟨y3, by simp⟩⟩⟩, rfl⟩
end
end Go.Proofs.YtnoiijjkjcklpaaGreat
/- Two lists of pages, as runs see them; strings of bytes. -/
namespace Go.Proofs.YtnoiijjkjcklpaaGreat
open Go Go.Sx Go.RowKit Go.Cd Go.MapKept
set_option linter.unusedSimpArgs false
set_option linter.unusedVariables false
structure InV (V : Val) (m : MM) (E : PgEnv) (tag f0 : Nat) : Prop where
  abs : ∀ ks rs b F w, (V.abs tag ks rs).P b F w → InP E b F w
  fb : V.fi f0 [0] = E.b
  fo : V.fi (f0 + 1) [0] = E.off
  fl : V.fi (f0 + 2) [0] = E.L.length
  fr : V.fi (f0 + 10) [] = E.off
  gb : ∀ i, V.fi (f0 + 6) [i] = (E.at' i).blk
  go : ∀ i, V.fi (f0 + 7) [i] = (E.at' i).ofs
  gl : ∀ i, V.fi (f0 + 8) [i] = (E.at' i).bs.length
  n : ∀ i, V.fi 71 [i] = m.num i
  r : ∀ k, V.fi 51 [k] = m.rt k
  pg : PgsOf m E.L
  ok : m.Ok
def lenT (f0 : Nat) : Tm := .fn .i64 (f0 + 2) (.cons (.lit 0) .nil)
def ltT (f0 : Nat) (i : Tm) : SB := SI.cmp .lt (SI.ofTm i) (.sym (lenT f0))
def in2Ax (P : Program) (hl tag f0 : Nat) : Ax := fun look id o xs => match o, xs with
  | .indexAddr t _ _, some [.slp f (.lit 0), .int _ i] => match Nat.beq f f0, look hl, slice3 P t with
    | true, some (.abs tg _ _), true => match Nat.beq tg tag with
      | true => some (needC (leC (.lit 0) i) (needC (SI.cmp .lt i (.sym (lenT f0))) (.val (.ptr hl (.raw 0 3 rawL (f0 + 10) i.tm)) [] [])))
      | false => none
    | _, _, _ => none
  | .load t _, some [.ptr h (.raw k 3 9223372036854775808 f i)] => match Nat.beq h hl, Nat.beq f (f0 + 10), look hl, tyOf P t with
    | true, true, some (.abs tg _ _), some ti => match Nat.beq tg tag, ti.desc.isRow, k with
      | true, false, 0 => some (needC (ltT f0 i) (.val (.int .i64 (.sym (inN true i))) [] []))
      | true, false, 1 => some (needC (ltT f0 i) (.val (.int .i64 (.sym (inR true i))) [] []))
      | true, false, 2 => some (needC (ltT f0 i) (.val (.slp (f0 + 6) i) [] []))
      | _, _, _ => none
    | _, _, _, _ => none
  | _, _ => none
theorem in2Ax_safe (P : Program) (hl tag f0 : Nat) : AxSafe (in2Ax P hl tag f0) := fun look id o => by cases o <;> rfl
section
variable {V : Val} {m : MM} {E : PgEnv} {tag f0 : Nat}
theorem lenT_v (h : InV V m E tag f0) : @Tm.v V (lenT f0) = E.L.length := by
  show IntKind.i64.wrap (V.fi (f0 + 2) [0]) = _
  rw [h.fl]
  have := h.ok.few
  have := h.pg.len
  exact wrap_i64_small (by omega) (by omega)
theorem in2_den (hI : InV V m E tag f0) {w : World} (hE : ∀ x ∈ E.L, x.Ok w) {ρ : Env} {i : Tm} {q : Nat} (hq : @Tm.v V i = q) (hlt : q < E.L.length) :
    @SV.Den V ρ (.int .i64 (.sym (inN true i))) (.int .i64 (E.at' q).n) ∧ @SV.Den V ρ (.int .i64 (.sym (inR true i))) (.int .i64 (E.at' q).r) ∧
    @SV.Den V ρ (.slp (f0 + 6) i) (.slice (E.at' q).p (E.at' q).bs.length (E.at' q).cap) := by
  have hat := at_get (E := E) (i := (q : Int)) rfl hlt
  have hok := hE _ (List.mem_of_getElem? hat)
  obtain ⟨n1, n2⟩ := hok.n
  obtain ⟨l1, l2⟩ := hok.len
  obtain ⟨p1, p2, p3, p4⟩ := hI.pg.at' q _ hat
  refine ⟨?_, ?_, ?_⟩
  · simp only [SV.Den, SI.sym_v]
    show _ = Value.int .i64 (IntKind.i64.wrap (V.fi 71 [@Tm.v V i]))
    rw [hI.n, hq, ← p1, wrap_i64_small n1 (by omega)]
  · simp only [SV.Den, SI.sym_v]
    show _ = Value.int .i64 (IntKind.i64.wrap (V.fi 51 [IntKind.i64.wrap (V.fi 71 [@Tm.v V i])]))
    rw [hI.n, hq, ← p1, wrap_i64_small n1 (by omega), hI.r, hI.ok.rt, p1, p2]
  · simp only [SV.Den]
    refine ⟨(E.at' q).p, (E.at' q).bs.length, (E.at' q).cap, rfl, ?_, ?_⟩
    · show IntKind.i64.wrap (V.fi (f0 + 8) [@Tm.v V i]) = _
      rw [hI.gl, hq]; exact wrap_i64_small (by omega) (by omega)
    · rcases hok.bytes with h | ⟨b, off, h1, h2, h3⟩
      · left; rw [h]; rfl
      · right
        rw [h1, hI.gb, hI.go, hq, Int.toNat_natCast, Int.toNat_natCast]
        unfold PgIn.blk PgIn.ofs
        rw [h1]
theorem in2Ax_ok (hI : InV V m E tag f0) (P : Program) (hl : Nat) : @AxOk V P (in2Ax P hl tag f0) := by
  intro look id o xs out h ρ X w0 w fresh e op ho hxs d hid hid1
  have hlen := lenT_v hI
  unfold in2Ax at h
  split at h <;> try (cases h; done)
  · rename_i t a0 i0 f kk i heq
    cases heq
    split at h <;> try (cases h; done)
    rename_i tg a r hf hlk hs3
    have hf := Nat.eq_of_beq_eq_true hf; subst hf
    split at h <;> cases h
    rename_i htg
    have htg := Nat.eq_of_beq_eq_true htg; subst htg
    obtain ⟨el, te, u1, u2, u3⟩ := @slice3_ok V _ _ hs3
    refine needC_ok fun g1 => needC_ok fun g2 => ?_
    have g1 := leC_v g1
    have g2 := ltC_v g2
    simp only [SI.lit_v, SI.sym_v, hlen] at g1 g2
    obtain ⟨d1, d2⟩ := den2 hxs
    simp only [SV.Den] at d1 d2
    obtain ⟨p, n, c, hv1, hn, hp⟩ := d1
    have hn : (E.L.length : Int) = n := by
      have : @Tm.v V (lenT f) = (n : Int) := hn
      rw [← this]; exact hlen.symm
    have d0 := d
    obtain ⟨φ, dd⟩ := d0
    obtain ⟨b, hb, rs, _, hA⟩ := dd.obj _ _ hlk
    obtain ⟨h1, h2, h3⟩ := hI.abs _ _ _ _ _ hA
    have hne : E.L ≠ [] := fun e0 => by rw [e0] at g2; simp at g2; omega
    rcases h1 with h1 | ⟨rfl, q2, q3⟩
    · exact absurd h1 hne
    have hp : p = some ⟨E.b, E.off, none⟩ := by
      rcases hp with hp | hp
      · omega
      · have e0 : @Tm.v V (.lit 0) = 0 := rfl
        rw [hp, e0, hI.fb, hI.fo, Int.toNat_natCast, Int.toNat_natCast]
    subst hp
    have hex : execOp e op = (do pure (.value (← Instr.indexAt t (e a0) (e i0)))) := by
      obtain ⟨dst, op', ty, pos, after, guard⟩ := op
      dsimp only at ho; subst ho
      rfl
    rw [hex, hv1, d2]
    refine Good.value d (val := .pointer (some ⟨E.b, E.off + (@SI.v V i).toNat * te.size, none⟩)) ?_ ?_
    · simp only [Instr.indexAt, asIntOf, Sem.run_bind, Sem.run_pure, Result.andThen_ok, run_underlying u1]
      rw [if_pos ⟨g1, by omega⟩]
      simp only [Sem.run_bind, Sem.run_pure, Result.andThen_ok, run_sizeOf' u2, add_mk]
    · simp only [SV.Den, SOff.Den]
      refine ⟨E.b, _, hb, ⟨?_, by rw [SI.tm_v]; exact g1, by rw [SI.tm_v]; show _ < 9223372036854775808; have := hI.ok.few; have := hI.pg.len; omega⟩, rfl⟩
      rw [SI.tm_v, u3, hI.fr, Int.toNat_natCast]; omega
  · rename_i t a hh k f i heq
    cases heq
    split at h <;> try (cases h; done)
    rename_i tg a1 r ti hhl hf hlk hti
    have hhl := Nat.eq_of_beq_eq_true hhl; subst hhl
    have hf := Nat.eq_of_beq_eq_true hf; subst hf
    obtain ⟨ii, hii, hu, hsz, _, _⟩ := @tyOf_spec V _ _ _ hti
    have d1 := den1 hxs
    simp only [SV.Den, SOff.Den] at d1
    obtain ⟨b, mm, hb, ⟨hm0, hi0, _⟩, hv1⟩ := d1
    have d0 := d
    obtain ⟨φ, dd⟩ := d0
    obtain ⟨b', hb', rs, _, hA⟩ := dd.obj _ _ hlk
    obtain rfl : b' = b := by rw [hb] at hb'; injection hb' with q; exact q.symm
    obtain ⟨q, hq⟩ := Int.eq_ofNat_of_zero_le hi0
    have hm0 : mm = k + E.off + 3 * q := by
      rw [hm0, hq, hI.fr, Int.toNat_natCast, Int.toNat_natCast]
    have hex : execOp e op = (do pure (.value (← Instr.loadAt t (e a)))) := ex_load ho
    have cellW : tg = tag → ∀ (s : SV) (v : Value) (j : Nat), ti.desc.isRow = false → k = j → (q < E.L.length → (E.at' q).cells[j]? = some v) → (∀ hE : (∀ x ∈ E.L, x.Ok w), q < E.L.length → @SV.Den V ρ s v) → @OGood V P ρ X w0 look fresh id (needC (ltT f0 i) (.val s [] [])) (execOp e op) w := fun htg s v j hrow hkj hv hs => by
      subst htg
      obtain ⟨h1, h2, h3⟩ := hI.abs _ _ _ _ _ hA
      refine needC_ok fun g => ?_
      have g := ltC_v g
      simp only [SI.ofTm_v, SI.sym_v, hlen, hq] at g
      have hqn : q < E.L.length := by omega
      rcases h1 with h1 | ⟨_, q2, q3⟩
      · rw [h1] at hqn; simp at hqn
      rw [hex, hv1]
      refine Good.value d (run_loadAt_cell hu hrow (v := v) ?_) (hs h2 hqn)
      have := q3 q _ (at_get rfl hqn) j v (hv hqn)
      rw [hm0, show k + E.off + 3 * q = E.off + (q * 3 + j) by omega]
      exact this
    split at h <;> try (cases h; done)
    · rename_i htg hrow _
      cases h
      exact cellW (Nat.eq_of_beq_eq_true htg) _ _ 0 hrow rfl (fun _ => rfl) fun hE hqn => (in2_den hI hE hq hqn).1
    · rename_i htg hrow _
      cases h
      exact cellW (Nat.eq_of_beq_eq_true htg) _ _ 1 hrow rfl (fun _ => rfl) fun hE hqn => (in2_den hI hE hq hqn).2.1
    · rename_i htg hrow _
      cases h
      exact cellW (Nat.eq_of_beq_eq_true htg) _ _ 2 hrow rfl (fun _ => rfl) fun hE hqn => (in2_den hI hE hq hqn).2.2
theorem isBytes_desc {P : Program} {t e : TypeId} {te : TyI} (h : isBytes P t = some (e, te)) : te.desc = .int .u8 := by
  unfold isBytes at h
  split at h <;> try (cases h; done)
  split at h <;> try (cases h; done)
  split at h <;> try (cases h; done)
  split at h <;> try (cases h; done)
  rename_i h1 h2 h3 h4
  split at h <;> cases h
  exact h1
def strAx (P : Program) (hl tag f0 : Nat) : Ax := fun look id o xs => match o, xs with
  | .convert s t _, some [.slp f i] => match Nat.beq f (f0 + 6), look hl, isBytes P s, tyOf P t with
    | true, some (.abs tg _ _), some _, some ti => match Nat.beq tg tag, ti.desc with
      | true, .string => some (needC (leC (.lit 0) (SI.ofTm i)) (needC (ltT f0 i) (.val (.stp 53 i) [] [])))
      | _, _ => none
    | _, _, _, _ => none
  | _, _ => none
theorem strAx_safe (P : Program) (hl tag f0 : Nat) : AxSafe (strAx P hl tag f0) := fun look id o => by cases o <;> rfl
theorem strAx_ok (hI : InV V m E tag f0) (h53 : ∀ i j, V.fi 53 [i, j] = m.bt (m.num i) j) (P : Program) (hl : Nat) : @AxOk V P (strAx P hl tag f0) := by
  intro look id o xs out h ρ X w0 w fresh e op ho hxs d hid hid1
  have hlen := lenT_v hI
  unfold strAx at h
  split at h <;> try (cases h; done)
  rename_i s t a f i heq
  cases heq
  split at h <;> try (cases h; done)
  rename_i tg a1 r p ti hf hlk hby hti
  have hf := Nat.eq_of_beq_eq_true hf; subst hf
  split at h <;> cases h
  rename_i htg hd
  have htg := Nat.eq_of_beq_eq_true htg; subst htg
  obtain ⟨el, te⟩ := p
  obtain ⟨u1, u2, u3, u4, u5⟩ := @isBytes_ok V _ _ _ _ hby
  obtain ⟨_, _, hu, _, _, _⟩ := @tyOf_spec V _ _ _ hti
  rw [hd] at hu
  refine needC_ok fun g1 => needC_ok fun g2 => ?_
  have g1 := leC_v g1
  have g2 := ltC_v g2
  simp only [SI.lit_v, SI.sym_v, SI.ofTm_v, hlen] at g1 g2
  obtain ⟨q, hq⟩ := Int.eq_ofNat_of_zero_le g1
  have hqn : q < E.L.length := by omega
  have d0 := d
  obtain ⟨φ, dd⟩ := d0
  obtain ⟨b, hb, rs, _, hA⟩ := dd.obj _ _ hlk
  obtain ⟨h1, h2, h3⟩ := hI.abs _ _ _ _ _ hA
  have hat := at_get (E := E) (i := (q : Int)) rfl hqn
  have hok := h2 _ (List.mem_of_getElem? hat)
  obtain ⟨p1, p2, p3, p4⟩ := hI.pg.at' q _ hat
  have d1 := den1 hxs
  simp only [SV.Den] at d1
  obtain ⟨pp, n, c, hv1, hn, hpp⟩ := d1
  have hn : n = 256 := by
    have h5 : IntKind.i64.wrap (V.fi (f0 + 8) [@Tm.v V i]) = (n : Int) := hn
    rw [hI.gl, hq, p3] at h5
    have : (256 : Int) = n := h5
    omega
  subst hn
  obtain ⟨b3, off3, y1, y2, y3⟩ : ∃ b off, (E.at' (q : Int)).p = some ⟨b, off, none⟩ ∧ b < w.heap.size ∧ ICells .u8 w b off (E.at' (q : Int)).bs := by
    rcases hok.bytes with h0 | h0
    · rw [h0] at p3; simp at p3
    · exact h0
  have hpe : pp = some ⟨b3, off3, none⟩ := by
    rcases hpp with h | h
    · omega
    · rw [h, hI.gb, hI.go, hq, Int.toNat_natCast, Int.toNat_natCast]
      unfold PgIn.blk PgIn.ofs
      rw [y1]
  subst hpe
  have hex : execOp e op = (do pure (.value (← convert s t (e a)))) := by
    obtain ⟨dst, op', ty, pos, after, guard⟩ := op
    dsimp only at ho; subst ho
    rfl
  have hel : P.underlying el = some (.int .u8) := by
    obtain ⟨_, _, hu2, _, _, _⟩ := @tyOf_spec V _ _ _ u2
    rw [isBytes_desc hby] at hu2
    exact hu2
  rw [hex, hv1]
  refine Good.value d (run_convert_bytes_arg w s el u1 hel b3 off3 256 c (E.at' (q : Int)).bs p3 (fun j hj => (y3 j (by omega)).1) t hu) ?_
  simp only [SV.Den]
  congr 1
  unfold strOfNums strF
  congr 2
  refine List.ext_getElem (by simp [p3]) fun j q1 q2 => ?_
  simp only [List.getElem_map, List.getElem_range]
  have hj : j < 256 := by simpa using q2
  rw [h53, hq, ← p4 j hj, List.getD_eq_getElem?_getD, List.getElem?_eq_getElem (by omega)]
  rfl
def steAx : Ax := fun look id o xs => match o, xs with
  | .binOp .neq t _ _ _, some [.stp f i, .stp g j] => match Nat.beq f g, Tm.same i j with
    | true, true => some (.val (.bool (.lit false)) [] [])
    | _, _ => none
  | _, _ => none
theorem steAx_safe : AxSafe steAx := fun look id o => by
  cases o <;> try rfl
  rename_i op t x y yt
  cases op <;> rfl
theorem steAx_ok [Val] (P : Program) : AxOk P steAx := by
  intro look id o xs out h ρ X w0 w fresh e op ho hxs d hid hid1
  unfold steAx at h
  split at h <;> try (cases h; done)
  rename_i t x y yt f i g j heq
  cases heq
  split at h <;> cases h
  rename_i hf hs
  have hf := Nat.eq_of_beq_eq_true hf; subst hf
  have hs := Tm.same_eq hs; subst hs
  obtain ⟨d1, d2⟩ := den2 hxs
  simp only [SV.Den] at d1 d2
  have hex : execOp e op = (do pure (.value (← (do eqGuard .neq t x y (e x) (e y); binOp .neq t (e x) (e y))))) := by
    obtain ⟨dst, op', ty, pos, after, guard⟩ := op
    dsimp only at ho; subst ho
    rfl
  rw [hex, d1, d2]
  refine Good.value d (val := .bool false) ?_ (by simp [SV.Den])
  rw [eqGuard_at_string]
  simp [binOp, Op.stringOp, ByteArray.toList_eq]
end
end Go.Proofs.YtnoiijjkjcklpaaGreat
/- A page appended to a list of pages. -/
namespace Go.Proofs.YtnoiijjkjcklpaaGreat
open Go Go.Sx Go.RowKit Go.Cd Go.MapKept
set_option linter.unusedSimpArgs false
set_option linter.unusedVariables false
theorem looks_snoc : ∀ (us vs : List Upd) (l : Look), looks (us ++ vs) l = looks vs (looks us l)
  | [], _, _ => rfl
  | u :: us, vs, l => looks_snoc us vs (u.look l)
def isPgs (P : Program) (t : TypeId) : Option TyI := match tyOf P t with
  | some ti => match ti.desc with
    | .slice e => match Nat.beq e pgT, tyOf P e with
      | true, some te => match te.zero, Nat.beq te.size 3, Nat.ble te.bytes 64 with
        | some z, true, true => match Nat.beq z.cells.length 3 with
          | true => some te
          | false => none
        | _, _, _ => none
      | _, _ => none
    | _ => none
  | none => none
theorem isPgs_ok [Val] {P : Program} {t : TypeId} {te : TyI} (h : isPgs P t = some te) : P.underlying t = some (.slice pgT) ∧ tyOf P pgT = some te ∧ te.size = 3 ∧ te.bytes ≤ 64 ∧ ∃ i z, P.info? pgT = some i ∧ i.zero = some z ∧ i.bytes = te.bytes ∧ z.cells.size = te.size := by
  unfold isPgs at h
  split at h <;> try cases h
  rename_i ti hti
  obtain ⟨_, _, hu, _, _, _⟩ := tyOf_spec hti
  split at h <;> try cases h
  rename_i e hd
  rw [hd] at hu
  split at h <;> try cases h
  rename_i te' he hte
  have he := Nat.eq_of_beq_eq_true he; subst he
  split at h <;> try cases h
  rename_i z hz hs hb
  split at h <;> cases h
  rename_i hc
  obtain ⟨j, hj, _, hsj, hbj, hzz⟩ := tyOf_spec hte
  obtain ⟨zv, hz1, hz2⟩ := hzz z hz
  have hcd : SV.DenL (fun _ => none) z.cells zv.cells.toList := cells_den hz2
  have := denL_length hcd
  have hs := Nat.eq_of_beq_eq_true hs
  have hc := Nat.eq_of_beq_eq_true hc
  exact ⟨hu, hte, hs, Nat.le_of_ble_eq_true hb, j, zv, hj, hz1, hbj, by simp at this; omega⟩
def laOut (id : Nat) (n r : SI) (q k : Tm) (us : List Upd) : OOut :=
  needC (SI.cmp .eq n (.sym (.fn .i64 71 (.cons k .nil)))) (needC (SI.cmp .eq r (.sym (.fn .i64 51 (.cons n.tm .nil)))) (needC (SI.cmp .eq n (SI.ofTm q)) (needC (leC (.lit 0) (SI.ofTm k)) (needC (SI.cmp .lt (SI.ofTm k) (.sym nPgs))
    (.val (.sl id (.lit 0) (.sym (SI.op (.add .i64) (SI.ofTm k) (.lit 1)).tm) (.env (id + 1))) (us ++ [.ins id (.abs 85 (.cons (SI.op (.add .i64) (SI.ofTm k) (.lit 1)).tm .nil) [id + 1])]) [])))))
def laAx (P : Program) : Ax := fun look id o xs => match o, xs with
  | .call c, some [s, .sl h (.lit 0) (.lit 1) (.lit 1)] => match c.callee, c.argTypes.toList with
    | .builtin .append, [t, u] => match look h, isPgs P t, notInt P u with
      | some (.cells [.int .i64 n, .int .i64 r, .sl j (.lit 0) (.lit 256) (.env _)] _), some _, true => match look j, s with
        | some (.abs 62 (.cons q .nil) _), .nils => some (laOut id n r q (.lit 0) [.del j])
        | some (.abs 62 (.cons q .nil) _), .sl g (.lit 0) (.sym k) (.env cc) => match look g with
          | some (.abs 85 (.cons k' .nil) [cc']) => match Nat.beq cc cc' with
            | true => some (needC (SI.cmp .eq (SI.ofTm k) (SI.ofTm k')) (laOut id n r q k [.del g, .del j]))
            | _ => none
          | _ => none
        | _, _ => none
      | _, _, _ => none
    | _, _ => none
  | _, _ => none
theorem laAx_safe (P : Program) : AxSafe (laAx P) := fun look id o => by cases o <;> rfl
section
variable {m : MM} {E : PgEnv} {ints : Nat → Int} {bools : Nat → Bool}
theorem nPgs_pv (hm : m.Ok) : @Tm.v (pgVal m E ints bools) nPgs = m.keys.length := by
  show IntKind.i64.wrap ((m.keys.length : Nat) : Int) = _
  have := hm.few
  exact wrap_i64_small (by omega) (by omega)
theorem lst_new {k : Nat} {w w' : World} {F : Nat → Prop} {b' κ' cap c : Nat} {cs vs cs' : List Value} {bb cp : Nat → Nat} {ps : Array Value} (f2 : w.heap[c]? = some (.cells ps byteT)) (f3 : ∀ j : Nat, j < 256 → ps[j]? = some (.int .u8 (m.bt (m.num k) j))) (hcap : 256 ≤ cap) (hvs : vs = [.int .i64 (m.num k), .int .i64 (m.rt (m.num k)), .slice (some ⟨c, 0, none⟩) 256 cap])
    (hat : w'.heap[b']? = some (.cells cs'.toArray pgT)) (hlen : cs'.length = κ' * 3) (hroom : k + 1 ≤ κ') (hold : ∀ j, j < k * 3 → cs'[j]? = cs[j]?) (hnew : ∀ j, j < 1 * 3 → cs'[k * 3 + j]? = vs[j]?)
    (hrow : ∀ i, i < k → cs[i * 3]? = some (.int .i64 (m.num i)) ∧ cs[i * 3 + 1]? = some (.int .i64 (m.rt (m.num i))) ∧ cs[i * 3 + 2]? = some (.slice (some ⟨bb i, 0, none⟩) 256 (cp i)))
    (hby : ∀ i, i < k → 256 ≤ cp i ∧ ∃ ps, w.heap[bb i]? = some (.cells ps byteT) ∧ ∀ j : Nat, j < 256 → ps[j]? = some (.int .u8 (m.bt (m.num i) j))) (hinj : ∀ i j, i < k → j < k → bb i = bb j → i = j)
    (hbb : ∀ i, i < k → w'.heap[bb i]? = w.heap[bb i]?) (hc' : w'.heap[c]? = w.heap[c]?) (hbb' : ∀ i, i < k → bb i ≠ b') (hcb' : c ≠ b') (hcbb : ∀ i, i < k → bb i ≠ c) (hFb : F b' ∨ w.heap.size ≤ b') (hFbb : ∀ i, i < k → F (bb i)) :
    ∃ F', LstP m (k + 1) [κ'] b' F' w' ∧ ∀ x, F' x → F x ∨ x = c ∨ w.heap.size ≤ x := by
  refine ⟨fun x => x = b' ∨ ∃ i, i < k + 1 ∧ x = if i < k then bb i else c, ⟨fun i => if i < k then bb i else c, fun i => if i < k then cp i else cap, cs', κ', hat, hlen, hroom, fun q hq => by cases hq; rfl, fun i hi => ?_, fun i hi => ?_, fun i j hi hj e => ?_, fun i hi => ?_, fun x => Iff.rfl⟩, fun x hx => ?_⟩
  · by_cases hik : i < k
    · simp only [hik, if_true]
      obtain ⟨r1, r2, r3⟩ := hrow i hik
      exact ⟨(hold _ (by omega)).trans r1, (hold _ (by omega)).trans r2, (hold _ (by omega)).trans r3⟩
    · have hik' : i = k := by omega
      subst hik'
      simp only [Nat.lt_irrefl, if_false]
      rw [hvs] at hnew
      exact ⟨hnew 0 (by omega), hnew 1 (by omega), hnew 2 (by omega)⟩
  · by_cases hik : i < k
    · simp only [hik, if_true]
      obtain ⟨q1, ps', q2, q3⟩ := hby i hik
      exact ⟨q1, ps', (hbb i hik).trans q2, q3⟩
    · have hik' : i = k := by omega
      subst hik'
      simp only [Nat.lt_irrefl, if_false]
      exact ⟨hcap, ps, hc'.trans f2, f3⟩
  · by_cases h1 : i < k <;> by_cases h2 : j < k
    · simp only [h1, h2, if_true] at e; exact hinj i j h1 h2 e
    · simp only [h1, h2, if_true, if_false] at e; exact absurd e (hcbb i h1)
    · simp only [h1, h2, if_true, if_false] at e; exact absurd e.symm (hcbb j h2)
    · omega
  · by_cases hik : i < k
    · simp only [hik, if_true]; exact hbb' i hik
    · simp only [hik, if_false]; exact hcb'
  · rcases hx with rfl | ⟨i, hi, rfl⟩
    · rcases hFb with h | h
      · exact .inl h
      · exact .inr (.inr h)
    · by_cases hik : i < k
      · simp only [hik, if_true]; exact .inl (hFbb i hik)
      · simp only [hik, if_false]; exact .inr (.inl trivial)
theorem laAx_ok (hm : m.Ok) (P : Program) : letI := pgVal m E ints bools; AxOk P (laAx P) := by
  letI := pgVal m E ints bools
  intro look id o xs out h ρ X w0 w fresh e op ho hxs d hid hid1
  unfold laAx at h
  split at h <;> try (cases h; done)
  rename_i c s hh heq
  cases heq
  split at h <;> try (cases h; done)
  rename_i t u hcal htys
  split at h <;> try (cases h; done)
  rename_i n r j cj T te hl hpg hni
  obtain ⟨u1, u2, u3, u4, ii, z, z1, z2, z3, z4⟩ := isPgs_ok hpg
  have hni := notInt_run hni
  obtain ⟨dst, op', ty, pos, after, guard⟩ := op
  dsimp only at ho; subst ho
  obtain ⟨callee, cargs, ctys⟩ := c
  dsimp only at hcal; subst hcal
  have hct : ctys = #[t, u] := by rw [← Array.toArray_toList (xs := ctys), show ctys.toList = [t, u] from htys]
  subst hct
  rw [show (Op.call ⟨.builtin .append, cargs, #[t, u]⟩).operands.toList = cargs.toList by simp [Op.operands, Call.operands]] at hxs
  obtain ⟨v1, _, e1, h1, r1⟩ := denL_cons.1 hxs
  obtain ⟨v2, _, e2, h2, r2⟩ := denL_cons.1 r1
  rw [denL_nil] at r2
  subst e2 r2
  have hargs : cargs.map e = #[v1, v2] := by apply Array.ext'; simpa using e1
  simp only [SV.Den, SN.Den, SOff.Den] at h2
  obtain ⟨bh, _, _, _, hbh, rfl, rfl, rfl, _, rfl⟩ := h2
  obtain ⟨bh', oh, hbh', hoh, vs, hvs, rfl⟩ := d.at hl rfl
  obtain rfl : bh' = bh := by rw [hbh] at hbh'; injection hbh' with q; exact q.symm
  obtain ⟨x0, _, rfl, y0, s0⟩ := denL_cons.1 hvs
  obtain ⟨x1, _, rfl, y1, s1⟩ := denL_cons.1 s0
  obtain ⟨x2, _, rfl, y2, s2⟩ := denL_cons.1 s1
  rw [denL_nil] at s2
  subst s2
  simp only [SV.Den, SN.Den, SOff.Den] at y0 y1 y2
  obtain ⟨cb, _, _, cap, hcb, rfl, rfl, hcap, hcap2, rfl⟩ := y2
  subst y0 y1
  have hfirst : ∀ dr, (Builtin.firstCells te.size 1 (.slice (some ⟨bh', 0, none⟩) 1 1)).run P { w with drawn := dr } = .ok ([.int .i64 n.v, .int .i64 r.v, .slice (some ⟨cb, 0, none⟩) 256 cap] : List Value).toArray { w with drawn := dr } := fun dr => by
    rw [u3]
    refine run_firstCells_some (P := P) _ 3 1 ⟨bh', 0, none⟩ 1 1 _ rfl fun i v hi => ?_
    rw [add_mk, Nat.zero_add]
    exact cell_of_heap (w := { w with drawn := dr }) hoh (by simpa using hi)
  have hone : ∀ v ∈ ([.int .i64 n.v, .int .i64 r.v, .slice (some ⟨cb, 0, none⟩) 256 cap] : List Value), v.oneCell' = true := fun v hv => by
    simp only [List.mem_cons, List.not_mem_nil, or_false] at hv
    rcases hv with rfl | rfl | rfl <;> rfl
  have hex : execOp e ⟨dst, .call ⟨.builtin .append, cargs, #[t, u]⟩, ty, pos, after, guard⟩ = (do pure (.value (← Builtin.append_ #[t, u] ty (cargs.map e)))) := rfl
  have hnp : nPgs.v = m.keys.length := nPgs_pv hm
  have hfew := hm.few
  have hidn : look id = none := d.fresh_look hid
  -- both ways
  have fin : ∀ (q k : Tm) (us : List Upd) (G : Nat → Prop) (κ : Nat) (cs : List Value), (byAt : ∃ r, look j = some (.abs 62 (.cons q .nil) r)) → G j → (∀ i, G i → ∃ o, look i = some o ∧ o.frz = false) →
      (∀ i, i ≠ id → ∀ o, looks us look i = some o → look i = some o ∧ ¬ G i) →
      (∀ k0 : Nat, k.v = k0 → (v1 = .slice none 0 0 ∧ k0 = 0 ∧ κ = 0 ∧ ∀ i, G i → i = j) ∨ ∃ g gr, G g ∧ g ≠ j ∧ (∀ i, G i → i = g ∨ i = j) ∧ ∃ b, ρ g = some b ∧ v1 = .slice (some ⟨b, 0, none⟩) k0 κ ∧ (∀ φ, DenHφ φ ρ X w0 look fresh w → LstP m k0 gr b (φ g) w) ∧ w.heap[b]? = some (.cells cs.toArray pgT) ∧ cs.length = κ * 3 ∧ k0 ≤ κ) →
      OGood P ρ X w0 look fresh id (laOut id n r q k us) (execOp e ⟨dst, .call ⟨.builtin .append, cargs, #[t, u]⟩, ty, pos, after, guard⟩) w := by
    intro q k us G κ cs hby hGj hG hus hv
    unfold laOut
    refine needC_ok fun g1 => needC_ok fun g2 => needC_ok fun g3 => needC_ok fun g4 => needC_ok fun g5 => ?_
    have g1 := eqC_v g1
    have g2 := eqC_v g2
    have g3 := eqC_v g3
    have g4 := leC_v g4
    have g5 := ltC_v g5
    simp only [SI.ofTm_v, SI.lit_v, SI.sym_v, hnp] at g1 g2 g3 g4 g5
    obtain ⟨k0, hk0⟩ := Int.eq_ofNat_of_zero_le g4
    have hk0l : k0 < m.keys.length := by omega
    have hnum : n.v = m.num k0 := by
      rw [g1]
      show IntKind.i64.wrap (m.num k.v) = _
      rw [hk0]
      have := hm.num _ (num_mem (m := m) hk0l)
      exact wrap_i64_small (by omega) (by omega)
    have hrt : r.v = m.rt (m.num k0) := by
      rw [g2]
      show IntKind.i64.wrap (m.rt n.tm.v) = _
      rw [SI.tm_v, hnum, hm.rt]
    have hadd : (SI.op (.add .i64) (SI.ofTm k) (.lit 1)).v = ((k0 + 1 : Nat) : Int) := by
      rw [SI.op_v, SI.ofTm_v, SI.lit_v, hk0]
      show IntKind.i64.wrap ((k0 : Int) + 1) = _
      rw [wrap_i64_small (by omega) (by omega)]; omega
    have hv := hv k0 hk0
    obtain ⟨b', κ', cs', w', hr, hao⟩ := run_app_any (P := P) (w := w) (ty := ty) (sv := v1) (κ := κ) (n := k0) (k := 1) (cs := cs) u1 hni u2 z1 z2 z3 z4 (by
      rcases hv with ⟨a1, a2, a3, _⟩ | ⟨g, gr, _, _, _, b, _, a1, _, a2, a3, _⟩
      · exact .inl ⟨a1, a2, a3⟩
      · exact .inr ⟨b, a1, a2, by rw [u3]; exact a3⟩) (by
      rcases hv with ⟨_, a2, a3, _⟩ | ⟨g, gr, _, _, _, b, _, _, _, _, _, a4⟩
      · omega
      · exact a4) (by rw [u3]; rfl) hone (Nat.le_refl _) (by simp [Builtin.lenOf]) hfirst (by
        have : (k0 + 1) * te.bytes ≤ 2001 * 64 := Nat.mul_le_mul (by omega) u4
        omega) (by omega)
    rw [u3] at hao
    rw [hex, hargs]
    have hle : ρ.le ((ρ.put id b').put (id + 1) κ') := Env.le_trans (Env.le_put _ (d.newName hid)) (Env.le_put _ (by rw [Env.put_other _ _ (by omega)]; exact d.newName hid1))
    have e1' : ((ρ.put id b').put (id + 1) κ') id = some b' := by rw [Env.put_other _ _ (by omega), Env.put_same]
    have e2' : ((ρ.put id b').put (id + 1) κ') (id + 1) = some κ' := Env.put_same _ _ _
    refine ⟨.value (.slice (some ⟨b', 0, none⟩) (k0 + 1) κ'), .slice (some ⟨b', 0, none⟩) (k0 + 1) κ', _, w', by simp only [Sem.run_bind, hr, Result.andThen_ok, Sem.run_pure], .inl rfl, hle, ?_, ?_⟩
    · simp only [SV.Den, SN.Den, SOff.Den]
      exact ⟨b', 0, k0 + 1, κ', e1', rfl, by rw [SI.tm_v, hadd], e2', hao.room, rfl⟩
    · refine d.gather G (k := id) (o' := .abs 85 (.cons (SI.op (.add .i64) (SI.ofTm k) (.lit 1)).tm .nil) [id + 1]) hG hle e1' (fun φ dd => ?_) hao.size hao.os hao.tape hao.output (fun i hi o hlo => ?_) (fun o hlo => ?_) fun i hi => ?_
      · obtain ⟨r0, hj0⟩ := hby
        obtain ⟨cb', hcb', rs0, _, hby0⟩ := dd.obj _ _ hj0
        obtain rfl : cb' = cb := by rw [hcb] at hcb'; injection hcb' with q; exact q.symm
        have hby0 : (byA m q.v).P cb' (φ j) w := hby0
        obtain ⟨f1, o0, f2, ps, rfl, f3⟩ := hby0
        have hq : q.v = m.num k0 := by rw [← g3]; exact hnum
        rw [hq] at f3
        have hcsz : cb' < w.heap.size := lt_heap f2
        have pack : (∃ F', LstP m (k0 + 1) [κ'] b' F' w' ∧ ∀ x, F' x → (∃ i, G i ∧ φ i x) ∨ x = cb' ∨ w.heap.size ≤ x) → (∀ x, x < w.heap.size → (∀ i, G i → ¬ φ i x) → w'.heap[x]? = w.heap[x]?) →
            ∃ F', OD ((ρ.put id b').put (id + 1) κ') (.abs 85 (.cons (SI.op (.add .i64) (SI.ofTm k) (.lit 1)).tm .nil) [id + 1]) b' F' w' ∧ (∀ x, F' x → (∃ j, G j ∧ φ j x) ∨ w.heap.size ≤ x) ∧ ∀ x, x < w.heap.size → (∀ j, G j → ¬ φ j x) → w'.heap[x]? = w.heap[x]? := by
          rintro ⟨F', p1, p2⟩ p3
          refine ⟨F', ⟨[κ'], ⟨κ', [], rfl, e2', rfl⟩, ?_⟩, fun x hx => ?_, p3⟩
          · show LstP m (SI.op (.add .i64) (SI.ofTm k) (.lit 1)).tm.v.toNat [κ'] b' F' w'
            rw [SI.tm_v, hadd, Int.toNat_natCast]; exact p1
          · rcases p2 x hx with h | h | h
            · exact .inl h
            · exact .inl ⟨j, hGj, (f1 x).2 h⟩
            · exact .inr h
        rcases hv with ⟨a1, rfl, _, a4⟩ | ⟨g, gr, b1, b2, b3, b, b4, rfl, b6, b7, b8, b9⟩
        · have hw : b' = w.heap.size ∧ ∀ x, x < w.heap.size → w'.heap[x]? = w.heap[x]? := by
            rcases hao.where' with ⟨⟨κ, h⟩, _⟩ | h
            · rw [a1] at h; cases h
            · exact h
          refine pack ?_ fun x hx _ => hw.2 x hx
          obtain ⟨F', p1, p2⟩ := lst_new (m := m) (F := fun _ => False) (bb := fun _ => 0) (cp := fun _ => 0) f2 f3 hcap2 (by rw [hnum, hrt]) hao.at' hao.len hao.room hao.old hao.new (fun i hi => by omega) (fun i hi => by omega) (fun i j hi => by omega) (fun i hi => by omega) (hw.2 _ hcsz) (fun i hi => by omega) (by omega) (fun i hi => by omega) (.inr (by omega)) (fun i hi => by omega)
          exact ⟨F', p1, fun x hx => (p2 x hx).imp (fun h => h.elim) fun h => h⟩
        · have hlst := b6 φ dd
          obtain ⟨bb, cp, cs2, κ2, q1, q2, q3, q4, q5, q6, q7, q8, q9⟩ := hlst
          have hcs2 : cs2 = cs := by rw [b7] at q1; injection q1 with q1; injection q1 with q1; simpa using q1.symm
          subst hcs2
          have hbsz := lt_heap b7
          obtain ⟨og, hog, hogz⟩ := hG g b1
          have hap : ∀ x, φ g x → φ j x → False := fun x hx hx' => b2 (dd.apart g j og _ x hog hj0 hogz hx hx')
          have hfr : ∀ x, x < w.heap.size → ¬ φ g x → w'.heap[x]? = w.heap[x]? := fun x hx hn => by
            rcases hao.where' with ⟨⟨κ', h⟩, hon⟩ | ⟨_, h⟩
            · have : b = b' := by injection h with h; injection h with h; injection h
              refine hon.block x fun e => hn ?_
              rw [e, ← this]; exact (q9 b).2 (.inl rfl)
            · exact h x hx
          have hb' : b' = b ∨ b' = w.heap.size := by
            rcases hao.where' with ⟨⟨κ', h⟩, hon⟩ | ⟨h, _⟩
            · have : b = b' := by injection h with h; injection h with h; injection h
              exact .inl this.symm
            · exact .inr h
          have hbbF : ∀ i, i < k0 → φ g (bb i) := fun i hi => (q9 _).2 (.inr ⟨i, hi, rfl⟩)
          have hbbsz : ∀ i, i < k0 → bb i < w.heap.size := fun i hi => by obtain ⟨_, ps', y, _⟩ := q6 i hi; exact lt_heap y
          refine pack ?_ fun x hx hn => hfr x hx (hn g b1)
          obtain ⟨F', p1, p2⟩ := lst_new (m := m) (F := φ g) (bb := bb) (cp := cp) f2 f3 hcap2 (by rw [hnum, hrt]) hao.at' hao.len hao.room hao.old hao.new q5 q6 q7 (fun i hi => by
              rcases hao.where' with ⟨⟨κ', h⟩, hon⟩ | ⟨_, h⟩
              · have : b = b' := by injection h with h; injection h with h; injection h
                exact hon.block _ (by rw [← this]; exact q8 i hi)
              · exact h _ (hbbsz i hi)) (hfr _ hcsz fun hx => hap _ hx ((f1 _).2 rfl)) (fun i hi => by
              rcases hb' with h | h
              · rw [h]; exact q8 i hi
              · have := hbbsz i hi; omega) (by
              rcases hb' with h | h
              · rw [h]; exact fun e => hap cb' (by rw [e]; exact (q9 b).2 (.inl rfl)) ((f1 _).2 rfl)
              · omega) (fun i hi e => hap (bb i) (hbbF i hi) ((f1 _).2 e)) (by
              rcases hb' with h | h
              · rw [h]; exact .inl ((q9 b).2 (.inl rfl))
              · exact .inr (by omega)) hbbF
          exact ⟨F', p1, fun x hx => (p2 x hx).imp (fun h => ⟨g, b1, h⟩) fun h => h⟩
      · have : looks (us ++ [.ins id (.abs 85 (.cons (SI.op (.add .i64) (SI.ofTm k) (.lit 1)).tm .nil) [id + 1])]) look i = looks us look i := by
          rw [looks_snoc]
          simp only [looks, Upd.look, if_neg hi]
        rw [this] at hlo
        exact hus i hi o hlo
      · have : looks (us ++ [.ins id (.abs 85 (.cons (SI.op (.add .i64) (SI.ofTm k) (.lit 1)).tm .nil) [id + 1])]) look id = some (.abs 85 (.cons (SI.op (.add .i64) (SI.ofTm k) (.lit 1)).tm .nil) [id + 1]) := by
          rw [looks_snoc]
          simp only [looks, Upd.look, if_true]
        rw [this] at hlo
        exact (Option.some.inj hlo).symm
      · rw [Env.put_other _ _ hi.2.2, Env.put_other _ _ hi.2.1]; exact d.newName hi.1
  split at h <;> try (cases h; done)
  · -- the first page
    rename_i q r0 hj0
    cases h
    simp only [SV.Den] at h1
    subst h1
    refine fin q (.lit 0) [.del j] (fun i => i = j) 0 [] ⟨_, hj0⟩ rfl (fun i hi => by subst hi; exact ⟨_, hj0, rfl⟩) (fun i hi o hlo => ?_) fun k0 hk0 => .inl ⟨rfl, ?_, rfl, fun i hi => hi⟩
    · simp only [looks, Upd.look] at hlo
      split at hlo
      · cases hlo
      · exact ⟨hlo, by assumption⟩
    · have : (0 : Int) = k0 := hk0
      omega
  · -- further pages
    rename_i q r0 g k cc hj0
    split at h <;> try (cases h; done)
    rename_i k' cc' hg
    split at h <;> cases h
    rename_i hcc
    have hcc := Nat.eq_of_beq_eq_true hcc; subst hcc
    refine needC_ok fun gk => ?_
    have gk := eqC_v gk
    simp only [SI.ofTm_v] at gk
    simp only [SV.Den, SN.Den, SOff.Den] at h1
    obtain ⟨b, _, k1, κ, hb, rfl, hk1, hκ, hle1, rfl⟩ := h1
    have hgj : g ≠ j := fun e => by rw [e, hj0] at hg; injection hg with hg; injection hg with hg; exact absurd hg (by decide)
    have d0 := d
    obtain ⟨φ0, dd0⟩ := d0
    have lst : ∀ φ, DenHφ φ ρ X w0 look fresh w → LstP m k1 [κ] b (φ g) w := fun φ dd => by
      obtain ⟨b2, hb2, rs2, hrs2, hL⟩ := dd.obj _ _ hg
      obtain rfl : b2 = b := by rw [hb] at hb2; injection hb2 with q; exact q.symm
      obtain ⟨κ2, _, rfl, hκ2, hr3⟩ := hrs2
      have hr3 : _ = [] := hr3
      subst hr3
      obtain rfl : κ2 = κ := by rw [hκ] at hκ2; injection hκ2 with q; exact q.symm
      have hL : LstP m k'.v.toNat [κ2] b2 (φ g) w := hL
      rw [← gk, hk1, Int.toNat_natCast] at hL
      exact hL
    obtain ⟨bb, cp, cs, κ2, q1, q2, q3, q4, q5⟩ := lst φ0 dd0
    obtain rfl := q4 κ rfl
    refine fin q k [.del g, .del j] (fun i => i = g ∨ i = j) κ cs ⟨_, hj0⟩ (.inr rfl) (fun i hi => ?_) (fun i hi o hlo => ?_) fun k0 hk0 => .inr ⟨g, [κ], .inl rfl, hgj, fun i hi => hi, b, hb, ?_, fun φ dd => ?_, q1, q2, ?_⟩
    · rcases hi with rfl | rfl
      · exact ⟨_, hg, rfl⟩
      · exact ⟨_, hj0, rfl⟩
    · simp only [looks, Upd.look] at hlo
      split at hlo
      · cases hlo
      · split at hlo
        · cases hlo
        · rename_i a1 a2
          exact ⟨hlo, fun h => h.elim a2 a1⟩
    · have : k0 = k1 := by omega
      rw [this]
    · have : k0 = k1 := by omega
      rw [this]; exact lst φ dd
    · omega
end
end Go.Proofs.YtnoiijjkjcklpaaGreat
