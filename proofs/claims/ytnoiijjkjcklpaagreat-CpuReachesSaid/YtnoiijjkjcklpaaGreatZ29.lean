/- Parts of the proof: SxMLd, LayKn, SxKn, SxSv. -/
import Derived.Test.YtnoiijjkjcklpaaGreatZ28
import Derived.Shelf.SlIterI.Nil
import Derived.Shelf.SortM.Plain
import Derived.Shelf.SortM.SortNone
import Derived.Test.YtnoiijjkjcklpaaGreatRows
import Derived.Test.YtnoiijjkjcklpaaGreatZ20
import Derived.Test.YtnoiijjkjcklpaaGreatZ21
import Derived.Test.YtnoiijjkjcklpaaGreatZ25
import Derived.Lib.SlKeysI
import Derived.Test.YtnoiijjkjcklpaaGreatZ24
/- mem.Load, of pages. -/
namespace Go.Proofs.YtnoiijjkjcklpaaGreat
open Go Go.Sx Go.RowKit Go.Cd Go.MapKept
set_option linter.unusedSimpArgs false
set_option linter.unusedVariables false
def ldE (P : Program) : Ext := ext P (pureCon noPure) noXt (axOr (inAx P true 0) (axOr (byAx P 0) (lmAx P)))
def ldS0 (P : Program) : SState := match fnOf P 41 with
  | some i => sStart i 41 [.slp 84 (.lit 0)] inEnts 1 (2 ^ 200)
  | none => badS
def ldFs : Facts := [(.cmp .lt (.var .i64 1100) inLen, false)]
def ldH (P : Program) : SState := forgetK [0, 2, 3, 10, 11, 12] [0] (headInvG P (ldE P) 41 1000 1 300 [] 0 1 (ldS0 P))
def ldF (P : Program) : SState := forgetK [0, 2, 3, 6, 61, 62, 63] [0, 21, 23, 27] (headFst P (ldE P) 41 300 ldFs (ldH P))
def ldH2 (P : Program) : SState := forgetK [0, 2, 3, 6, 61, 62, 63] [0, 21, 23, 27] (headInvG P (ldE P) 41 1200 1 300 ldFs 1 1 (ldH P))
def ldCuts (P : Program) : List Cut := [⟨ldS0 P, []⟩, ⟨ldH P, []⟩, ⟨ldF P, []⟩, ⟨ldH2 P, []⟩]
def ldI : Tm := .var .i64 1100
def ldN : Tm := n71 ldI
def ldR : Tm := .fn .i64 51 (.cons ldN .nil)
def ldP : Tm := .op (.add .i64) ldI (.lit (-1))
def ldB1 : Bm := .cmp .lt ldN (.lit 0)
def ldB2 : Bm := .lop .or ldB1 (.not (.cmp .lt ldN (.lit 16777216)))
def ldC : Bm := .cmp .lt (.lit 0) ldI
def ldB3 : Bm := .lop .or ldB2 (.lop .and ldC (.not (.cmp .lt (n71 ldP) ldN)))
def ldR1 (b : Bm) : Bm := .lop .or b (.cmp .lt ldR (.lit 0))
def ldR2 (b : Bm) : Bm := .lop .or (ldR1 b) (.cmp .lt (.lit 7) ldR)
def ldR3 (b : Bm) : Bm := .lop .or (ldR2 b) (.not (.cmp .eq (inBl ldI) (.lit 256)))
def ldBad (n : Int) : Tree FV := .leaf (.done (some (.tup [.nilp, .int .i64 (.lit n)])) [])
def ldNx : Tree FV := .leaf (.cut 1 ⟨[(1100, .op (.add .i64) ldI (.lit 1))], []⟩)
def ldRest (b : Bm) : Tree FV := .split (ldR1 b) (ldBad 4) (.split (ldR2 b) (ldBad 4) (.split (ldR3 b) (ldBad 4) ldNx))
def ldT0 : Tree FV := .leaf (.cut 1 ⟨[(1100, .lit 0)], []⟩)
def ldT1 : Tree FV := .split (.cmp .lt ldI inLen) (.need (.not (.cmp .lt ldI (.lit 0))) (.split ldB1 (ldBad 4) (.split ldB2 (ldBad 4) (.split ldC (.need (.cmp .lt ldP inLen) (.split ldB3 (ldBad 4) (ldRest ldB3))) (ldRest ldB2)))))
  (.split (.cmp .lt (.lit 2000) inLen) (ldBad 2) (.leaf (.cut 2 ⟨[], []⟩)))
def ldDone (o p : SObj) : Tree FV := .leaf (.done (some (.tup [.ptr 27 (.lit 0), .int .i64 (.lit 0)])) [(21, o), (23, p), (27, .cells [.nilm, .map 21, .map 23] memT)])
def ldT2 : Tree FV := .split (.cmp .lt (.lit 0) inLen) (.need (.cmp .eq (inBl (.lit 0)) (.lit 256)) (.need (.cmp .lt (.lit 0) nPgs) (.leaf (.cut 3 ⟨[(1214, .lit 1), (1215, .lit 1), (1200, .lit 1)], []⟩)))) (ldDone (.smap [] 0) (.smap [] 0))
def ldK : Tm := .var .i64 1200
def ldA : Tm := .var .i64 1215
def ldO : Tm := .var .i64 1214
def ldT3 : Tree FV := .split (.cmp .lt ldK inLen) (.need (.not (.cmp .lt ldK (.lit 0))) (.need (.cmp .eq (inBl ldK) (.lit 256)) (.need (.not (.cmp .lt ldA (.lit 0))) (.need (.cmp .lt ldA nPgs) (.need (.cmp .eq (n71 ldK) (n71 ldA))
  (.need (.not (.cmp .lt ldO (.lit 0))) (.need (.cmp .lt ldO nPgs) (.need (.cmp .eq (n71 ldK) (n71 ldO)) (.leaf (.cut 3 ⟨[(1214, .op (.add .i64) ldO (.lit 1)), (1215, .op (.add .i64) ldA (.lit 1)), (1200, .op (.add .i64) ldK (.lit 1))], []⟩))))))))))
  (ldDone (.abs 86 (.cons ldA .nil) []) (.abs 87 (.cons ldO .nil) []))
theorem ld_fn : (fnOf Tryz.prog 41).isSome = true := by kernel_rfl
theorem ld_t0 : flowV Tryz.prog (ldE Tryz.prog) 41 [21, 23, 27] 1000 1 (ldCuts Tryz.prog) 300 ⟨ldS0 Tryz.prog, []⟩ = ldT0 := by kernel_rfl
theorem ld_t1 : flowV Tryz.prog (ldE Tryz.prog) 41 [21, 23, 27] 1000 1 (ldCuts Tryz.prog) 300 ⟨ldH Tryz.prog, []⟩ = ldT1 := by kernel_rfl
theorem ld_t2 : flowV Tryz.prog (ldE Tryz.prog) 41 [21, 23, 27] 1000 1 (ldCuts Tryz.prog) 300 ⟨ldF Tryz.prog, []⟩ = ldT2 := by kernel_rfl
theorem ld_t3 : flowV Tryz.prog (ldE Tryz.prog) 41 [21, 23, 27] 1000 1 (ldCuts Tryz.prog) 300 ⟨ldH2 Tryz.prog, []⟩ = ldT3 := by kernel_rfl
theorem ld_o0 : obsSame (flowO Tryz.prog (ldE Tryz.prog) 1000 1 (ldCuts Tryz.prog) 300 ⟨ldS0 Tryz.prog, []⟩) := by unfold obsSame; kernel_rfl
theorem ld_o1 : obsSame (flowO Tryz.prog (ldE Tryz.prog) 1000 1 (ldCuts Tryz.prog) 300 ⟨ldH Tryz.prog, []⟩) := by unfold obsSame; kernel_rfl
theorem ld_o2 : obsSame (flowO Tryz.prog (ldE Tryz.prog) 1000 1 (ldCuts Tryz.prog) 300 ⟨ldF Tryz.prog, []⟩) := by unfold obsSame; kernel_rfl
theorem ld_o3 : obsSame (flowO Tryz.prog (ldE Tryz.prog) 1000 1 (ldCuts Tryz.prog) 300 ⟨ldH2 Tryz.prog, []⟩) := by unfold obsSame; kernel_rfl
theorem ld_extOk {m : MM} {E : PgEnv} (hm : m.Ok) (hpg : PgsOf m E.L) (hL : E.L.length ≤ 9223372036854775807) {V : Val} (hV : IsPgV m E V) : @ExtOk V Tryz.prog (ldE Tryz.prog) := by
  rw [hV.eq]
  letI := pgVal m E V.ints V.bools
  exact ext_ok fnOk (by kernel_rfl) (pureCon_ok (noPure_ok _)) (pureCon_log _) (noXt_ok _) (axOr_ok (inAx_ok (fun _ => ⟨hpg, hm⟩) hL _ _) (axOr_ok (byAx_ok hm hpg hL _ _) (lmAx_ok hm _)))
    (axOr_safe (inAx_safe _ _ _) (axOr_safe (byAx_safe _ _) (lmAx_safe _)))
theorem ld_cuts {P : Program} {j : Nat} {C : Cut} (h : (ldCuts P)[j]? = some C) : (j = 0 ∧ C = ⟨ldS0 P, []⟩) ∨ (j = 1 ∧ C = ⟨ldH P, []⟩) ∨ (j = 2 ∧ C = ⟨ldF P, []⟩) ∨ (j = 3 ∧ C = ⟨ldH2 P, []⟩) := by
  match j, h with
  | 0, h => left; exact ⟨rfl, (Option.some.inj h).symm⟩
  | 1, h => right; left; exact ⟨rfl, (Option.some.inj h).symm⟩
  | 2, h => right; right; left; exact ⟨rfl, (Option.some.inj h).symm⟩
  | 3, h => right; right; right; exact ⟨rfl, (Option.some.inj h).symm⟩
  | j + 4, h => simp [ldCuts] at h
theorem pos_num {m : MM} (hm : m.Ok) {i : Nat} (hi : i < m.keys.length) : m.pos (m.num i) = i :=
  pos_eq (by omega) (fun j hj => num_lt hm hj hi) (fun j hj hjl => num_le hm hj hjl)
theorem dom_num {m : MM} (hm : m.Ok) {k : Int} : m.dom k = true ↔ ∃ i, i < m.keys.length ∧ m.num i = k := by
  rw [hm.mem]
  constructor
  · intro hk
    obtain ⟨i, hi, rfl⟩ := List.mem_iff_getElem.1 hk
    exact ⟨i, hi, num_get hi⟩
  · rintro ⟨i, hi, rfl⟩
    exact num_mem hi
theorem mem_made {m : MM} (hm : m.Ok) {b b1 b2 : Nat} {F1 F2 : Nat → Prop} {w : World} (hs : w.heap[b]? = some (.cells #[.map none, .map (some b1), .map (some b2)] memT)) (h1 : ∃ rs, LmP m false m.keys.length rs b1 F1 w) (h2 : ∃ rs, (loA m false m.keys.length rs).P b2 F2 w)
    (a1 : ∀ x, F1 x → x ≠ b) (a2 : ∀ x, F2 x → x ≠ b) (a3 : ∀ x, F1 x → ¬ F2 x) : ∃ D F, MemOk m MM.none 0 b D F w ∧ ∀ x, F x → x = b ∨ F1 x ∨ F2 x := by
  obtain ⟨_, es, ck, pb, L, f1, f2, _, f4, f5, f6, f7, f8, f9⟩ := h1
  obtain ⟨_, g1, o, g2, eo, co, Lo, v0, rfl, g3, _, g4⟩ := h2
  have hb1 : F1 b1 := (f9 _).2 (.inl rfl)
  have hb2 : F2 b2 := (g1 _).2 rfl
  have hpF : ∀ i, i < m.keys.length → F1 (pb i) := fun i hi => (f9 _).2 (.inr ⟨i, hi, rfl⟩)
  have hpos : ∀ k, m.dom k = true → m.pos k < m.keys.length ∧ m.num (m.pos k) = k := fun k hk => by
    obtain ⟨i, hi, rfl⟩ := (dom_num hm).1 hk
    rw [pos_num hm hi]; exact ⟨hi, rfl⟩
  refine ⟨⟨es, ck, eo, co, fun k => pb (m.pos k), m.dom, b1, b2, none⟩, fun x => x = b ∨ x = b1 ∨ x = b2 ∨ ∃ k, m.dom k = true ∧ x = pb (m.pos k), ⟨hs, f1, ⟨f2.keys, f2.stamped, fun k => ?_⟩, g2, ⟨Lo, g3, fun k hk => ?_⟩, fun c hc => (by cases hc), fun k hk _ => ?_, fun k hk ho => ?_, fun k k' hk hk' _ _ e => ?_, ⟨a1 _ hb1, a2 _ hb2, fun e => a3 _ hb1 (by have e : b2 = b1 := e; rw [← e]; exact hb2)⟩, fun c hc => (by cases hc), fun k hk _ => ?_, fun x => ?_⟩, fun x hx => ?_⟩
  · have hg := f2.get k
    by_cases hk : m.dom k = true
    · obtain ⟨p1, p2⟩ := hpos k hk
      have := f4 _ p1
      rw [p2] at this
      rw [hg, if_pos hk]; exact this
    · have : L k = none := f5 k fun i hi e => hk ((dom_num hm).2 ⟨i, hi, e⟩)
      rw [hg, if_neg hk]; exact this
  · obtain ⟨p1, p2⟩ := hpos k hk
    have := g4 _ p1
    rw [p2] at this
    rw [this]
    show _ = if m.dom k then _ else _
    rw [if_pos hk]
  · obtain ⟨p1, p2⟩ := hpos k hk
    have := f6 _ p1
    rw [p2] at this
    exact this
  · have ho : m.dom k = false := ho
    rw [hk] at ho; cases ho
  · obtain ⟨p1, p2⟩ := hpos k hk
    obtain ⟨q1, q2⟩ := hpos k' hk'
    have := f7 _ _ p1 q1 e
    rw [← p2, this, q2]
  · obtain ⟨p1, p2⟩ := hpos k hk
    have hF := hpF _ p1
    exact ⟨a1 _ hF, f8 _ p1, fun e => a3 _ hF (by have e : pb (m.pos k) = b2 := e; rw [e]; exact hb2), fun e => by cases e⟩
  · constructor
    · rintro (h | h | h | ⟨k, hk, h⟩)
      · exact .inl h
      · exact .inr (.inl h)
      · exact .inr (.inr (.inl h))
      · exact .inr (.inr (.inr (.inr ⟨k, hk, hk, h⟩)))
    · rintro (h | h | h | h | ⟨k, hk, _, h⟩)
      · exact .inl h
      · exact .inr (.inl h)
      · exact .inr (.inr (.inl h))
      · cases h
      · exact .inr (.inr (.inr ⟨k, hk, h⟩))
  · rcases hx with h | h | h | ⟨k, hk, h⟩
    · exact .inl h
    · exact .inr (.inl (h ▸ hb1))
    · exact .inr (.inr (h ▸ hb2))
    · exact .inr (.inl (h ▸ hpF _ (hpos k hk).1))
def LdPost (m : MM) (w : World) (e : Ending) (w' : World) : Prop := New w w' ∧ ∃ b D F, e = .returned (.tuple #[.pointer (some ⟨b, 0, none⟩), .int .i64 0]) ∧ MemOk m MM.none 0 b D F w' ∧ ∀ x, F x → w.heap.size ≤ x
set_option maxHeartbeats 4000000 in
theorem mload_c {w : World} {p : Option Addr} {l : List PgIn} {m : MM} (cap : Nat) (hp : PagesAt w p l) (hg : IsPg l) (hm : m.Ok) (hpg : PgsOf m l) :
    Calls Tryz.prog 41 #[.slice p l.length cap] w (LdPost m w) := by
  obtain ⟨i, hi⟩ := Option.isSome_iff_exists.1 ld_fn
  obtain ⟨E, rfl, ⟨F, hin⟩, hpp⟩ := in_of hp
  have hfew := hm.few
  have hlk : E.L.length = m.keys.length := hpg.len
  have hbd : -9223372036854775808 ≤ (m.keys.length : Int) ∧ (m.keys.length : Int) < 9223372036854775808 := by omega
  let V0 : Val := pgVal m E (fun _ => 0) (fun _ => false)
  let Inv : Nat → Val → Prop := fun j V => IsPgV m E V ∧ match j with
    | 0 => True
    | 1 => ∃ k : Nat, V.ints 1100 = k ∧ k ≤ m.keys.length
    | 2 => True
    | _ => ∃ k : Nat, V.ints 1200 = k ∧ V.ints 1214 = k ∧ V.ints 1215 = k ∧ k ≤ m.keys.length
  let μ : Nat → Val → Nat := fun j V => match j with
    | 0 => 2 * m.keys.length + 4
    | 1 => 2 * m.keys.length + 3 - (V.ints 1100).toNat
    | 2 => m.keys.length + 1
    | _ => (m.keys.length - (V.ints 1200).toNat : Nat)
  let Post : Val → Option SV → Ents → Prop := fun V v es => IsPgV m E V ∧ v = some (.tup [.ptr 27 (.lit 0), .int .i64 (.lit 0)]) ∧ ∃ o1 o2 k1 k2, es = [(21, o1), (23, o2), (27, .cells [.nilm, .map 21, .map 23] memT)] ∧ lmK 86 o1 = some k1 ∧ lmK 87 o2 = some k2 ∧ @Tm.v V k1 = m.keys.length ∧ @Tm.v V k2 = m.keys.length
  have hs0 : ldS0 Tryz.prog = sStart i 41 [.slp 84 (.lit 0)] inEnts 1 (2 ^ 200) := by
    unfold ldS0; rw [hi]
  have hcut : ∀ (j : Nat) (C : Cut), (ldCuts Tryz.prog)[j]? = some C → (j = 0 ∧ C = ⟨ldS0 Tryz.prog, []⟩) ∨ (j = 1 ∧ C = ⟨ldH Tryz.prog, []⟩) ∨ (j = 2 ∧ C = ⟨ldF Tryz.prog, []⟩) ∨ (j = 3 ∧ C = ⟨ldH2 Tryz.prog, []⟩) := fun j C h => ld_cuts (P := Tryz.prog) h
  refine calls_of_flow (X := fun _ => False) (w0 := w) (V := V0) (ρ := env1 E.b) (vs := [.slice p E.L.length cap]) (args := [.slp 84 (.lit 0)]) (ents := inEnts) (hi := 2 ^ 200) (fs := []) (keep := [21, 23, 27]) (lv := 1000) (npin := 1) (n := 300) (cuts := ldCuts Tryz.prog) (e := ldE Tryz.prog) fnOk Inv μ Post ?_ ?_ ?_ ?_ hi ?_ ?_ ?_ ?_ ?_
  · exact fun j V h => ld_extOk hm hpg (by omega) h.1
  · intro j C V h _
    rcases hcut j C h with ⟨_, rfl⟩ | ⟨_, rfl⟩ | ⟨_, rfl⟩ | ⟨_, rfl⟩ <;> exact fun p hp => absurd hp (by simp)
  · intro j C h
    rcases hcut j C h with ⟨_, rfl⟩ | ⟨_, rfl⟩ | ⟨_, rfl⟩ | ⟨_, rfl⟩
    · exact ld_o0
    · exact ld_o1
    · exact ld_o2
    · exact ld_o3
  · intro j C V h hI
    have hV := hI.1
    have hlen : @Tm.v V inLen = m.keys.length := by rw [hV.eq, ← hlk]; exact inLen_v (by omega)
    have hnp : @Tm.v V nPgs = m.keys.length := by rw [hV.eq]; exact nPgs_pv hm
    have hat : ∀ q, q < m.keys.length → E.L[q]? = some (E.at' (q : Int)) := fun q hq => at_get (E := E) (i := (q : Int)) rfl (by omega)
    have hbl : ∀ {t : Tm} {q : Nat}, @Tm.v V t = q → q < m.keys.length → @Tm.v V (inBl t) = 256 := fun {t q} ht hq => by
      show IntKind.i64.wrap (V.fi 92 [@Tm.v V t]) = _
      rw [hV.fi, ht]
      have h3 := (hpg.at' q _ (hat q hq)).2.2.1
      show IntKind.i64.wrap ((((E.at' (q : Int)).bs.length : Nat)) : Int) = _
      rw [h3]; rfl
    have h71 : ∀ {t : Tm} {q : Nat}, @Tm.v V t = q → q < m.keys.length → @Tm.v V (n71 t) = m.num q := fun {t q} ht hq => by
      show IntKind.i64.wrap (V.fi 71 [@Tm.v V t]) = _
      rw [hV.fi, ht]
      have := hm.num _ (num_mem (m := m) hq)
      exact wrap_i64_small (show (-9223372036854775808 : Int) ≤ m.num q by omega) (show m.num q ≤ (9223372036854775807 : Int) by omega)
    have same71 : ∀ {t u : Tm}, @Tm.v V t = @Tm.v V u → @Bm.v V (.cmp .eq (n71 t) (n71 u)) = true := fun {t u} h => by
      show (IntKind.i64.wrap (V.fi 71 [@Tm.v V t]) == IntKind.i64.wrap (V.fi 71 [@Tm.v V u])) = true
      rw [h]; simp
    have nonneg : ∀ {t : Tm} {q : Nat}, @Tm.v V t = q → @Bm.v V (.not (.cmp .lt t (.lit 0))) = true := fun {t q} h => by
      show (!decide (@Tm.v V t < 0)) = true
      rw [h]; simp
    have ltlen : ∀ {t : Tm} {q : Nat}, @Tm.v V t = q → @Bm.v V (.cmp .lt t inLen) = decide (q < m.keys.length) := fun {t q} h => by
      show decide (@Tm.v V t < @Tm.v V inLen) = _
      rw [h, hlen, decide_eq_decide]; omega
    have ltnp : ∀ {t : Tm} {q : Nat}, @Tm.v V t = q → q < m.keys.length → @Bm.v V (.cmp .lt t nPgs) = true := fun {t q} h hq => by
      show decide (@Tm.v V t < @Tm.v V nPgs) = true
      rw [h, hnp]; exact decide_eq_true (by omega)
    have succ : ∀ {t : Tm} {q : Nat}, @Tm.v V t = q → q < m.keys.length → @Tm.v V (.op (.add .i64) t (.lit 1)) = ((q + 1 : Nat) : Int) := fun {t q} h hq => by
      show IntKind.i64.wrap (@Tm.v V t + 1) = _
      rw [h, wrap_i64_small (by omega) (by omega)]; omega
    rcases hcut j C h with ⟨rfl, rfl⟩ | ⟨rfl, rfl⟩ | ⟨rfl, rfl⟩ | ⟨rfl, rfl⟩
    · rw [ld_t0]
      refine ⟨⟨hV.put _, 0, ?_, Nat.zero_le _⟩, ?_⟩
      · rw [put_t rfl]; rfl
      · show 2 * m.keys.length + 3 - ((V.put _).ints 1100).toNat < 2 * m.keys.length + 4
        omega
    · rw [ld_t1]
      obtain ⟨_, k, e1, hk⟩ := hI
      have q1 : @Tm.v V ldI = k := v_i64 e1 (by omega)
      refine ⟨fun hc => ?_, fun hc => ?_⟩
      · rw [ltlen q1] at hc
        have hc := of_decide_eq_true hc
        obtain ⟨g1, g2, g3, g4, g5⟩ := hg.at (hat k hc)
        obtain ⟨y1, y2, y3, y4⟩ := hpg.at' k _ (hat k hc)
        have vN : @Tm.v V ldN = m.num k := h71 q1 hc
        have vR : @Tm.v V ldR = (E.at' (k : Int)).r := by
          show IntKind.i64.wrap (V.fi 51 [@Tm.v V ldN]) = _
          rw [hV.fi, vN]
          show IntKind.i64.wrap (m.rt (m.num k)) = _
          rw [← y2]; exact wrap_i64_small (by omega) (by omega)
        rw [y1] at g1 g2
        have f1 : @Bm.v V ldB1 = false := by
          show decide (@Tm.v V ldN < 0) = false
          rw [vN]; exact decide_eq_false (by omega)
        have f2 : @Bm.v V ldB2 = false := by
          show (@Bm.v V ldB1 || !decide (@Tm.v V ldN < 16777216)) = false
          rw [f1, vN, decide_eq_true g2]; rfl
        have rest : ∀ b, @Bm.v V b = false → @Tree.sat V FV (fun x => match x with
            | .cut j' σ => Inv j' (V.put σ) ∧ μ j' (V.put σ) < μ 1 V
            | .done v ents => Post V v ents) (ldRest b) := fun b hb => by
          have r1 : @Bm.v V (ldR1 b) = false := by
            show (@Bm.v V b || decide (@Tm.v V ldR < 0)) = false
            rw [hb, vR, decide_eq_false (by omega)]; rfl
          have r2 : @Bm.v V (ldR2 b) = false := by
            show (@Bm.v V (ldR1 b) || decide (7 < @Tm.v V ldR)) = false
            rw [r1, vR, decide_eq_false (by omega)]; rfl
          have r3 : @Bm.v V (ldR3 b) = false := by
            show (@Bm.v V (ldR2 b) || !(@Tm.v V (inBl ldI) == 256)) = false
            rw [r2, hbl q1 hc]; rfl
          refine ⟨fun h => absurd (r1.symm.trans h) (by decide), fun _ => ⟨fun h => absurd (r2.symm.trans h) (by decide), fun _ => ⟨fun h => absurd (r3.symm.trans h) (by decide), fun _ => ⟨⟨hV.put _, k + 1, ?_, by omega⟩, ?_⟩⟩⟩⟩
          · rw [put_t rfl]; exact succ q1 hc
          · show 2 * m.keys.length + 3 - ((V.put _).ints 1100).toNat < 2 * m.keys.length + 3 - (V.ints 1100).toNat
            rw [put_t rfl, show @Tm.v V (.op (.add .i64) ldI (.lit 1)) = _ from succ q1 hc, e1]; omega
        refine ⟨nonneg q1, fun h => absurd (f1.symm.trans h) (by decide), fun _ => ⟨fun h => absurd (f2.symm.trans h) (by decide), fun _ => ⟨fun h6 => ⟨?_, ?_⟩, fun _ => rest _ f2⟩⟩⟩
        all_goals
          have hk0 : 0 < k := by
            have h6 : decide ((0 : Int) < @Tm.v V ldI) = true := h6
            rw [q1] at h6
            have := of_decide_eq_true h6; omega
          have vP : @Tm.v V ldP = ((k - 1 : Nat) : Int) := by
            show IntKind.i64.wrap (@Tm.v V ldI + -1) = _
            rw [q1, wrap_i64_small (by omega) (by omega)]; omega
        · rw [ltlen vP]; exact decide_eq_true (by omega)
        · have f3 : @Bm.v V ldB3 = false := by
            show (@Bm.v V ldB2 || (@Bm.v V ldC && !decide (@Tm.v V (n71 ldP) < @Tm.v V ldN))) = false
            have := num_lt hm (i := k - 1) (j := k) (by omega) hc
            rw [f2, h71 vP (by omega), vN, decide_eq_true this]; simp
          exact ⟨fun h => absurd (f3.symm.trans h) (by decide), fun _ => rest _ f3⟩
      · rw [ltlen q1] at hc
        refine ⟨fun h => ?_, fun _ => ⟨⟨hV.put _, trivial⟩, ?_⟩⟩
        · have h : decide ((2000 : Int) < @Tm.v V inLen) = true := h
          rw [hlen] at h
          have := of_decide_eq_true h; omega
        · show m.keys.length + 1 < 2 * m.keys.length + 3 - (V.ints 1100).toNat
          rw [e1]; omega
    · rw [ld_t2]
      have q0 : @Tm.v V (.lit 0) = ((0 : Nat) : Int) := rfl
      refine ⟨fun hc => ?_, fun hc => ?_⟩
      · rw [ltlen q0] at hc
        have hc := of_decide_eq_true hc
        refine ⟨?_, ltnp q0 hc, ⟨hV.put _, 1, ?_, ?_, ?_, by omega⟩, ?_⟩
        · show (@Tm.v V (inBl (.lit 0)) == 256) = true
          rw [hbl q0 hc]; rfl
        · rw [put_t rfl]; rfl
        · rw [put_t rfl]; rfl
        · rw [put_t rfl]; rfl
        · show m.keys.length - ((V.put _).ints 1200).toNat < m.keys.length + 1
          omega
      · rw [ltlen q0] at hc
        have hc := of_decide_eq_false hc
        exact ⟨hV, rfl, _, _, .lit 0, .lit 0, rfl, rfl, rfl, by show (0 : Int) = _; omega, by show (0 : Int) = _; omega⟩
    · rw [ld_t3]
      obtain ⟨_, k, e1, e2, e3, hk⟩ := hI
      have q1 : @Tm.v V ldK = k := v_i64 e1 (by omega)
      have q2 : @Tm.v V ldO = k := v_i64 e2 (by omega)
      have q3 : @Tm.v V ldA = k := v_i64 e3 (by omega)
      refine ⟨fun hc => ?_, fun hc => ?_⟩
      · rw [ltlen q1] at hc
        have hc := of_decide_eq_true hc
        refine ⟨nonneg q1, ?_, nonneg q3, ltnp q3 hc, same71 (q1.trans q3.symm), nonneg q2, ltnp q2 hc, same71 (q1.trans q2.symm), ⟨hV.put _, k + 1, ?_, ?_, ?_, by omega⟩, ?_⟩
        · show (@Tm.v V (inBl ldK) == 256) = true
          rw [hbl q1 hc]; rfl
        · rw [put_t rfl]; exact succ q1 hc
        · rw [put_t rfl]; exact succ q2 hc
        · rw [put_t rfl]; exact succ q3 hc
        · show m.keys.length - ((V.put _).ints 1200).toNat < m.keys.length - (V.ints 1200).toNat
          rw [put_t rfl, show @Tm.v V (.op (.add .i64) ldK (.lit 1)) = _ from succ q1 hc, e1]; omega
      · rw [ltlen q1] at hc
        have hc := of_decide_eq_false hc
        have : k = m.keys.length := by omega
        subst this
        exact ⟨hV, rfl, _, _, ldA, ldO, rfl, rfl, rfl, q3, q2⟩
  · rw [← hs0]; rfl
  · exact ⟨⟨rfl, rfl, rfl⟩, trivial⟩
  · exact denL_cons'.2 ⟨slp_den ⟨rfl, rfl, rfl⟩ (by omega) hpp, by simp⟩
  · exact in_den0 ⟨rfl, rfl, rfl⟩ hin
  · rintro V' v ents' ⟨hV, rfl, o1, o2, k1, k2, rfl, h1, h2, v1, v2⟩
    refine ⟨_, rfl, fun ρ' x w' _ hx hd => ⟨@new_of_den V' _ _ _ _ _ hd, ?_⟩⟩
    simp only [SV.Den, SI.lit_v] at hx
    obtain ⟨vs, hvs, rfl⟩ := hx
    obtain ⟨x0, _, rfl, y0, r0⟩ := denL_cons.1 hvs
    obtain ⟨x1, _, rfl, y1, r1⟩ := denL_cons.1 r0
    rw [denL_nil] at r1
    simp only [SV.Den, SOff.Den, SI.lit_v] at y0 y1
    obtain ⟨b, _, hb, rfl, rfl⟩ := y0
    obtain ⟨φ, dd⟩ := hd
    rw [hV.eq] at dd
    letI := pgVal m E V'.ints V'.bools
    have hl1 : find [(21, o1), (23, o2), (27, .cells [.nilm, .map 21, .map 23] memT)] 21 = some o1 := rfl
    have hl2 : find [(21, o1), (23, o2), (27, .cells [.nilm, .map 21, .map 23] memT)] 23 = some o2 := rfl
    have hl3 : find [(21, o1), (23, o2), (27, .cells [.nilm, .map 21, .map 23] memT)] 27 = some (.cells [.nilm, .map 21, .map 23] memT) := rfl
    obtain ⟨b1, hb1, O1⟩ := dd.obj _ _ hl1
    obtain ⟨b2, hb2, O2⟩ := dd.obj _ _ hl2
    obtain ⟨b3, hb3, O3⟩ := dd.obj _ _ hl3
    have hbb : b3 = b := Option.some.inj (hb3.symm.trans hb)
    subst hbb
    obtain ⟨f3, obj, hobj, cs, hcs, rfl⟩ := O3.block rfl
    obtain ⟨z0, _, rfl, t0, s0⟩ := denL_cons.1 hcs
    obtain ⟨z1, _, rfl, t1, s1⟩ := denL_cons.1 s0
    obtain ⟨z2, _, rfl, t2, s2⟩ := denL_cons.1 s1
    rw [denL_nil] at s2
    simp only [SV.Den] at t0 t1 t2
    obtain ⟨c1, hc1, rfl⟩ := t1
    obtain ⟨c2, hc2, rfl⟩ := t2
    have hcc : c1 = b1 := Option.some.inj (hc1.symm.trans hb1)
    subst hcc
    have hcc : c2 = b2 := Option.some.inj (hc2.symm.trans hb2)
    subst hcc
    subst t0 s2
    have L1 := lmK_lm (m := m) (E := E) (ints := V'.ints) (bools := V'.bools) h1 O1
    have L2 := lmK_lo (m := m) (E := E) (ints := V'.ints) (bools := V'.bools) h2 O2
    rw [hV.eq] at v1 v2
    rw [show (@Tm.v (pgVal m E V'.ints V'.bools) k1).toNat = m.keys.length by rw [v1]; exact Int.toNat_natCast _] at L1
    rw [show (@Tm.v (pgVal m E V'.ints V'.bools) k2).toNat = m.keys.length by rw [v2]; exact Int.toNat_natCast _] at L2
    have z1 := lmK_frz (by decide) h1
    have z2 := lmK_frz (by decide) h2
    obtain ⟨D, F', hM, hF⟩ := mem_made hm hobj L1 L2 (fun x hx e => absurd (dd.apart 21 27 _ _ x hl1 hl3 z1 hx (e ▸ (f3 b3).2 rfl)) (by decide)) (fun x hx e => absurd (dd.apart 23 27 _ _ x hl2 hl3 z2 hx (e ▸ (f3 b3).2 rfl)) (by decide))
      (fun x hx hx' => absurd (dd.apart 21 23 _ _ x hl1 hl2 z1 hx hx') (by decide))
    refine ⟨b3, D, F', ?_, hM, fun x hx => ?_⟩
    · rw [y1, r1]
    · rcases hF x hx with h | h | h
      · exact (dd.own 27 _ x hl3 rfl (h ▸ (f3 b3).2 rfl)).resolve_right fun h => h
      · exact (dd.own 21 _ x hl1 z1 h).resolve_right fun h => h
      · exact (dd.own 23 _ x hl2 z2 h).resolve_right fun h => h
end Go.Proofs.YtnoiijjkjcklpaaGreat
/- The library's maps.Keys, slices.Sorted, slices.Sort, as they lie in this program. -/
namespace Go.Proofs.YtnoiijjkjcklpaaGreat
open Go Go.Proofs Go.RowKit Go.Maps Go.Sort Go.Shelf
set_option linter.unusedVariables false
def keysA_ren : Ren where
  f := fun x => match x with
    | 7 => 90
    | 10 => 150
    | n => n
  t := fun x => match x with
    | 23 => 113
    | 26 => 3
    | 3 => 109
    | 28 => 168
    | 0 => 0
    | 27 => 167
    | 33 => 151
    | 4 => 4
    | n => n
  g := fun x => x
theorem keysA : SlLaysZI.n7 Tryz.prog keysA_ren where
  mixed := by kernel_rfl
  f7 := ⟨Tryz.f90.name, by kernel_rfl, by kernel_rfl⟩
  f10 := ⟨Tryz.f150.name, by kernel_rfl, by kernel_rfl⟩
  t0 := Tryz.underlying0
  a0 := Tryz.isAgg0
  z0 := Tryz.sizeOf0
  v0 := Tryz.zeroValue0
  t4 := Tryz.underlying4
  a4 := Tryz.isAgg4
  z4 := Tryz.sizeOf4
  v4 := Tryz.zeroValue4
  t23 := Tryz.underlying113
  a23 := Tryz.isAgg113
  z23 := Tryz.sizeOf113
  v23 := Tryz.zeroValue113
  t26 := Tryz.underlying3
  a26 := Tryz.isAgg3
  z26 := Tryz.sizeOf3
  v26 := Tryz.zeroValue3
  t27 := Tryz.underlying167
  a27 := Tryz.isAgg167
  z27 := Tryz.sizeOf167
  v27 := Tryz.zeroValue167
  t28 := Tryz.underlying168
  a28 := Tryz.isAgg168
  z28 := Tryz.sizeOf168
  v28 := Tryz.zeroValue168
  t33 := Tryz.underlying151
  a33 := Tryz.isAgg151
  z33 := Tryz.sizeOf151
  v33 := Tryz.zeroValue151
def sortedA_ren : Ren where
  f := fun x => match x with
    | 6 => 89
    | 8 => 148
    | 9 => 149
    | 11 => 171
    | 13 => 173
    | 12 => 172
    | 23 => 191
    | 24 => 192
    | 14 => 182
    | 15 => 183
    | 16 => 184
    | 17 => 185
    | 18 => 186
    | 19 => 187
    | 20 => 188
    | 21 => 189
    | 22 => 190
    | 25 => 194
    | 26 => 195
    | 27 => 196
    | 28 => 197
    | 29 => 198
    | 30 => 199
    | 31 => 201
    | n => n
  t := fun x => match x with
    | 26 => 3
    | 28 => 168
    | 24 => 107
    | 0 => 0
    | 3 => 3
    | 37 => 177
    | 48 => 23
    | 50 => 192
    | 4 => 4
    | 40 => 242
    | 39 => 241
    | 45 => 223
    | 5 => 5
    | 9 => 9
    | 51 => 248
    | 55 => 252
    | 57 => 254
    | 58 => 121
    | 33 => 151
    | n => n
  g := fun x => x
theorem sortedA : SlLaysZI.n6 Tryz.prog sortedA_ren where
  mixed := by kernel_rfl
  f6 := ⟨Tryz.f89.name, by kernel_rfl, by kernel_rfl⟩
  f8 := ⟨Tryz.f148.name, by kernel_rfl, by kernel_rfl⟩
  f11 := ⟨Tryz.f171.name, by kernel_rfl, by kernel_rfl⟩
  t0 := Tryz.underlying0
  a0 := Tryz.isAgg0
  z0 := Tryz.sizeOf0
  v0 := Tryz.zeroValue0
  t24 := Tryz.underlying107
  a24 := Tryz.isAgg107
  z24 := Tryz.sizeOf107
  v24 := Tryz.zeroValue107
  t26 := Tryz.underlying3
  a26 := Tryz.isAgg3
  z26 := Tryz.sizeOf3
  v26 := Tryz.zeroValue3
  t28 := Tryz.underlying168
  a28 := Tryz.isAgg168
  z28 := Tryz.sizeOf168
  v28 := Tryz.zeroValue168
  i26 := by kernel_rfl
def sortA_ren : Ren where
  f := fun x => match x with
    | 5 => 149
    | 8 => 173
    | 7 => 172
    | 19 => 191
    | 20 => 192
    | 10 => 182
    | 11 => 183
    | 12 => 184
    | 13 => 185
    | 14 => 186
    | 15 => 187
    | 16 => 188
    | 17 => 189
    | 18 => 190
    | 30 => 194
    | 31 => 195
    | 32 => 196
    | 33 => 197
    | 34 => 198
    | 35 => 199
    | 40 => 201
    | n => n
  t := fun x => match x with
    | 23 => 107
    | 25 => 3
    | 3 => 3
    | 32 => 177
    | 22 => 107
    | 0 => 0
    | 44 => 23
    | 46 => 192
    | 4 => 4
    | 36 => 242
    | 35 => 241
    | 41 => 223
    | 5 => 5
    | 9 => 9
    | 53 => 248
    | 57 => 252
    | 63 => 254
    | 64 => 121
    | n => n
  g := fun x => x
theorem sortA : SlLaysM.n5 Tryz.prog sortA_ren where
  mixed := by kernel_rfl
  f5 := ⟨Tryz.f149.name, by kernel_rfl, by kernel_rfl⟩
  f7 := ⟨Tryz.f172.name, by kernel_rfl, by kernel_rfl⟩
  f8 := by kernel_rfl
  f10 := ⟨Tryz.f182.name, by kernel_rfl, by kernel_rfl⟩
  f11 := ⟨Tryz.f183.name, by kernel_rfl, by kernel_rfl⟩
  f12 := ⟨Tryz.f184.name, by kernel_rfl, by kernel_rfl⟩
  f13 := ⟨Tryz.f185.name, by kernel_rfl, by kernel_rfl⟩
  f14 := ⟨Tryz.f186.name, by kernel_rfl, by kernel_rfl⟩
  f15 := ⟨Tryz.f187.name, by kernel_rfl, by kernel_rfl⟩
  f16 := ⟨Tryz.f188.name, by kernel_rfl, by kernel_rfl⟩
  f17 := ⟨Tryz.f189.name, by kernel_rfl, by kernel_rfl⟩
  f18 := ⟨Tryz.f190.name, by kernel_rfl, by kernel_rfl⟩
  f19 := by kernel_rfl
  f20 := by kernel_rfl
  f30 := ⟨Tryz.f194.name, by kernel_rfl, by kernel_rfl⟩
  f31 := by kernel_rfl
  f32 := by kernel_rfl
  f33 := ⟨Tryz.f197.name, by kernel_rfl, by kernel_rfl⟩
  f34 := ⟨Tryz.f198.name, by kernel_rfl, by kernel_rfl⟩
  f35 := ⟨Tryz.f199.name, by kernel_rfl, by kernel_rfl⟩
  f40 := ⟨Tryz.f201.name, by kernel_rfl, by kernel_rfl⟩
  t0 := Tryz.underlying0
  a0 := Tryz.isAgg0
  z0 := Tryz.sizeOf0
  v0 := Tryz.zeroValue0
  t3 := Tryz.underlying3
  a3 := Tryz.isAgg3
  z3 := Tryz.sizeOf3
  v3 := Tryz.zeroValue3
  t4 := Tryz.underlying4
  a4 := Tryz.isAgg4
  z4 := Tryz.sizeOf4
  v4 := Tryz.zeroValue4
  t5 := Tryz.underlying5
  a5 := Tryz.isAgg5
  z5 := Tryz.sizeOf5
  v5 := Tryz.zeroValue5
  t9 := Tryz.underlying9
  a9 := Tryz.isAgg9
  z9 := Tryz.sizeOf9
  v9 := Tryz.zeroValue9
  t22 := Tryz.underlying107
  a22 := Tryz.isAgg107
  z22 := Tryz.sizeOf107
  v22 := Tryz.zeroValue107
  t23 := Tryz.underlying107
  a23 := Tryz.isAgg107
  z23 := Tryz.sizeOf107
  v23 := Tryz.zeroValue107
  t25 := Tryz.underlying3
  a25 := Tryz.isAgg3
  z25 := Tryz.sizeOf3
  v25 := Tryz.zeroValue3
  t32 := Tryz.underlying177
  a32 := Tryz.isAgg177
  z32 := Tryz.sizeOf177
  v32 := Tryz.zeroValue177
  t35 := Tryz.underlying241
  a35 := Tryz.isAgg241
  z35 := Tryz.sizeOf241
  v35 := Tryz.zeroValue241
  t36 := Tryz.underlying242
  a36 := Tryz.isAgg242
  z36 := Tryz.sizeOf242
  v36 := Tryz.zeroValue242
  t41 := Tryz.underlying223
  a41 := Tryz.isAgg223
  z41 := Tryz.sizeOf223
  v41 := Tryz.zeroValue223
  t44 := Tryz.underlying23
  a44 := Tryz.isAgg23
  z44 := Tryz.sizeOf23
  v44 := Tryz.zeroValue23
  t46 := Tryz.underlying192
  a46 := Tryz.isAgg192
  z46 := Tryz.sizeOf192
  v46 := Tryz.zeroValue192
  t53 := Tryz.underlying248
  a53 := Tryz.isAgg248
  z53 := Tryz.sizeOf248
  v53 := Tryz.zeroValue248
  t57 := Tryz.underlying252
  a57 := Tryz.isAgg252
  z57 := Tryz.sizeOf252
  v57 := Tryz.zeroValue252
  t63 := Tryz.underlying254
  a63 := Tryz.isAgg254
  z63 := Tryz.sizeOf254
  v63 := Tryz.zeroValue254
  t64 := Tryz.underlying121
  a64 := Tryz.isAgg121
  z64 := Tryz.sizeOf121
  v64 := Tryz.zeroValue121
end Go.Proofs.YtnoiijjkjcklpaaGreat
/- The numbers of a memory's pages, increasing: known. -/
namespace Go.Proofs.YtnoiijjkjcklpaaGreat
open Go Go.Proofs Go.Sx Go.RowKit Go.Cd Go.MapKept Go.Maps Go.Sort
set_option linter.unusedVariables false
def anyEl : Value → Option (DataW Unit × List MemPlace) := fun _ => some (.lit (.bool true), [])
theorem insert_perm {H : Type} (x : Lit × DataW H) : ∀ l, (DataW.insert x l).Perm (x :: l)
  | [] => List.Perm.refl _
  | y :: r => by
    unfold DataW.insert
    split
    · exact List.Perm.refl _
    · exact ((insert_perm x r).cons y).trans (List.Perm.swap x y r)
theorem inserts_perm {H : Type} : ∀ l : List (Lit × DataW H), (l.foldr DataW.insert []).Perm l
  | [] => List.Perm.refl _
  | x :: l => (insert_perm x _).trans ((inserts_perm l).cons x)
def keyI (e : MapEntry) : Int := match e.key with
  | .int _ n => n
  | _ => 0
theorem keyI_eq {e : MapEntry} {n : Int} (h : e.key = .int .i64 n) : keyI e = n := by unfold keyI; rw [h]
theorem getE_mem {k : Int} : ∀ {es : List MapEntry}, IntKeys es → ((getE k es).isSome = true ↔ k ∈ es.map keyI)
  | [], _ => by simp [getE]
  | e :: es, h => by
    obtain ⟨n, hn⟩ := h e (List.mem_cons_self ..)
    have ih := getE_mem (k := k) (es := es) fun e he => h e (List.mem_cons_of_mem _ he)
    unfold getE
    rw [List.map_cons, List.mem_cons, keyI_eq hn, hn]
    by_cases c : n = k
    · subst c; simp [keyIs]
    · have : keyIs k (.int .i64 n) = false := by simp [keyIs, c]
      rw [this]
      simp only [Option.isSome_map, ih]
      constructor
      · exact .inr
      · rintro (h | h)
        · exact absurd h.symm c
        · exact h
theorem owns_of {w : World} {b : Nat} {es : List MapEntry} {ck : Nat} (hb : w.heap[b]? = some (.map es.toArray ck)) (hk : IntKeys es) (hs : Stamped es.toArray ck) (hw : ∀ e ∈ es, -9223372036854775808 ≤ keyI e ∧ keyI e < 9223372036854775808) (hn : es.length ≤ 2000) :
    ∃ D0 : DataW Unit, w.ownsMap Tryz.prog 3 anyEl b es.length D0 ∧ Maps.size D0 = es.length ∧ (intKeys D0).Perm (es.map keyI) := by
  have hrd : ∀ x ∈ es, Go.WideElems.rd Tryz.prog 3 anyEl x = some (.int .i64 (keyI x), .lit (.bool true)) := fun x hx => by
    obtain ⟨n, hx'⟩ := hk x hx
    have hwx := hw x hx
    rw [keyI_eq hx'] at hwx ⊢
    have hwf : (Lit.int .i64 n).wf = true := by
      have e1 : IntKind.i64.min = -9223372036854775808 := by decide
      have e2 : IntKind.i64.max = 9223372036854775807 := by decide
      show (decide (IntKind.i64.min ≤ n) && decide (n ≤ IntKind.i64.max)) = true
      rw [e1, e2, decide_eq_true hwx.1, decide_eq_true (by omega)]; rfl
    unfold Go.WideElems.rd
    rw [hx', keyOf_int_mk Tryz.underlying3 hwf]
    rfl
  have hrg : ∀ x ∈ es, Go.WideElems.rg Tryz.prog 3 anyEl x = (.int .i64 (keyI x), .lit (.bool true)) := fun x hx => by
    unfold Go.WideElems.rg; rw [hrd x hx]; rfl
  have hmap : es.map (Go.WideElems.rg Tryz.prog 3 anyEl) = es.map fun x => (Lit.int .i64 (keyI x), DataW.lit (.bool true)) := List.map_congr_left hrg
  refine ⟨_, ⟨es.toArray, ck, hb, ⟨by unfold maxLen; simp; omega, hs, fun x hx => ⟨_, hrd x (by simpa using hx)⟩⟩, by simp, rfl⟩, ?_, ?_⟩
  · show (List.foldr DataW.insert [] _).length = _
    rw [(inserts_perm _).length_eq]; simp
  · show ((List.foldr DataW.insert [] _).map fun p => Go.intOf p.1).Perm _
    refine ((inserts_perm _).map _).trans ?_
    rw [show es.toArray.toList = es from rfl, hmap, List.map_map]
    exact List.Perm.refl _
theorem num_get' {m : MM} {i : Nat} (hi : i < m.keys.length) : m.num i = m.keys[i] := by
  unfold MM.num
  rw [Int.toNat_natCast, List.getD_eq_getElem?_getD, List.getElem?_eq_getElem hi]; rfl
theorem sorted_merge {l k : List Int} (h : l.Perm k) (hk : k.Pairwise (· < ·)) : l.mergeSort leI = k := by
  rw [mergeSort_of_perm_i h]
  exact List.mergeSort_of_pairwise (hk.imp fun {a b} (hab : a < b) => by simp only [leI, decide_eq_true_eq]; omega)
theorem sortsA (m : Nat) : AnyZI.SortsIn Tryz.prog sortedA_ren Fence.wide m :=
  ⟨fun blk off cap ss W hH hblk hsz => callsIn_wide.2 (AnyM.slices_Sort_int sortA blk off cap ss W hH hblk hsz),
   fun p cap W => callsIn_wide.2 (AnyM.slices_Sort_int_none sortA p cap W)⟩
def KnPost (m : MM) (w : World) (e : Ending) (w' : World) : Prop := New w w' ∧ ((m.keys.length = 0 ∧ e = .returned (.slice none 0 0)) ∨ (0 < m.keys.length ∧ ∃ blk κ cs T, e = .returned (.slice (some ⟨blk, 0, none⟩) m.keys.length κ) ∧ w.heap.size ≤ blk ∧ m.keys.length ≤ κ ∧ w'.heap[blk]? = some (.cells cs T) ∧ ∀ i, i < m.keys.length → cs[i]? = some (.int .i64 (m.num i))))
theorem keysA_c (mb : Option Nat) (W : World) : CallsIn Fence.wide 5 Tryz.prog 90 #[.map mb] W fun e w' => e = .returned (.func (.func 150) #[] #[.pointer (some ⟨W.heap.size, 0, none⟩)]) ∧ w' = W.alloc (.cells #[.map mb] 113) :=
  AnyZI.keys_in keysA Fence.wide 5 trivial rfl mb W
set_option maxHeartbeats 2000000 in
theorem known_c {m : MM} (hm : m.Ok) {b bp : Nat} {c0 c2 : Value} {T0 : TypeId} {es : List MapEntry} {ck : Nat} {L : Int → Option Value} {w : World} (hs : w.heap[b]? = some (.cells #[c0, .map (some bp), c2] T0)) (p1 : w.heap[bp]? = some (.map es.toArray ck)) (hM : MapIs es ck L) (hL : ∀ k, (L k).isSome = m.dom k) : Calls Tryz.prog 48 #[.pointer (some ⟨b, 0, none⟩)] w (KnPost m w) := by
  have hcell : w.cell? ⟨b, 1, none⟩ = some (.map (some bp)) := cell_of_heap hs rfl
  have hmem : ∀ k, k ∈ es.map keyI ↔ k ∈ m.keys := fun k => by
    rw [← getE_mem hM.keys, ← hm.mem, ← hL k, ← hM.get k, Option.isSome_map]
  have hnd : (es.map keyI).Nodup := by
    have h3 := ((stamped_iff _ _).1 hM.stamped).2.2
    simp only at h3
    rw [List.Nodup, List.pairwise_map]
    refine h3.imp_of_mem fun {x y} hx hy hne e => hne ?_
    obtain ⟨n, hn⟩ := hM.keys x hx
    obtain ⟨n', hn'⟩ := hM.keys y hy
    rw [keyI_eq hn, keyI_eq hn'] at e
    rw [hn, hn', e]
  have hknd : m.keys.Nodup := hm.sorted.imp fun {a b} (h : a < b) => by omega
  have hperm : (es.map keyI).Perm m.keys := (List.perm_ext_iff_of_nodup hnd hknd).2 hmem
  have hlen : es.length = m.keys.length := by have := hperm.length_eq; simpa using this
  have hfew := hm.few
  obtain ⟨D0, hown, hsz, hik⟩ := owns_of p1 hM.keys hM.stamped (fun e he => by
    have := hm.num _ ((hmem _).1 (List.mem_map_of_mem he))
    omega) (by omega)
  have hbl := hown.lt
  have hbsz := lt_heap hs
  have hseq : SeqGives Fence.wide 2 Tryz.prog 150 #[.pointer (some ⟨w.heap.size, 0, none⟩)] encZ (fun ss => ss.Perm (intKeys D0)) (Maps.size D0) (w.alloc (.cells #[.map (some bp)] 113)) :=
    AnyZI.keys_gives (ρ := keysA_ren) { keysA with } Fence.wide _ trivial rfl (by omega) w.heap.size bp es.length D0 _ (by simp) (by simp) (by
      obtain ⟨es', clock, hb, Ft, hs', hD⟩ := hown
      exact ⟨es', clock, (Below.heap_alloc _ _ bp hbl).trans hb, Ft, hs', hD⟩)
  have cS := AnyZI.sorted_in sortedA Fence.wide 5 trivial trivial trivial trivial rfl (by omega) (sortsA _) (enters_of Tryz.func149 (by kernel_rfl) rfl) 150 #[.pointer (some ⟨w.heap.size, 0, none⟩)] trivial (enters_of Tryz.func150 (by kernel_rfl) rfl) _ _ (by unfold maxLen; omega) (by omega) _ hseq
  change CallsIn _ _ Tryz.prog 89 _ _ _ at cS
  have CS := Lib.hid cS
  have HK := Lib.hid hik
  have HP := Lib.hid hperm
  have HL := Lib.hid hlen
  have HF := Lib.hid hfew
  clear cS hik hperm hlen hseq hown hsz hM hL p1 hs hmem hnd hknd hfew
  refine (callsIn_wide (n := 6)).1 ?_
  have hfK : Fence.wide.fn 90 := trivial
  have hfS : Fence.wide.fn 89 := trivial
  refine callsIn_of_wp Tryz.func48 rfl trivial ?_ rfl
  simp only [Tryz.ntmps48, List.size_toArray, List.length_cons, List.length_nil, Nat.reduceAdd, Nat.reduceSub, Array.replicate_succ, Array.replicate_zero, List.push_toArray, List.append_toArray, List.nil_append, List.cons_append]
  gi_wp2_with (first
    | (gi_at_call 90; refine (keysA_c _ _).mono ?_; rintro e w' ⟨rfl, rfl⟩)
    | (gi_at_call 89; refine CS.out.mono ?_; rintro e w' ⟨v, ss, rfl, hS, hrow, hnil, hb⟩))
  go_ret
  have hss : ss.Perm m.keys := (hS.trans HK.out).trans HP.out
  have hsl : ss.length = m.keys.length := hss.length_eq
  have hms : ss.mergeSort leI = m.keys := sorted_merge hss hm.sorted
  have hN : New w w' := ((Below.refl _ w).alloc (Nat.le_refl _) _).trans (hb.mono (by simp))
  refine ⟨hN, ?_⟩
  have hF := HF.out
  rw [show ss.mergeSort (fun x y => decide (x ≤ y)) = m.keys from hms] at hrow
  rcases hrow.2 with ⟨rfl, hz⟩ | ⟨g, cap, cur, rfl, hbase, hg, r1, r2, r3, r4⟩
  · left
    exact ⟨by omega, rfl⟩
  · right
    have h0 : 0 < m.keys.length := by
      rcases Nat.eq_zero_or_pos m.keys.length with h | h
      · have : ss = [] := List.eq_nil_of_length_eq_zero (by omega)
        have := hnil.2 this
        cases this
      · exact h
    refine ⟨h0, g, cap, cur, _, by rw [hsl]; rfl, ?_, by omega, hg, fun i hi => ?_⟩
    · simp at hbase; omega
    · have h5 : (cur.toList.take (ss.length * 1))[i]? = (m.keys.map encZ)[i]? := by rw [r4]
      rw [List.getElem?_take_of_lt (by omega), List.getElem?_map, List.getElem?_eq_getElem hi, Array.getElem?_toList] at h5
      rw [h5, num_get' hi]; rfl
end Go.Proofs.YtnoiijjkjcklpaaGreat
/- mem.Save. -/
namespace Go.Proofs.YtnoiijjkjcklpaaGreat
open Go Go.Sx Go.RowKit Go.Cd Go.MapKept
set_option linter.unusedSimpArgs false
set_option linter.unusedVariables false
def conKn : Con := fun f args ents next => match Nat.beq f 48, args with
  | true, [.ptr h (.lit 0)] => match find ents 2 with
    | some (.abs 1061 _ [h']) => match Nat.beq h h' with
      | true => some (next + 2, .split (.cmp .lt (.lit 0) nPgs) (.leaf ⟨.sl next (.lit 0) (.sym nPgs) (.env (next + 1)), (next, .abs 1062 .nil []) :: ents, [next]⟩) (.leaf ⟨.nils, ents, []⟩))
      | false => none
    | _ => none
  | _, _ => none
theorem conKn_log : ConLog conKn := by
  intro f args ents next next' t h
  unfold conKn at h
  split at h <;> try (cases h; done)
  split at h <;> try (cases h; done)
  split at h <;> cases h
  refine ⟨fun x hx => ?_, fun _ _ => rfl⟩
  have hne : x ≠ next := fun e => hx (by simp [e])
  letI : Val := memVal ⟨fun _ => false, fun _ => 0, fun _ _ => 0, []⟩ (fun _ => 0) (fun _ => false)
  show find ((next, _) :: ents) x = _
  rw [find_cons, if_neg hne]
theorem conKn_ok {m : MM} {E : PgEnv} (hm : m.Ok) {V : Val} (hV : IsPgV m E V) : @ConOk V Tryz.prog conKn := by
  intro f args ents next next' t h
  unfold conKn at h
  split at h <;> try (cases h; done)
  rename_i hh hf
  have hf := Nat.eq_of_beq_eq_true hf
  split at h <;> try (cases h; done)
  rename_i a h' hl
  split at h <;> cases h
  rename_i hhh
  have hhh := Nat.eq_of_beq_eq_true hhh; subst hhh
  refine ⟨Nat.le_refl _, fun Q hQ vs w ρ X w0 F ha hd hF => ?_⟩
  obtain ⟨hQ1, hQ2⟩ := hQ
  obtain ⟨x0, _, rfl, y0, r0⟩ := denL_cons.1 ha
  rw [denL_nil] at r0
  simp only [SV.Den, SOff.Den] at y0
  obtain ⟨b, mm, hb, rfl, rfl⟩ := y0
  subst r0 hf
  have hd0 := hd
  obtain ⟨φ, dd⟩ := hd0
  obtain ⟨b2, hb2, rs, hrs, hK⟩ := dd.obj _ _ hl
  rw [hV.abs] at hK
  obtain ⟨c, rs', rfl, hc, _⟩ := hrs
  obtain rfl : c = b := Option.some.inj (hc.symm.trans hb)
  have hK : KmP m (c :: rs') b2 _ w := hK
  obtain ⟨bp, c0, c2, T, es, ck, L, k1, k2, k3, k4, k5, k6⟩ := hK
  obtain rfl := k6 c rfl
  have hnp : @Tm.v V nPgs = m.keys.length := by rw [hV.eq]; exact nPgs_pv hm
  have htest : @Bm.v V (.cmp .lt (.lit 0) nPgs) = decide ((0 : Int) < m.keys.length) := by
    show decide ((0 : Int) < @Tm.v V nPgs) = _
    rw [hnp]
  refine (known_c hm k1 k2 k3 k4).mono ?_
  rintro e w' ⟨hn, hp⟩
  rcases hp with ⟨h0, rfl⟩ | ⟨h0, blk, κ, cs, T', rfl, q1, q2, q3, q4⟩
  · refine ⟨ρ, _, _, hQ2 (by rw [htest]; exact decide_eq_false (by omega)), rfl, Env.le_refl _, by simp only [SV.Den], (hd.junk hn).fresh_mono fun j hj => hj.1⟩
  · have hle : ρ.le ((ρ.put next blk).put (next + 1) κ) := Env.le_trans (Env.le_put _ (hd.newName (hF _ (Nat.le_refl _) (by omega)))) (Env.le_put _ (by rw [Env.put_other _ _ (by omega)]; exact hd.newName (hF _ (by omega) (by omega))))
    have e1 : ((ρ.put next blk).put (next + 1) κ) next = some blk := by rw [Env.put_other _ _ (by omega), Env.put_same]
    refine ⟨_, _, _, hQ1 (by rw [htest]; exact decide_eq_true (by omega)), rfl, hle, ?_, ?_⟩
    · simp only [SV.Den, SN.Den, SOff.Den]
      exact ⟨blk, 0, _, κ, e1, rfl, hnp, Env.put_same _ _ _, q2, rfl⟩
    · refine hd.found hn hle (hF _ (Nat.le_refl _) (by omega)) e1 q1 (o := .abs 1062 .nil []) ?_ (fun j => find_cons ..) fun j hj => ?_
      · refine ⟨[], rfl, ?_⟩
        rw [hV.abs]
        exact ⟨fun x => Iff.rfl, _, q3, cs, T', rfl, q4⟩
      · have := hj.2
        rw [Env.put_other _ _ (by omega), Env.put_other _ _ (by omega)]
        exact hd.newName hj.1
def svEnts : Ents := [(0, .abs 1060 .nil [1]), (1, .abs 1050 .nil []), (2, .abs 1061 .nil [0])]
def svE (P : Program) : Ext := ext P conKn noXt (axOr (bs0Ax P) (axOr (knAx P) (axOr (sureAx (pmapAx P 1)) (axOr (byNewAx P 99 1) (axOr (laAx P) (ixAx P))))))
def svS0 (P : Program) : SState := match fnOf P 18 with
  | some i => sStart i 18 [.ptr 0 (.lit 0)] svEnts 3 (2 ^ 200)
  | none => badS
abbrev svL : Nat := 18446744073709551677
def svF (P : Program) : SState := headFst P (svE P) 18 300 [] (svS0 P)
def svH (P : Program) : SState := forgetK [0, 2, 3, 8, 9, 10] [0, 1, 2, 9, svL] (headInvG P (svE P) 18 1000 3 300 [] 1 1 (svS0 P))
def svCuts (P : Program) : List Cut := [⟨svS0 P, []⟩, ⟨svF P, []⟩, ⟨svH P, []⟩]
def svI : Tm := .var .i64 1002
def svO : Tm := .var .i64 1012
def svT0 : Tree FV := .split (.cmp .lt (.lit 0) nPgs) (.leaf (.cut 1 ⟨[], []⟩)) (.leaf (.done (some .nils) []))
def svFew : Bm := .not (.cmp .lt (.lit 65536) nPgs)
def svT1 : Tree FV := .split (.cmp .lt (.lit 0) nPgs) (.need svFew (.need (.fn 50 (.cons (n71 (.lit 0)) .nil)) (.leaf (.cut 2 ⟨[(1012, .lit 1), (1002, .lit 1), (1000, .lit 1)], []⟩)))) (.leaf (.done (some .nils) []))
def svT2 : Tree FV := .split (.cmp .lt svI nPgs) (.need (.not (.cmp .lt svI (.lit 0))) (.need svFew (.need (.fn 50 (.cons (n71 svI) .nil)) (.need (.cmp .eq cpsK svO) (.need (.cmp .eq (n71 svI) (n71 cpsK)) (.need (.not (.cmp .lt cpsK (.lit 0))) (.need (.cmp .lt cpsK nPgs)
  (.leaf (.cut 2 ⟨[(1012, .op (.add .i64) cpsK (.lit 1)), (1002, .op (.add .i64) svI (.lit 1)), (1000, .op (.add .i64) cpsK (.lit 1))], []⟩))))))))) (.leaf (.done (some (.sl svL (.lit 0) (.sym cpsK) (.env 18446744073709551678))) [(svL, .abs 85 (.cons svO .nil) [18446744073709551678])]))
theorem sv_fn : (fnOf Tryz.prog 18).isSome = true := by kernel_rfl
theorem sv_t0 : flowV Tryz.prog (svE Tryz.prog) 18 [svL] 1000 3 (svCuts Tryz.prog) 300 ⟨svS0 Tryz.prog, []⟩ = svT0 := by kernel_rfl
theorem sv_t1 : flowV Tryz.prog (svE Tryz.prog) 18 [svL] 1000 3 (svCuts Tryz.prog) 300 ⟨svF Tryz.prog, []⟩ = svT1 := by kernel_rfl
theorem sv_t2 : flowV Tryz.prog (svE Tryz.prog) 18 [svL] 1000 3 (svCuts Tryz.prog) 300 ⟨svH Tryz.prog, []⟩ = svT2 := by kernel_rfl
theorem sv_o0 : obsSame (flowO Tryz.prog (svE Tryz.prog) 1000 3 (svCuts Tryz.prog) 300 ⟨svS0 Tryz.prog, []⟩) := by unfold obsSame; kernel_rfl
theorem sv_o1 : obsSame (flowO Tryz.prog (svE Tryz.prog) 1000 3 (svCuts Tryz.prog) 300 ⟨svF Tryz.prog, []⟩) := by unfold obsSame; kernel_rfl
theorem sv_o2 : obsSame (flowO Tryz.prog (svE Tryz.prog) 1000 3 (svCuts Tryz.prog) 300 ⟨svH Tryz.prog, []⟩) := by unfold obsSame; kernel_rfl
def noEnv : PgEnv := ⟨[], 0, 0⟩
def pagesOf (m : MM) : List PgIn := m.keys.map fun k => ⟨k, m.rt k, none, 256, (List.range 256).map fun j : Nat => m.bt k j⟩
theorem pagesOf_of (m : MM) : PgsOf m (pagesOf m) where
  len := by simp [pagesOf]
  at' i x hx := by
    unfold pagesOf at hx
    rw [List.getElem?_map] at hx
    cases hk : m.keys[i]? with
    | none => rw [hk] at hx; cases hx
    | some k =>
      rw [hk] at hx; cases hx
      have : m.num i = k := by
        unfold MM.num
        rw [Int.toNat_natCast, List.getD_eq_getElem?_getD, hk]; rfl
      rw [this]
      exact ⟨rfl, rfl, by simp, fun j hj => by simp [List.getD_eq_getElem?_getD, hj]⟩
theorem sv_extOk {m : MM} {L : List PgIn} (hm : m.Ok) (hpg : PgsOf m L) (hL : L.length ≤ 9223372036854775807) {V : Val} (hV : IsPgV m ⟨L, 0, 0⟩ V) : @ExtOk V Tryz.prog (svE Tryz.prog) := by
  have hc := conKn_ok hm hV
  rw [hV.eq] at hc ⊢
  letI := pgVal m ⟨L, 0, 0⟩ V.ints V.bools
  exact ext_ok fnOk (by kernel_rfl) hc conKn_log (noXt_ok _) (axOr_ok (bs0Ax_ok _) (axOr_ok (knAx_ok hm _) (axOr_ok (sureAx_ok (pmapAx_okV hm (fun _ => rfl) (fun _ => rfl) (fun t ks rs ht => by
      unfold isPMap at ht
      split at ht <;> first | rfl | cases ht) (fun _ _ => rfl) _ 1)) (axOr_ok (byNewAx_ok hm hpg hL _ _ _) (axOr_ok (laAx_ok hm _) (ixAx_ok _))))))
    (axOr_safe (bs0Ax_safe _) (axOr_safe (knAx_safe _) (axOr_safe (sureAx_safe (pmapAx_safe _ _)) (axOr_safe (byNewAx_safe _ _ _) (axOr_safe (laAx_safe _) (ixAx_safe _))))))
theorem sv_cuts {P : Program} {j : Nat} {C : Cut} (h : (svCuts P)[j]? = some C) : (j = 0 ∧ C = ⟨svS0 P, []⟩) ∨ (j = 1 ∧ C = ⟨svF P, []⟩) ∨ (j = 2 ∧ C = ⟨svH P, []⟩) := by
  match j, h with
  | 0, h => left; exact ⟨rfl, (Option.some.inj h).symm⟩
  | 1, h => right; left; exact ⟨rfl, (Option.some.inj h).symm⟩
  | 2, h => right; right; exact ⟨rfl, (Option.some.inj h).symm⟩
  | j + 3, h => simp [svCuts] at h
def envS (b bp : Nat) : Env := fun h => match h with
  | 0 => some b
  | 1 => some bp
  | 2 => some b
  | _ => none
theorem sv_den {m : MM} {E : PgEnv} {V : Val} (hV : IsPgV m E V) {b bp : Nat} {F G : Nat → Prop} {w : World} (hb : MemP [bp] b (· = b) w) (hp : PMapP m [] [] bp F w) (hk : KmP m [b] b G w) : @DenH V (envS b bp) (fun _ => False) w (find svEnts) (Fr (fun _ => True) 0 3) w := by
  have look : ∀ {h : Nat} {o : SObj}, find svEnts h = some o → (h = 0 ∧ o = .abs 1060 .nil [1]) ∨ (h = 1 ∧ o = .abs 1050 .nil []) ∨ (h = 2 ∧ o = .abs 1061 .nil [0]) := fun {h o} ho => by
    match h, ho with
    | 0, ho => exact .inl ⟨rfl, by simpa [svEnts, find] using ho.symm⟩
    | 1, ho => exact .inr (.inl ⟨rfl, by simpa [svEnts, find] using ho.symm⟩)
    | 2, ho => exact .inr (.inr ⟨rfl, by simpa [svEnts, find] using ho.symm⟩)
    | h + 3, ho => cases (show (none : Option SObj) = some o from ho)
  have frz : ∀ {h : Nat} {o : SObj}, find svEnts h = some o → o.frz = true := fun {h o} ho => by
    rcases look ho with ⟨_, rfl⟩ | ⟨_, rfl⟩ | ⟨_, rfl⟩ <;> rfl
  refine ⟨fun h => match h with
    | 0 => (· = b)
    | 1 => F
    | _ => G, @DenHφ.mk V _ _ _ _ _ _ _ ?_ ?_ ?_ ?_ (fun _ _ _ => rfl) (Nat.le_refl _) rfl rfl rfl⟩
  · intro h o ho
    rcases look ho with ⟨rfl, rfl⟩ | ⟨rfl, rfl⟩ | ⟨rfl, rfl⟩
    · refine ⟨b, rfl, [bp], ⟨bp, [], rfl, rfl, rfl⟩, ?_⟩
      rw [hV.abs]; exact hb
    · refine ⟨bp, rfl, [], rfl, ?_⟩
      rw [hV.abs]; exact hp
    · refine ⟨b, rfl, [b], ⟨b, [], rfl, rfl, rfl⟩, ?_⟩
      rw [hV.abs]; exact hk
  · intro h h' o o' x ho _ hz
    rw [frz ho] at hz; cases hz
  · intro h o x ho hz
    rw [frz ho] at hz; cases hz
  · intro h hh
    have : 3 ≤ h := by
      rcases hh.2 with h1 | h1
      · omega
      · exact h1
    match h, this with
    | h + 3, _ => rfl
def SvPost (m : MM) (w : World) (e : Ending) (w' : World) : Prop := New w w' ∧ ∃ v F, e = .returned v ∧ ListOut m v F w' ∧ ∀ x, F x → w.heap.size ≤ x
set_option maxHeartbeats 4000000 in
theorem save_c {m : MM} (hm : m.Ok) {b bp : Nat} {F G : Nat → Prop} {w : World} (hb : MemP [bp] b (· = b) w) (hp : PMapP m [] [] bp F w) (hk : KmP m [b] b G w) : Calls Tryz.prog 18 #[.pointer (some ⟨b, 0, none⟩)] w (SvPost m w) := by
  obtain ⟨i, hi⟩ := Option.isSome_iff_exists.1 sv_fn
  have hpg := pagesOf_of m
  have hfew := hm.few
  have hpl : (pagesOf m).length ≤ 9223372036854775807 := by rw [hpg.len]; omega
  have hbd : -9223372036854775808 ≤ (m.keys.length : Int) ∧ (m.keys.length : Int) < 9223372036854775808 := by omega
  let E : PgEnv := ⟨pagesOf m, 0, 0⟩
  let V0 : Val := pgVal m E (fun _ => 0) (fun _ => false)
  let Inv : Nat → Val → Prop := fun j V => IsPgV m E V ∧ match j with
    | 0 => True
    | 1 => True
    | _ => ∃ k : Nat, V.ints 1000 = k ∧ V.ints 1002 = k ∧ V.ints 1012 = k ∧ k ≤ m.keys.length ∧ 0 < k
  let μ : Nat → Val → Nat := fun j V => match j with
    | 0 => m.keys.length + 2
    | 1 => m.keys.length + 1
    | _ => (m.keys.length - (V.ints 1000).toNat : Nat)
  let Post : Val → Option SV → Ents → Prop := fun V v es => IsPgV m E V ∧ ((v = some .nils ∧ m.keys.length = 0) ∨ (v = some (.sl svL (.lit 0) (.sym cpsK) (.env 18446744073709551678)) ∧ es = [(svL, .abs 85 (.cons svO .nil) [18446744073709551678])] ∧ V.ints 1000 = m.keys.length ∧ V.ints 1012 = m.keys.length ∧ 0 < m.keys.length))
  have hs0 : svS0 Tryz.prog = sStart i 18 [.ptr 0 (.lit 0)] svEnts 3 (2 ^ 200) := by
    unfold svS0; rw [hi]
  have hcut : ∀ (j : Nat) (C : Cut), (svCuts Tryz.prog)[j]? = some C → (j = 0 ∧ C = ⟨svS0 Tryz.prog, []⟩) ∨ (j = 1 ∧ C = ⟨svF Tryz.prog, []⟩) ∨ (j = 2 ∧ C = ⟨svH Tryz.prog, []⟩) := fun j C h => sv_cuts (P := Tryz.prog) h
  refine calls_of_flow (X := fun _ => False) (w0 := w) (V := V0) (ρ := envS b bp) (vs := [.pointer (some ⟨b, 0, none⟩)]) (args := [.ptr 0 (.lit 0)]) (ents := svEnts) (hi := 2 ^ 200) (fs := []) (keep := [svL]) (lv := 1000) (npin := 3) (n := 300) (cuts := svCuts Tryz.prog) (e := svE Tryz.prog) fnOk Inv μ Post ?_ ?_ ?_ ?_ hi ?_ ?_ ?_ ?_ ?_
  · exact fun j V h => sv_extOk hm hpg hpl h.1
  · intro j C V h _
    rcases hcut j C h with ⟨_, rfl⟩ | ⟨_, rfl⟩ | ⟨_, rfl⟩ <;> exact fun p hp => absurd hp (by simp)
  · intro j C h
    rcases hcut j C h with ⟨_, rfl⟩ | ⟨_, rfl⟩ | ⟨_, rfl⟩
    · exact sv_o0
    · exact sv_o1
    · exact sv_o2
  · intro j C V h hI
    have hV := hI.1
    have hnp : @Tm.v V nPgs = m.keys.length := by rw [hV.eq]; exact nPgs_pv hm
    have hlt : ∀ {t : Tm} {q : Nat}, @Tm.v V t = q → @Bm.v V (.cmp .lt t nPgs) = decide (q < m.keys.length) := fun {t q} h => by
      show decide (@Tm.v V t < @Tm.v V nPgs) = _
      rw [h, hnp, decide_eq_decide]; omega
    have q0 : @Tm.v V (.lit 0) = ((0 : Nat) : Int) := rfl
    have hfew' : @Bm.v V svFew = true := by
      show (!decide ((65536 : Int) < @Tm.v V nPgs)) = true
      rw [hnp, decide_eq_false (by omega)]; rfl
    have h71 : ∀ {t : Tm} {q : Nat}, @Tm.v V t = q → q < m.keys.length → @Tm.v V (n71 t) = m.num q := fun {t q} ht hq => by
      show IntKind.i64.wrap (V.fi 71 [@Tm.v V t]) = _
      rw [hV.fi, ht]
      have := hm.num _ (num_mem (m := m) hq)
      exact wrap_i64_small (show (-9223372036854775808 : Int) ≤ m.num q by omega) (show m.num q ≤ (9223372036854775807 : Int) by omega)
    have hdom : ∀ {t : Tm} {q : Nat}, @Tm.v V t = q → q < m.keys.length → @Bm.v V (.fn 50 (.cons (n71 t) .nil)) = true := fun {t q} ht hq => by
      show V.fb 50 [@Tm.v V (n71 t)] = true
      rw [hV.fb, h71 ht hq]
      exact (dom_num hm).2 ⟨q, hq, rfl⟩
    rcases hcut j C h with ⟨rfl, rfl⟩ | ⟨rfl, rfl⟩ | ⟨rfl, rfl⟩
    · rw [sv_t0]
      refine ⟨fun hc => ⟨⟨hV.put _, trivial⟩, by show m.keys.length + 1 < m.keys.length + 2; omega⟩, fun hc => ?_⟩
      rw [hlt q0] at hc
      have hc := of_decide_eq_false hc
      exact ⟨hV, .inl ⟨rfl, by omega⟩⟩
    · rw [sv_t1]
      refine ⟨fun hc => ?_, fun hc => ?_⟩
      · rw [hlt q0] at hc
        have hc := of_decide_eq_true hc
        refine ⟨hfew', hdom q0 hc, ⟨hV.put _, 1, ?_, ?_, ?_, by omega, by omega⟩, ?_⟩
        · rw [put_t rfl]; rfl
        · rw [put_t rfl]; rfl
        · rw [put_t rfl]; rfl
        · show m.keys.length - ((V.put _).ints 1000).toNat < m.keys.length + 1
          omega
      · rw [hlt q0] at hc
        have hc := of_decide_eq_false hc
        exact ⟨hV, .inl ⟨rfl, by omega⟩⟩
    · rw [sv_t2]
      obtain ⟨_, k, e1, e2, e3, hk, hk0⟩ := hI
      have q1 : @Tm.v V cpsK = k := v_i64 e1 (by omega)
      have q2 : @Tm.v V svI = k := v_i64 e2 (by omega)
      have q3 : @Tm.v V svO = k := v_i64 e3 (by omega)
      refine ⟨fun hc => ?_, fun hc => ?_⟩
      · rw [hlt q2] at hc
        have hc := of_decide_eq_true hc
        have p1 : @Tm.v V (.op (.add .i64) cpsK (.lit 1)) = ((k + 1 : Nat) : Int) := by
          show IntKind.i64.wrap (@Tm.v V cpsK + 1) = _
          rw [q1, wrap_i64_small (by omega) (by omega)]; omega
        have p2 : @Tm.v V (.op (.add .i64) svI (.lit 1)) = ((k + 1 : Nat) : Int) := by
          show IntKind.i64.wrap (@Tm.v V svI + 1) = _
          rw [q2, wrap_i64_small (by omega) (by omega)]; omega
        refine ⟨?_, hfew', hdom q2 hc, ?_, ?_, ?_, ?_, ⟨hV.put _, k + 1, ?_, ?_, ?_, by omega, by omega⟩, ?_⟩
        · show (!decide (@Tm.v V svI < 0)) = true
          rw [q2]; simp
        · show (@Tm.v V cpsK == @Tm.v V svO) = true
          rw [q1, q3]; simp
        · show (@Tm.v V (n71 svI) == @Tm.v V (n71 cpsK)) = true
          rw [h71 q1 hc, h71 q2 hc]; simp
        · show (!decide (@Tm.v V cpsK < 0)) = true
          rw [q1]; simp
        · rw [hlt q1]; exact decide_eq_true hc
        · rw [put_t rfl]; exact p1
        · rw [put_t rfl]; exact p2
        · rw [put_t rfl]; exact p1
        · show m.keys.length - ((V.put _).ints 1000).toNat < m.keys.length - (V.ints 1000).toNat
          rw [put_t rfl, p1, e1]; omega
      · rw [hlt q2] at hc
        have hc := of_decide_eq_false hc
        have : k = m.keys.length := by omega
        subst this
        exact ⟨hV, .inr ⟨rfl, rfl, e1, e3, hk0⟩⟩
  · rw [← hs0]; rfl
  · exact ⟨⟨rfl, rfl, rfl⟩, trivial⟩
  · exact denL_cons'.2 ⟨by simp only [SV.Den, SOff.Den]; exact ⟨b, 0, rfl, rfl, rfl⟩, by simp⟩
  · exact sv_den ⟨rfl, rfl, rfl⟩ hb hp hk
  · rintro V' v ents' ⟨hV, h⟩
    rcases h with ⟨rfl, h0⟩ | ⟨rfl, rfl, e1, e3, h0⟩
    · refine ⟨_, rfl, fun ρ' x w' _ hx hd => ⟨@new_of_den V' _ _ _ _ _ hd, _, fun _ => False, rfl, .inl ⟨h0, ?_, fun x h => h⟩, fun x h => h.elim⟩⟩
      simpa only [SV.Den] using hx
    · refine ⟨_, rfl, fun ρ' x w' _ hx hd => ⟨@new_of_den V' _ _ _ _ _ hd, ?_⟩⟩
      simp only [SV.Den, SN.Den, SOff.Den] at hx
      obtain ⟨b, _, n, κ, hb, rfl, hn, hκ, hle, rfl⟩ := hx
      obtain ⟨φ, dd⟩ := hd
      obtain ⟨b', hb', rs, hrs, hL⟩ := dd.obj svL _ rfl
      have hbb : b' = b := Option.some.inj (hb'.symm.trans hb)
      subst hbb
      obtain ⟨κ', rs', rfl, hκ', hr⟩ := hrs
      have hr : rs' = [] := hr
      subst hr
      have hkk : κ' = κ := Option.some.inj (hκ'.symm.trans hκ)
      subst hkk
      rw [hV.abs] at hL
      have q1 : @Tm.v V' cpsK = m.keys.length := v_i64 e1 hbd
      have q3 : @Tm.v V' svO = m.keys.length := v_i64 e3 hbd
      have hL : LstP m (@Tm.v V' svO).toNat [κ'] b' (φ svL) w' := hL
      rw [q3, Int.toNat_natCast] at hL
      have hn : n = m.keys.length := by
        have : @Tm.v V' cpsK = (n : Int) := hn
        exact Int.ofNat.inj (this.symm.trans q1)
      subst hn
      exact ⟨_, φ svL, rfl, .inr ⟨h0, b', κ', rfl, hle, hL⟩, fun x hx => (dd.own svL _ x rfl rfl hx).resolve_right fun h => h⟩
end Go.Proofs.YtnoiijjkjcklpaaGreat
